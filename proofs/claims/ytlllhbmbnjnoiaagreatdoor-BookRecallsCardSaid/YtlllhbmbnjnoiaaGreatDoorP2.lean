import Derived.Test.YtlllhbmbnjnoiaaGreatDoorP0
import Derived.Test.YtlllhbmbnjnoiaaGreatDoorP1
import Derived.Test.YtlllhbmbnjnoiaaGreatDoorProg
import Derived.Shelf.Strings.Builder1
import Derived.Shelf.Strings.Builder2
import Derived.Shelf.Strings.OnBuilder
import Derived.Shelf.Small.Bits
import Derived.Shelf.Utf8.RuneCount
import Derived.Shelf.Strconv.Atoi
import Derived.Shelf.Strconv.Itoa0
import Derived.Shelf.Strconv.Itoa1
import Derived.Shelf.LaysM
import Derived.Shelf.Strconv.Itoa2
import Derived.Shelf.Strconv.Itoa3
import Derived.Shelf.Strconv.AtoiErrFast
import Derived.Shelf.Strconv.ParseIntEmpty
import Derived.Shelf.Strconv.AtoiFail
import Derived.Shelf.Strconv.Clone
import Derived.Shelf.Strconv.SyntaxError
import Derived.Shelf.LaysC
import Derived.Shelf.Strconv.ToError
import Derived.Shelf.Strconv.Lower
import Derived.Shelf.Strconv.ParseUint10
import Derived.Shelf.Strconv.ParseUint10Empty
import Derived.Shelf.Strconv.ParseUint10Any
import Derived.Shelf.Strconv.ParseInt10
import Derived.Shelf.Strconv.AtoiLong
import Derived.Shelf.Strconv.AtoiInnerAll
import Derived.Shelf.Strconv.RangeError
import Derived.Shelf.Strconv.ToErrorRange
import Derived.Shelf.Strconv.AtoiAll
import Derived.Shelf.Strconv.ErrVarAll
import Derived.Shelf.Strings.Search1
import Derived.Shelf.Strings.Search2
import Derived.Shelf.Strings.Search3
import Derived.Shelf.Strings.Count
import Derived.Shelf.Strings.Shaped
import Derived.Shelf.Strings.Prefix
import Derived.Shelf.Strings.Split
import Derived.Shelf.Strings.SplitShaped
import Derived.Shelf.Unicode.Decode
import Derived.Shelf.Strings.RuneCount
import Derived.Shelf.Strings.Explode
import Derived.Shelf.Bits.Mul64
import Derived.Shelf.Unicode.DecodeSlow
import Derived.Shelf.Unicode.DecodeAny
import Derived.Shelf.Slices.Reverse
import Derived.Ground.Names2Prog
import Derived.Shelf.Slices.Clone
import Derived.Shelf.Slices.SearchI
import Derived.Shelf.Slices.Cells
import Derived.Shelf.Slices.Empties
import Derived.Ground.SlgnProg
import Derived.Shelf.SlicesE.Clone
import Derived.RecoverIn
import Derived.Shelf.Sort.Plain
set_option linter.unusedSimpArgs false
set_option linter.unusedVariables false
set_option maxHeartbeats 32000000
set_option maxRecDepth 100000
namespace Go.Proofs.YtlllhbmbnjnoiaaGreatDoor
open Go.RowKit
open Tryz
@[simp]abbrev PV.i(n:Int):PV:=.int .i64 n
@[simp]abbrev _root_.Go.Value.i(n:Int):Go.Value:=.int .i64 n
noncomputable section
def L8:aX :=⟨23,S [Pf 2] (.seq (S [OM 3 0] (.block 0 (.loop (.seq (aC [bM 4 3 0,nZ 6 5 4,qD 8 7 3,G 10 8 true (.bin false .lss (.t 9) (I 56)),Pp 11 8 10] (Ce 11 0)) (.seq (.block 1 (aC [bM 14 0 3,wU 16 1 14 15 1,O 18 (.x (.rI (.t 17))),Oc 19 .gtr 18 210] (Cd 19 (S [Pf 2] .ret) .skip))) (cK [iT 12 3 1 3])))))) (aC [oZ 20 0,Oc 22 .leq 21 55,Om 2 22] .ret)),[.tm 2]⟩
def L9:aX :=⟨108,S [Pf 0] (aC [Ok 11 28 [],O 12 (.aQ 9 1 [.c (.str ⟨#[116,101,115,116,32,55,32,51,32,50,48,32,54,48,48]⟩),.c (.str ⟨#[98,97,100,32,49]⟩),.c (.str ⟨#[116,101,115,116,32,55,32,50,32,50,48,32,54,48,48]⟩)]),Py 13 9 1 16 11 12,Ok 14 10 [.t 13],mE 10 14 15 0 16 1,Oe 17 10 2,NB 1 5 15,bM 2 16 17] (aC [Ok 19 28 [],Ok 20 16 [.t 19,I 1],mE 18 20 21 0 22 1,bM 4 21 22] (aC [Ok 24 28 [],Ok 25 20 [.t 24],mE 23 25 26 0 27 1,bM 6 26 27] (aC [O 29 (.aQ 9 1 [.c (.str ⟨#[97]⟩)]),Ok 30 29 [.t 29],mE 28 30 31 0 32 1,bM 8 31 32] (aC (.append [KH 33 3 0,qD 35 34 2,G 37 35 true (.len none (.t 36)),Kg 38 35 37 7 35 2 1 0 0,qD 46 45 2,G 48 46 true (.ia 1 none (.t 47) (I 1)),Pg 49 46 48,Kg 50 46 49 0 46 2 1 2 0,qD 58 57 2,G 60 58 true (.ia 1 none (.t 59) (I 3)),Pg 61 58 60,Kg 62 58 61 0 58 2 1 4 10,qD 70 69 2,G 72 70 true (.ia 1 none (.t 71) (I 5)),Pg 73 70 72,Kg 74 70 73 0 70 2 1 6 10,qD 82 81 5,SE 84 82 83 0 82,qD 86 85 4,G 88 86 true (.aQ 3 1 [I 0,I 1]),EY 89 86 19 87 88 86,qD 91 90 7,SE 93 91 92 0 91,qD 95 94 6,G 97 95 true (.x (.eqv false ⟨false,[.str]⟩ (.t 96) (.c (.str ⟨#[108,111,116,32,55,32,116,101,115,116,115,32,50,32,111,112,101,110,10,99,101,114,116,115,32,49,32,104,101,108,100,32,49,32,98,97,100,32,48,10,101,110,100,32,48,10]⟩)))),Pp 98 95 97,qD 99 98 9,SE 101 99 100 0 99] [qD 103 102 8,G 105 103 true (.x (.TU (.t 104))),G 106 103 true (.x (.eqv false ⟨false,[.str]⟩ (.t 105) (.c (.str ⟨#[123,48,48,49,58,57,57,56,58,48,48,49,48,57,125,97,10]⟩)))),Pp 107 103 106,Om 0 107]) .ret))))),[.tm 0]⟩
def L15:aX :=⟨31,S [O 2 (.alloc (.agg [E0,E0,E0,E0,E0])),Pe 3] (S [O 4 (.alloc (.agg [E0,E0,E0,E0,E0]))] (S [Pe 5] (.seq (S [OM 6 0] (.block 0 (.loop (.seq (aC [bM 9 6 0,nZ 11 10 9] (Ce 12 0)) (.seq (.block 1 (.seq (.jG (.op (Pm 17 0) (.op (Pm 18 6) (.op (Of 19 (.ia 1 none (.t 17) (.t 18))) (.op (Pt 16 5 4) (.op (Pl 20 19) (.seq (.alt (Ok 21 26 [.t 16,.t 20]) (.op (Om 15 21) (.op (Oe 22 15 0) (.op (Oe 23 15 1) (.alt (Of 7 (.alloc (.agg [E0,E0,E0,E0,E0]))) (.alt (Ns 5 7 22) .done .no) .no)))) (.alt (Of 7 (.alloc (.agg [E0,E0,E0,E0,E0]))) (.alt (Ok 21 26 [.t 16,.t 20]) (.op (Om 15 21) (.op (Oe 22 15 0) (.op (Oe 23 15 1) (.alt (Ns 5 7 22) .done .no)))) .no) .no)) (.op (Om 8 23) .done)))))))) (S [Ot 24 5 7,Ns 5 4 24] (cK [bM 25 5 8,H6 27 3 1 26 3 1 8 25 5])))) (cK [iT 13 6 1 6])))))) (S [Ot 29 5 4,Om 30 5,Ns 5 2 29,Om 3 30] .ret)))),[.cell 2 true 5,.tm 3]⟩
def L16:aX :=⟨70,S [Pe 4,OM 5 0] (.seq (aC [oT 13 0 30,Om 6 14] (aC [H5 15 6 0] (Cd 16 (S [Om 17 6,Pe 4,Om 5 17] .ret) .skip))) (aC [oT 19 0 31,mE 18 20 21 0 22 1,bM 7 21 22] (.seq (aC [bM 23 7 1,Ok 25 34 [.t 23,.t 24],Oo 26 25] (Cd 26 (S [Pe 4,OM 5 7] .ret) .skip)) (aC [O0 27 7 0,Ot 30 5 29,O 31 (.build (.agg [E0,E0,E0,E0,E0]) [(0,(5,(.t 30)))]),Ox 32 5 31,Om 9 32] (aC [bM 33 9 7,u0 35 34 0,bD 37 1 36 1,zW 39 1 35 38,u0 41 33 0,Oa 43 1 42,Ns 1 43 40] (S [Pe 10] (.seq (aC [O0 44 7 0,bD 47 3 46 1,wZ 49 48 0] (.block 0 (.loop (S [Ob 51 .lss 50 49] (.seq (Ce 51 0) (.seq (.block 1 (aC [Om 52 50,El 53 4 48 50 4 12,Om 11 52,Ns 4 12 54] (aC [Om 55 7,EZ 56 4 12 36 55,qD 58 57 9,ZAr 60 58 4 12 58 36 59,JA 62 58 61 58] (Cd 63 (cK [bM 64 10 11,H6 66 3 1 65 3 1 8 64 10]) .skip)))) (cK [pA 68 50 1 50]))))))) (aC [jU 69 10 4,OM 5 0] .ret)))))))),[.tm 4,.tm 5]⟩
def L18:aX :=⟨12,aC [Ox 2 5 0,tM 3 4 1] (aC [Pa 7 1 3,Pa 9 2 3,Pt 5 5 2,mY 8 7 10 9,Of 6 (.call (C 38) [.t 5]),Ok 11 37 [.t 6,.t 8,.t 10],Om 4 11] .ret),[.tm 4]⟩
def L19:aX :=⟨26,S [Pf 4] (.seq (aC [oZ 6 0,oZ 8 1,Ob 10 .neq 7 9] (Cd 10 (S [Pf 4] .ret) .skip)) (.seq (S [OM 5 0] (.block 0 (.loop (.seq (aC [bM 11 5 0,nZ 13 12 11] (Ce 14 0)) (.seq (.block 1 (aC [SD 17 0 5 1,SD 21 1 5 1,mY 20 19 24 23,Ob 25 .neq 20 24] (Cd 25 (S [Pf 4] .ret) .skip))) (cK [iT 15 5 1 5])))))) (S [O 4 (.dV Bt)] .ret))),[.tm 4]⟩
def L34:aX :=⟨12,aC [tM 3 1 1] (aC [O0 5 0 0,bD 8 0 7 1,VT 10 73 3 72 9,Om 4 11] .ret),[.tm 4]⟩
def L36:aX :=⟨19,aC [tM 3 4 1] (.seq (.jG (.op (Pm 8 0) (.op (Pa 10 1 3) (.op (Pa 12 2 3) (.seq (.alt (Ok 9 43 [.t 8]) (.op (Pl 11 10) (.op (Pl 13 12) .done)) (.alt (Pl 11 10) (.alt (Ok 9 43 [.t 8]) (.op (Pl 13 12) .done) (.alt (Pl 13 12) (.alt (Ok 9 43 [.t 8]) .done .no) .no)) (.alt (Pl 13 12) (.alt (Ok 9 43 [.t 8]) (.op (Pl 11 10) .done) (.alt (Pl 11 10) (.alt (Ok 9 43 [.t 8]) .done .no) .no)) .no))) (.alt (Ok 14 74 [.t 9,.t 11,.t 13]) (.op (Om 7 14) (.op (Oe 15 7 0) (.op (Oe 16 7 1) (.op (Om 5 15) (.op (Om 6 16) .done))))) .no)))))) (aC [KH 17 6 0,Om 4 18] .ret)),[.tm 4]⟩
def L38:aX :=⟨35,S [Ox 1 5 0,O 2 (.alloc (.agg [E0,E0]))] (S [Ok 5 77 [],O 6 (.build (.agg [E0,E0]) [(0,(1,(.t 5)))]),O 3 (.alloc (.agg [E0,E0])),Ns 2 3 6] (.seq (S [OM 4 0] (.block 0 (.loop (.seq (aC [Om 7 4,bD 8 0 1 1,nZ 10 9 7] (Ce 11 0)) (.seq (.block 1 (aC [Pa 14 1 1,Pa 16 0 1,Pm 18 4,mY 15 14 17 16,NC 19 7 17 18 0,Ok 22 76 [.t 15,.t 21],Oo 23 22] (Cd 23 (cK [Pa 24 1 3,Pa 26 0 1,Pm 28 4,Pl 25 24,ND 27 26 29 7 28,Pt 30 7 29,XU 31 82 7 30 82 7 56 25,Oa 33 1 3,Ns 1 33 32]) .skip))) (cK [iT 12 4 1 4])))))) (S [Ot 34 2 3,Ns 2 2 34] .ret))),[.cell 2 true 2]⟩
@[simp] def L62a:LT:=.alt (Of 112 (.jA 53 4 32 (.t 109) (.t 111))) .done .no
def L62:aX :=⟨118,aC [Ox 2 5 0,SC 4 0] (.seq (aC [Om 13 1,U5 14 1 13 1 1,TI 16 107 15 2 5,VS 18 17 1 1 2 1 107 0 1000,VS 25 24 1 1 3 1 107 0 2000] (Cd 31 (aC [uF 32 5 2 5 4 5 2] .ret) .skip)) (aC [rB 34 1 1 0,Pt 33 5 2,Pl 36 35,Ok 37 108 [.t 33,.t 36],Om 6 37] (.seq (S [Om 38 6,Oc 39 .lss 38 0] (Cd 39 (aC [uF 40 5 2 5 4 5 7] .ret) .skip)) (.seq (aC [Pa 43 2 2,Pm 45 6,Pt 42 5 2,ND 44 43 46 4 45,Pt 47 4 46,Ok 48 48 [.t 42,.t 47],mE 41 48 49 0 50 1,bM 7 49 50] (aC [H5 51 7 3,Om 53 52,rD 54 53 2 2 53 1,G 56 53 false (M 6),G 57 53 false (.ia 4 none (.t 55) (.t 56)),rD 58 53 3 57 53 1,Pq 60 53 59] (Cd 60 (aC [uF 61 5 2 5 4 5 8] .ret) .skip))) (S [OM 9 0] (.seq (S [OM 10 0] (.block 0 (.loop (.seq (aC [Om 62 10,bD 63 3 2 1,nZ 65 64 62] (Ce 66 0)) (.seq (.block 1 (aC [Pa 69 3 2,Pm 71 10,rB 75 1 1 0,Pl 70 69,NC 72 4 70 71 0,Pl 77 76,Ob 78 .eql 74 77] (Cd 78 (cK [iT 79 9 1 9]) .skip))) (cK [iT 67 10 1 10])))))) (.seq (aC [Om 81 9,bD 82 2 2 1,nW 84 6 4 83,bD 86 1 85 1,Ob 88 .geq 81 87] (Cd 88 (aC [uF 89 5 2 5 4 5 3] .ret) .skip)) (aC [rB 90 1 1 0,rB 93 1 1 1,rB 96 1 1 2,rB 99 1 1 3,mY 92 91 95 94,mY 98 97 101 100,O 102 (.build (.agg [Z0,Z0,Z0,Z0]) [(0,(1,(.t 92))),(1,(1,(.t 95))),(2,(1,(.t 98))),(3,(1,(.t 101)))]),Of 11 (.alloc (.agg [Z0,Z0,Z0,Z0])),Ns 4 11 102] (.seq (aC [Ot 103 5 2,EZ 104 4 11 18 103,Oo 106 105] (Cd 106 (aC [uF 107 5 2 5 4 5 10] .ret) .skip)) (aC [Ot 108 5 2,NB 12 5 108] (.seq (.jG (.op (Pa 110 3 2) (.op (Pl 111 110) (.op (Pt 113 4 11) (.seq (.alt (Of 109 (.aQ 53 4 [])) (.alt (Of 112 (.jA 53 4 32 (.t 109) (.t 111))) (.alt (Of 114 (.aQ 53 4 [.t 113])) .done .no) (.alt (Of 114 (.aQ 53 4 [.t 113])) L62a .no)) (.alt (Of 114 (.aQ 53 4 [.t 113])) (.alt (Of 109 (.aQ 53 4 [])) L62a .no) .no)) (.alt (Py 115 53 4 32 112 114) (.op (Oa 116 3 12) (.alt (Ns 1 116 115) .done .no)) .no)))))) (aC [uF 117 5 12 5 4 5 0] .ret)))))))))))),[.cell 4 true 5,.tm 5]⟩
def L63:aX :=⟨52,aC [Ox 2 5 0,SC 4 0] (aC [Ot 10 5 2,zW 11 1 108 10,Om 6 12] (.seq (S [Om 13 6,Oc 14 .lss 13 0] (Cd 14 (aC [uF 15 5 2 5 4 5 7] .ret) .skip)) (.seq (aC [bD 16 2 2 1,nW 18 6 4 17,bD 20 3 19 1] (Cd 21 (aC [uF 22 5 2 5 4 5 6] .ret) .skip)) (.seq (aC [Pa 25 2 2,Pm 27 6,Pt 24 5 2,ND 26 25 28 4 27,Pt 29 4 28,Ok 30 48 [.t 24,.t 29],mE 23 30 31 0 32 1,bM 7 31 32] (S [Om 33 7] (.block 0 (S [Oc 35 .eql 33 3,Om 34 35] (Cd 34 (aC [uF 36 5 2 5 4 5 8] .ret) (S [Oc 38 .eql 33 2,Om 37 38] (Cd 37 (aC [uF 39 5 2 5 4 5 11] .ret) .skip))))))) (aC [Ot 40 5 2,NB 9 5 40] (aC [O 41 (.aQ 62 4 []),bD 42 2 2 1,O 44 (.jA 62 4 32 (.t 41) (.t 43)),Oa 45 2 9,Ns 1 45 44] (aC [bD 46 2 9 1,nW 48 6 4 47,Oa 50 3 49,N (.store 1 (.t 50) Bt)] (aC [uF 51 5 9 5 4 5 0] .ret)))))))),[.cell 4 true 5,.tm 5]⟩
def L65:aX :=⟨6,S [Pf 2] (aC [Ia 3 0,Oc 5 .leq 4 200,Om 2 5] .ret),[.tm 2]⟩
def L66:aX :=⟨9,aC [tM 3 1 1] (aC [Om 5 0,VT 6 110 3 109 5,Oo 8 7,Om 4 8] .ret),[.tm 4]⟩
def Y74_0a:bC :=(cK [Z9 17 7 72])
def Y74_0b:bC :=(.block 4 (.seq (.jG (.op (Of 74 (.fa 0 (.t 17))) (.op (Of 73 (.load false 1 (.t 12))) (.op (Of 75 (.load false 1 (.t 74))) (.op (Of 76 (.x (.look ⟨false,[.int .i64]⟩ E0 false (.t 73) (.t 75)))) (.op (Of 78 (.load false 1 (.t 14))) (.seq (.alt (Of 77 (.call (C 69) [.t 76])) (.alt (Of 79 (.aQ 3 1 [.t 78])) .done .no) (.alt (Of 79 (.aQ 3 1 [.t 78])) (.alt (Of 77 (.call (C 69) [.t 76])) .done .no) .no)) (.alt (O 80 (.app 3 1 8 (.t 77) (.t 79))) (.op (Om 18 80) .done) .no)))))))) (aC [Ol 81 1 11,y7 82 7 17 81,Om 84 83,ZzC 85 84 1 16 84 84 18 1 16 115 0 84,O 93 (.pick (.t 84) (.t 92) Bf)] (Cd 93 (.region [Om 94 18,Ns 1 16 94]) .skip))))
def Y74_1a:bC :=(cK [Z9 20 7 115])
def Y74_1b:bC :=(.block 6 (aC [Ol 116 1 12,bD 117 0 20 1,O 119 (.x (.look ⟨false,[.int .i64]⟩ E0 false (.t 116) (.t 118))),Om 21 119] (aC [Ol 120 1 11,y7 121 7 20 120,Om 123 122,ZzC 124 123 1 19 123 123 21 1 19 115 0 123,O 132 (.pick (.t 123) (.t 131) Bf)] (Cd 132 (.region [Om 133 21,Ns 1 19 133]) .skip))))
noncomputable def L74:aX :=⟨136,S [Ox 3 2 0,Pe 6,OM 7 0] (aC [Ot 23 2 3,bM 24 1 2,Ok 26 112 [.t 23,.t 24,.t 25],mE 22 26 27 0 28 1,Oe 29 22 2,O 9 (.alloc .cT),Om 8 27,Ns 1 9 28,Om 10 29] (.seq (.block 0 (aC [H5 31 10 0,Om 30 32] (Cd 30 (S [Om 33 10,Pe 6,Om 7 33] .ret) (aC [O0 35 8 0,bD 38 0 37 1,nW 40 1 4 39,bD 42 1 41 1,Om 34 43] (Cd 34 (S [Pe 6,OM 7 0] .ret) .skip))))) (S [O 44 (.yB 113 [] [.t 9]),O 11 (.alloc .dP),Ns 1 11 44] (S [O 45 (.x .F9),O 12 (.alloc .cT),Ns 1 12 45] (.seq (aC [s9 46 8,bD 48 3 47 1,wZ 50 49 0] (.block 1 (.loop (S [Ob 52 .lss 51 50] (.seq (Ce 52 1) (.seq (.block 2 (aC [wU 53 1 49 51 1,O 14 (.alloc Z0),Ns 1 14 54] (aC [yR 55 8 2,Pl 58 57,Zz0 59 14 58 15,Ns 7 15 60] (.seq (aC [Ol 61 1 11,y7 62 7 15 61,Oo 64 63] (Cd 64 (.exit 2) .skip)) (S [O 16 (.alloc E0)] (.seq (aC [Om 65 8,bD 66 2 15 1,bD 68 3 15 1,Ol 70 1 14,Ok 71 114 [.t 65,.t 67,.t 69,.t 70]] (.block 3 (.vE 136 (.t 71) (fQ prog 74 0) Y74_0a Y74_0b [72]))) (.seq (aC [yR 95 8 0,Pa 98 0 97,Pa 100 2 15,mY 99 98 101 100,NC 102 4 99 101 1] (Cd 104 (.region [Ol 105 1 14,Pb 106 3 1 105,Ns 1 16 106]) .skip)) (.region [Ol 107 1 12,Ol 108 1 14,Ol 109 1 16,N (.x (.iK ⟨false,[.int .i64]⟩ (.t 107) (.t 108) (.t 109)))])))))))) (cK [pA 110 51 1 51]))))))) (S [O 19 (.alloc E0)] (.seq (aC [bM 111 8 1,Om 113 2,Ok 114 114 [.t 111,.t 112,.t 113,I 1000]] (.block 5 (.vE 136 (.t 114) (fQ prog 74 1) Y74_1a Y74_1b [115]))) (S [Ol 134 1 19,Ok 135 69 [.t 134],Om 6 135,OM 7 0] .ret)))))))),[.tm 6,.tm 7]⟩
theorem L74_ok:fT prog 74=some L74:=by kernel_rfl
def L77:aX :=⟨9,S [Pe 0] (aC [O 1 (.build (.agg [Z0,.bool false,Z0,Z0]) [(1,(1,Bt))]),O 2 (.build (.agg [Z0,Z0]) [(0,(1,(I (-2)))),(1,(1,(I 2)))]),Zzw 3 1 1 2 2 2 0 1 1 0 1 1 152 1 0] .ret),[.tm 0]⟩
def L79:aX :=⟨8,S [O 2 (.dV (.c (.str ⟨#[]⟩)))] (.seq (S [Om 3 0] (.block 0 (S [O 5 (.bin false .eql (.t 3) (.c (.int .u8 (1)))),Om 4 5] (Cd 4 (S [O 2 (.dV (.c (.str ⟨#[97,99,99,101,112,116,101,100]⟩)))] .ret) (S [O 7 (.bin false .eql (.t 3) (.c (.int .u8 (2)))),Om 6 7] (Cd 6 (S [O 2 (.dV (.c (.str ⟨#[114,101,106,101,99,116,101,100]⟩)))] .ret) .skip)))))) (S [O 2 (.dV (.c (.str ⟨#[111,112,101,110]⟩)))] .ret)),[.tm 2]⟩
def Y82_0a:bC :=(cK [Z9 8 7 42])
def Y82_0b:bC :=(.block 3 (cK [Ol 43 1 7,Om 44 43,G 45 44 false (.load false 1 (.t 3)),rD 46 44 0 8 44 1,ZAo 48 44 45 47 44,Ns 1 7 49]))
noncomputable def L82:aX :=⟨64,S [O 2 (.dV (.c .cT))] (S [O 9 (.x .F9),O 3 (.alloc .cT),Ns 1 3 9] (.seq (aC [s9 10 0,bD 12 3 11 1,wZ 14 13 0] (.block 0 (.loop (S [Ob 16 .lss 15 14] (.seq (Ce 16 0) (.seq (.block 1 (aC [wU 17 1 13 15 1,Om 5 18] (aC [s9 19 0,bD 21 2 20 1,Wt 23 5 22,Z9 6 7 24] (aC [yR 25 0 0,Pa 28 0 27,Pa 30 2 6,mY 29 28 31 30,NC 32 4 29 31 1,Of 7 (.alloc (.bool false)),Ns 1 7 34] (.seq (aC [Om 35 0,bD 36 2 6 1,bD 38 3 6 1,Om 40 5,Ok 41 114 [.t 35,.t 37,.t 39,.t 40]] (.block 2 (.vE 64 (.t 41) (fQ prog 82 0) Y82_0a Y82_0b [42]))) (cK [Pm 51 5,mY 50 3 52 7,Pm 53 52,XW 54 53 0 53 5,Gf 56 53 true (.vN (.t 54)),Gf 57 53 true (.fa 4 (.t 56)),Gf 58 53 true (.ia 1 (some 1000) (.t 57) (.t 55)),Pi 59 53 58,Gf 60 53 true (.not (.t 59)),Of 61 (.pick (.t 53) (.t 60) Bf),N (.x (.iK ⟨false,[.int .i64]⟩ (.t 50) (.t 51) (.t 61)))])))))) (cK [pA 62 15 1 15]))))))) (S [Ol 63 1 3,Om 2 63] .ret))),[.tm 2]⟩
theorem L82_ok:fT prog 82=some L82:=by kernel_rfl
def L87:aX :=⟨9,S [Pf 4] (aC [bM 5 0 1,Ok 7 124 [.t 5,.t 6],Oc 8 .geq 7 0,Om 4 8] .ret),[.tm 4]⟩
def L93:aX :=⟨4,S [Pe 0] (S [O 1 (.build (.agg [Z0,Z0]) [(0,(1,(I 10))),(1,(1,(I 13)))]),Pb 2 236 2 1,O 3 (.aQ 233 1 [.t 2,.c E0]),Om 0 3] .ret),[.tm 0]⟩
@[simp] def L94a:LT:=.alt (Ok 19 138 [.t 12,.t 14,.t 16,.t 18,I 1000]) (.op (Of 20 (.MT false 0 1 (.t 19))) .done) .no
def L94:aX :=⟨24,S [Ox 3 5 0,Ox 4 4 1,Pf 6] (aC [Q1 8 5 3 38,O 7 (.alloc (.agg [E0,E0])),Ns 2 7 9] (.seq (.jG (.op (Pa 10 3 4) (.op (Pa 15 1 4) (.op (Pa 17 2 4) (.op (Pm 22 2) (.op (Pt 12 2 7) (.op (Pt 13 2 7) (.op (Pl 16 15) (.op (Pl 18 17) (.seq (.alt (Pl 11 10) (.alt (Of 14 (.call (C 139) [.t 13])) L94a .no) (.alt (Of 14 (.call (C 139) [.t 13])) (.alt (Pl 11 10) L94a (.alt (Ok 19 138 [.t 12,.t 14,.t 16,.t 18,I 1000]) (.op (Of 20 (.MT false 0 1 (.t 19))) (.op (Pl 11 10) .done)) .no)) .no)) (.op (Ob 21 .add 11 20) (.op (Ob 23 .geq 21 22) (.op (Om 6 23) .done))))))))))))) .ret)),[.tm 6]⟩
def L95:aX :=⟨73,S [Ox 2 2 0,OM 4 0,OM 5 0,Pf 6] (S [OM 7 0,OM 8 0] (.seq (S [OM 9 0] (.block 0 (.loop (.seq (aC [Om 12 9,bD 13 1 2 1,nZ 15 14 12] (Ce 16 0)) (.seq (.block 1 (aC [bD 19 1 2 1,nW 21 9 3 20,Ot 23 3 22,IZ 10 3 23] (.seq (aC [oZ 24 1,Om 26 7,bD 27 0 10 1,Ob 29 .add 26 28,Ob 30 .lss 25 29] (Cd 30 (S [Pm 31 7,Pa 32 0 10,Pm 35 1,Of 36 (.len none (.t 35)),Of 4 (.dV (I 3)),Pl 33 32,Ob 34 .add 31 33,Ob 37 .sub 34 36,Om 5 37,O 6 (.dV Bt)] .ret) .skip)) (.seq (aC [jU 38 7 11] (.block 2 (.loop (.seq (aC [bM 39 11 7,bD 41 0 10 1,Ob 43 .add 40 42,Ob 44 .lss 39 43] (Ce 44 2)) (.seq (.block 3 (aC [bM 47 1 11,wU 49 1 47 48 1] (Cd 50 (cK [iT 51 8 1 8]) .skip))) (cK [iT 45 11 1 11])))))) (aC [Om 53 7,bD 54 0 10 1,DY 56 53 55 7] (.seq (aC [Om 57 8,bD 58 1 10 1,Ob 60 .leq 57 59] (Cd 60 (aC [oZ 61 1,Om 63 7,Ob 64 .eql 62 63,OM 4 1,OM 5 0,Om 6 64] .ret) .skip)) (aC [Om 65 8,bD 66 2 10 1,Ob 68 .geq 65 67] (Cd 68 (aC [oZ 69 1,Om 71 7,Ob 72 .eql 70 71,OM 4 2,OM 5 0,Om 6 72] .ret) .skip)))))))) (cK [iT 17 9 1 9])))))) (S [OM 4 0,OM 5 0,Pf 6] .ret))),[.tm 4,.tm 5,.tm 6]⟩
def L97:aX :=⟨53,S [Ox 4 2 0,Ox 5 7 1,Pf 8] (aC [bD 11 0 4 1,bD 13 2 5 1,Oi 15 4 12 14,bD 16 1 15 1,Om 9 17] (.seq (S [OM 10 0] (.block 0 (.loop (.seq (aC [Om 18 10,bD 19 1 4 1,nZ 21 20 18] (Ce 22 0)) (.seq (.block 1 (cK [Pm 25 9,Zz7 26 25 28 1 4 30 10 7 5 29 1 28 31 7 29 30 32 7 31,Gf 33 26 false (.call (C 140) [.t 27,.t 32]),Gf 34 26 false (M 33),Gf 35 34 true (M 3),Gf 36 34 true (.fa 1 (.t 4)),Gf 38 34 true (M 10),Nu 37 34 36 39 34 7 38,Gf 40 34 true (.fa 0 (.t 39)),Pi 41 34 40,G 42 34 true (.call (C 76) [.t 35,.t 41]),VU 43 26 34 42 26,Om 9 44])) (cK [iT 23 10 1 10])))))) (aC [Om 45 9,qD 46 45 2,F1 48 46 0 5 46,G 50 46 true (.call (C 76) [.t 47,.t 49]),JA 51 46 50 46,Om 8 52] .ret))),[.tm 8]⟩
def L100:aX :=⟨18,S [O 6 .other] (.block 0 (S [O 8 (.x (.LF false (.t 6)))] (Cd 8 (.region [Om 3 6]) (S [O 9 (.x (.KR 198 (.agg [Z0]) (.t 6))),Oe 10 9 1,Oe 11 9 0] (Cd 10 (S [O 4 (.alloc (.agg [Z0])),Ns 1 4 11] (.jG (.op (Pa 14 0 4) (.op (Pl 12 1) (.op (Pt 13 5 0) (.op (Pz 16 12) (.op (Pa 17 0 16) (.seq (.alt (Pl 15 14) (.alt (Nf (.store 5 (.t 17) (.t 13))) .done .no) (.alt (Nf (.store 5 (.t 17) (.t 13))) (.op (Pl 15 14) .done) .no)) (.alt (Ns 1 2 15) .done .no))))))))) (S [Om 5 6] (.region [Om 7 5,N (.x (.B3 (.t 7)))]))))))),[]⟩
def L104:aX :=⟨65,S [OM 2 0,Pf 3] (S [Pf 4,OM 5 0] (.seq (aC [Ia 7 0,Oc 9 .gtr 8 0,qD 10 9 0,G 12 10 true (.x (.A5 (.t 11) (I 0))),G 13 10 true (.bin false .eql (.t 12) (.c (.int .u8 (45)))),Pp 14 10 13] (Cd 14 (.region [O 4 (.dV Bt),OM 5 1]) .skip)) (.seq (aC [Ia 15 0,Om 17 5,Ob 18 .eql 16 17,XT 19 18 0,G 21 19 false (.x (.rI (.t 20))),G 22 19 false (M 5),G 23 19 false (.bin false .sub (.t 21) (.t 22)),G 24 19 false (.bin false .gtr (.t 23) (I 9)),Pq 25 19 24,Ws 26 25 0 5,G 30 26 false (.bin false .eql (.t 29) (.c (.int .u8 (48)))),G 31 26 false (M 30),Pn 32 31 0,G 33 31 true (.x (.rI (.t 32))),G 34 31 true (.bin false .gtr (.t 33) (I 1)),VU 35 26 31 34 26] (Cd 36 (S [OM 2 0,Pf 3] .ret) .skip)) (S [OM 6 0] (.seq (.block 0 (.loop (.seq (aC [bM 37 5 0,O 39 (.x (.rI (.t 38))),Ob 40 .lss 37 39] (Ce 40 0)) (.seq (.block 1 (.seq (aC [bM 43 0 5,O 45 (.x (.A5 (.t 43) (.t 44))),O 46 (.bin false .lss (.t 45) (.c (.int .u8 (48)))),Ws 47 46 0 5,G 51 47 false (.bin false .gtr (.t 50) (.c (.int .u8 (57)))),Pq 52 47 51] (Cd 52 (S [OM 2 0,Pf 3] .ret) .skip)) (cK [Om 53 6,O 54 (.bin false .mul (I 10) (.t 53)),bM 55 0 5,O 57 (.x (.A5 (.t 55) (.t 56))),O 58 (.bin false .sub (.t 57) (.c (.int .u8 (48)))),O 59 (.conv .i64 (.t 58)),DY 60 54 59 6]))) (cK [iT 41 5 1 5]))))) (.seq (S [Om 61 4] (Cd 61 (.region [Om 62 6,O 63 (.neg (.t 62)),Om 6 63]) .skip)) (aC [jU 64 6 2,O 3 (.dV Bt)] .ret))))))),[.tm 2,.tm 3]⟩
def L107:aX :=⟨15,S [Pf 6] (aC [bM 7 0 1,Ob 9 .geq 7 8,RZ 10 9 0 2 6] .ret),[.tm 6]⟩
def L110:aX :=⟨8,S [Pf 3] (S [Ol 4 1 1,Om 5 0,O 6 (.call (.t 4) [.t 5]),Oo 7 6,Om 3 7] .ret),[.tm 3]⟩
def L124:aX :=⟨19,S [OM 4 0] (.seq (aC [oZ 6 0,OM 8 0] (.block 0 (.loop (S [Ob 9 .lss 8 7] (.seq (Ce 9 0) (.seq (.block 1 (aC [jU 10 8 5] (aC [bM 11 1 0,nW 13 5 1 12,Ol 15 1 14,Ob 16 .eql 11 15] (Cd 16 (aC [jU 17 5 4] .ret) .skip)))) (cK [pA 18 8 1 8]))))))) (S [OM 4 (-1)] .ret)),[.tm 4]⟩
def L135:aX :=⟨48,S [Pe 4] (.seq (S [Om 9 1,Oc 10 .lss 9 0] (Cd 10 (.region [O 11 (.x (.sF 9 (.c (.str ⟨#[99,97,110,110,111,116,32,98,101,32,110,101,103,97,116,105,118,101]⟩)))),N (.x (.B3 (.t 11)))]) .skip)) (aC [oZ 13 0,O 15 (.conv .u64 (.t 14)),Om 16 1,O 17 (.conv .u64 (.t 16)),Ok 18 178 [.t 15,.t 17],mE 12 18 19 0 20 1,bM 5 19 20] (.seq (aC [Om 21 5,O 22 (.bin false .gtr (.t 21) (.c (.int .u64 (0)))),XT 23 22 6,G 25 23 false (.bin false .gtr (.t 24) (.c (.int .u64 (9223372036854775807)))),Pq 26 23 25] (Cd 26 (.region [O 27 (.x (.sF 9 (.c (.str ⟨#[116,104,101,32,114,101,115,117,108,116,32,111,102,32,40,108,101,110,40,120,41,32,42,32,99,111,117,110,116,41,32,111,118,101,114,102,108,111,119,115]⟩)))),N (.x (.B3 (.t 27)))]) .skip)) (S [Om 28 6,O 29 (.conv .i64 (.t 28)),O 30 (.UC 3 1 8 Z0 (.t 29) (.t 29)),Om 7 30] (aC [bM 31 7 0,O 33 (.x (.copy 1 (.t 31) (.t 32))),Om 8 33] (.seq (.block 0 (.loop (.seq (aC [bM 34 8 7,nZ 36 35 34] (Ce 37 0)) (.block 1 (cK [bM 38 8 7,Om 40 8,O 41 (.I9 1 none (.t 39) (some (.t 40)) none none),bM 42 7 8,O 44 (.I9 1 none (.t 42) none (some (.t 43)) none),O 45 (.x (.copy 1 (.t 41) (.t 44))),DY 46 38 45 8]))))) (aC [jU 47 7 4] .ret))))))),[.tm 4]⟩
def L143:aX :=⟨25,S [Ox 3 2 0,OM 6 0] (S [OM 7 0] (.seq (S [OM 8 0] (.block 0 (.loop (.seq (aC [bM 9 8 2,Ob 11 .lss 9 10] (Ce 11 0)) (.seq (.block 1 (cK [Pm 14 7,Pm 16 1,Pm 17 8,Pa 18 1 3,Pt 15 2 3,VV 19 18,Of 21 (.UC 4 1 1 (.bool false) (.t 20) (.t 20)),Ok 22 183 [.t 15,.t 16,.t 17,I 0,.t 21],DY 23 14 22 7])) (cK [iT 12 8 1 8])))))) (aC [jU 24 7 6] .ret))),[.tm 6]⟩
def L147:aX :=⟨9,S [O 0 (.dV (.c .cT))] (aC [O 1 (.x .F9),O 2 (.build (.agg [Z0,.dP]) [(0,(1,(I 7))),(1,(1,(C 187)))]),N (.x (.iK ⟨false,[.str]⟩ (.t 1) (.c (.str ⟨#[99,101,114,116]⟩)) (.t 2))),O 3 (.build (.agg [Z0,.dP]) [(0,(1,(I 1))),(1,(1,(C 188)))]),N (.x (.iK ⟨false,[.str]⟩ (.t 1) (.c (.str ⟨#[98,97,100]⟩)) (.t 3))),O 4 (.build (.agg [Z0,.dP]) [(0,(1,(I 3))),(1,(1,(C 189)))]),N (.x (.iK ⟨false,[.str]⟩ (.t 1) (.c (.str ⟨#[108,111,116]⟩)) (.t 4))),O 5 (.build (.agg [Z0,.dP]) [(0,(1,(I 4))),(1,(1,(C 190)))]),N (.x (.iK ⟨false,[.str]⟩ (.t 1) (.c (.str ⟨#[116,101,115,116]⟩)) (.t 5))),O 6 (.build (.agg [Z0,.dP]) [(0,(1,(I 1))),(1,(1,(C 191)))]),N (.x (.iK ⟨false,[.str]⟩ (.t 1) (.c (.str ⟨#[112,97,115,115]⟩)) (.t 6))),O 7 (.build (.agg [Z0,.dP]) [(0,(1,(I 3))),(1,(1,(C 192)))]),N (.x (.iK ⟨false,[.str]⟩ (.t 1) (.c (.str ⟨#[114,117,110]⟩)) (.t 7))),jU 8 1 0] .ret),[.tm 0]⟩
def L160:aX :=⟨79,S [Ox 1 2 0,OM 2 0] (.seq (.block 0 (aC [bD 8 1 1 1,On 10 9,Oc 11 .gtr 10 3,Om 7 11] (Cd 7 (S [OM 2 3] .ret) (aC [bD 13 0 1 1,TI 15 198 14 1 30,Om 17 16,rD 18 17 1 1 17 1,G 20 17 false (.len none (.t 19)),G 21 17 false (.bin false .eql (.t 20) (I 0)),Pq 22 17 21,Om 23 22,rD 24 23 1 1 23 1,G 26 23 false (.call (C 199) [.t 25,C 200]),U4 27 23 26 23,Om 12 28] (Cd 12 (S [OM 2 1] .ret) .skip))))) (S [OM 3 0] (aC [O 29 (.build (.agg [Z0,Z0,Z0]) [(0,(1,(I 0))),(1,(1,(I (-1)))),(2,(1,(I 0)))]),IZ 4 3 29] (.seq (aC [bD 30 1 1 1,wZ 32 31 0] (.block 1 (.loop (S [Ob 34 .lss 33 32] (.seq (Ce 34 1) (.seq (.block 2 (aC [Oi 35 3 31 33,Ot 36 3 35,IZ 6 3 36] (.seq (aC [bD 37 0 6 1,bD 39 0 1 1,Om 41 3,Ob 42 .sub 40 41,Ob 43 .gtr 38 42] (Cd 43 (S [OM 2 1] .ret) .skip)) (aC [Om 44 3,bD 45 0 6 1,DY 47 44 46 3] (.seq (aC [bD 48 1 6 1,bD 50 1 4 1,Ob 52 .lss 49 51,Om 53 52,rD 54 53 2 6 53 1,rD 56 53 2 4 53 1,G 58 53 false (.bin false .lss (.t 55) (.t 57)),Pq 59 53 58,Om 60 59,rD 61 60 2 6 60 1,rD 63 60 1 6 60 1,G 65 60 false (.bin false .add (.t 64) (I 1)),G 66 60 false (M 3),G 67 60 false (.bin false .add (.t 66) (I 1)),G 68 60 false (.call (C 198) [.t 62,.t 65,.t 67]),U4 69 60 68 60] (Cd 70 (S [OM 2 1] .ret) .skip)) (.region [Ot 71 3 6,Ns 3 4 71])))))) (cK [pA 72 33 1 33]))))))) (.seq (aC [bD 73 2 4 1,bD 75 1 4 1,Oc 77 .add 76 1,Ob 78 .neq 74 77] (Cd 78 (S [OM 2 1] .ret) .skip)) (S [OM 2 0] .ret)))))),[.tm 2]⟩
def L161:aX :=⟨15,S [Ox 2 3 0,O 4 (.dV (.c (.int .u8 (0))))] (.seq (.block 0 (aC [Om 6 1,bD 7 1 2 1,Ob 9 .leq 6 8,Om 5 9] (Cd 5 (S [O 4 (.dV (.c (.int .u8 (1))))] .ret) (aC [Om 11 1,bD 12 2 2 1,Ob 14 .geq 11 13,Om 10 14] (Cd 10 (S [O 4 (.dV (.c (.int .u8 (2))))] .ret) .skip))))) (S [O 4 (.dV (.c (.int .u8 (3))))] .ret)),[.tm 4]⟩
def L166:aX :=⟨11,aC [oZ 3 0,Om 2 4] (cK [bM 5 0 2,Om 7 2,O 8 (.conv .u64 (.t 7)),Ok 9 206 [.t 8],Ok 10 205 [.t 5,I 0,.t 6,.t 9]]),[]⟩
def L175:aX :=⟨8,S [Pf 3] (S [Ol 4 1 1,Om 5 0,O 6 (.call (.t 4) [.t 5]),Oo 7 6,Om 3 7] .ret),[.tm 3]⟩
def L179:aX :=⟨11,S [Ox 1 3 0,OM 2 0] (.seq (.block 0 (aC [bD 4 2 1 1,Oc 6 .eql 5 (-1),Om 3 6] (Cd 3 (S [OM 2 0] .ret) (aC [bD 8 1 1 1,Oc 10 .eql 9 (-1),Om 7 10] (Cd 7 (S [OM 2 1] .ret) .skip))))) (S [OM 2 2] .ret)),[.tm 2]⟩
def L180:aX :=⟨51,S [Ox 4 3 1] (.block 0 (.loop (.seq (S [Pm 8 2,Pt 7 3 4,Pt 9 3 4,Of 10 (.x (.look ⟨true,[.int .i64,.int .i64,.int .i64]⟩ (.agg [Z0,Z0,Z0]) false (.t 8) (.t 9))),O 11 (.x (.eqv true ⟨true,[.int .i64,.int .i64,.int .i64]⟩ (.t 7) (.t 10)))] (Ce 11 0)) (.block 1 (aC [Om 12 2,Ot 13 3 4,O 14 (.x (.look ⟨true,[.int .i64,.int .i64,.int .i64]⟩ (.agg [Z0,Z0,Z0]) false (.t 12) (.t 13))),IZ 6 3 14] (.seq (.block 2 (aC [Q1 16 3 4 179,Oc 18 .eql 17 2,Om 15 18] (Cd 15 (cK [yR 19 0 2,Pa 23 2 4,Pa 25 1 4,Pa 27 0 6,mY 22 21 24 23,Of 29 (.ia 4 none (.t 22) (.t 24)),mY 26 25 28 27,O 30 (.ia 1 (some 4) (.t 29) (.t 26)),Ns 1 30 28]) (aC [Q1 32 3 4 179,Oc 34 .eql 33 1,NF 35 34 3 6,G 37 35 true (.call (C 179) [.t 36]),SE 38 35 37 2 35,Om 31 39] (Cd 31 (cK [yR 40 0 2,Pa 44 2 4,Pa 46 1 6,mY 43 42 45 44,Of 48 (.ia 4 none (.t 43) (.t 45)),Pl 47 46,O 49 (.ia 1 (some 4) (.t 48) (.t 47)),N (.store 1 (.t 49) (I (-1)))]) .skip))))) (.region [Ot 50 3 6,Ns 3 4 50]))))))),[]⟩
def L187:aX :=⟨61,aC [bM 5 0 1,U5 7 1 6 0 1,Ok 9 34 [.t 5,.t 8],Oo 10 9,Ok 11 148 [.t 10,I 6]] (aC [Pm 12 0,yR 13 0 0,Pa 16 0 15,rB 18 1 1 0,rB 21 1 1 1,rB 24 1 1 2,rB 27 1 1 3,rB 30 1 1 4,rB 33 1 1 5,rB 36 1 1 6,mY 17 16 20 19,mY 23 22 26 25,mY 29 28 32 31,mY 35 34 38 37,Of 39 (.build (.agg [Z0,Z0]) [(0,(1,(.t 35))),(1,(1,(.t 38)))]),Of 40 (.build (.agg [Z0,Z0,Z0,Z0,Z0,Z0,Z0]) [(0,(1,(.t 20))),(1,(1,(.t 23))),(2,(1,(.t 26))),(3,(1,(.t 29))),(4,(1,(.t 32))),(5,(2,(.t 39)))]),Ok 41 229 [.t 17,.t 40],u0 42 12 0,Oa 44 0 43,Ns 1 44 41] (aC [oT 45 0 231,Ok 47 230 [.t 46],Om 4 47] (aC [KH 48 4 0,zW 50 4 148 49] (aC [oT 53 0 43,Ok 55 232 [.t 54],mE 52 55 56 0 57 1,Om 4 57] (cK [KH 58 4 7,Ok 60 148 [.t 59,I 9]]))))),[]⟩
def L191:aX :=⟨62,aC [bM 8 0 1,U5 10 1 9 0 1,Ok 12 236 [.t 8,.t 11],mE 7 12 13 0 14 1,bM 4 13 14] (S [Om 15 5,Ok 16 148 [.t 15,I 7]] (aC [O0 17 0 0,bD 20 2 19 1,nW 22 4 4 21,bD 24 3 23 1,Oo 26 25,Ok 27 148 [.t 26,I 6]] (aC [bM 28 0 0,u0 30 29 0,bD 32 2 31 1,nW 34 4 4 33,EZ 36 4 35 80 28,Om 6 37] (aC [ZAq 38 6 3,Ok 40 148 [.t 39,I 8]] (S [Om 41 6,O 42 (.bin false .eql (.t 41) (.c (.int .u8 (1)))),Ok 43 148 [.t 42,I 11]] (aC [bM 44 0 0,u0 46 45 0,bD 48 2 47 1,Ok 50 70 [.t 49],u0 51 44 0,Oa 53 2 52,Ns 1 53 50] (cK [O0 54 0 0,bD 57 2 56 1,nW 59 4 4 58,Oa 61 3 60,N (.store 1 (.t 61) Bt)]))))))),[]⟩
def L192:aX :=⟨68,aC [Om 7 1,U5 8 1 7 0 1,Ok 10 235 [.t 9,I 1,I 40],VR 11 10 1 1 1 235 0 40,VR 17 16 1 1 2 235 1 3,Ok 23 148 [.t 22,I 2]] (aC [O0 24 0 0,bD 27 4 26 1,On 29 28,Oc 30 .lss 29 6,Ok 31 148 [.t 30,I 3]] (aC [Pm 32 0,yR 33 0 0,Pa 36 4 35,rB 38 1 1 0,rB 41 1 1 1,rB 44 1 1 2,rB 48 1 1 2,mY 37 36 40 39,mY 43 42 46 45,Of 47 (.bin false .neq (.t 46) (I 2)),Pl 50 49,Of 51 (.bin false .neq (.t 50) (I 1)),Of 52 (.aQ 4 1 [.t 47,.t 51]),Of 53 (.build (.agg [Z0,Z0,E0]) [(0,(1,(.t 40))),(1,(1,(.t 43))),(2,(1,(.t 52)))]),Ok 54 239 [.t 37,.t 53],u0 55 32 0,Oa 57 4 56,Ns 1 57 54] (aC [oT 59 0 46,Ok 61 45 [.t 60],mE 58 61 62 0 63 1,Oe 64 58 2,bM 4 62 63,Om 6 64] (cK [KH 65 6 0,Ok 67 148 [.t 66,I 9]])))),[]⟩
def L198:aX :=⟨15,S [Pf 6] (aC [bM 7 1 0,Ob 9 .leq 7 8,RZ 10 9 0 2 6] .ret),[.tm 6]⟩
def L204:aX :=⟨8,aC [tM 2 7 0] (aC [Ol 4 1 1,y7 5 7 2 4,Oo 7 6,Om 3 7] .ret),[.tm 3]⟩
def L219:aX :=⟨20,S [Ox 3 3 1,Pe 4] (aC [yR 5 0 2,Pa 9 2 3,Pa 11 1 3,Pa 16 2 3,mY 8 7 10 9,Of 13 (.ia 4 none (.t 8) (.t 10)),Pl 12 11,Of 14 (.ia 1 (some 4) (.t 13) (.t 12)),mY 15 14 17 16,O 18 (.build (.agg [Z0,Z0,Z0]) [(0,(1,(.t 15))),(1,(1,(I (-1)))),(2,(1,(.t 17)))]),Pb 19 281 3 18,Om 4 19] .ret),[.tm 4]⟩
def L230:aX :=⟨11,S [Ox 1 2 0,OM 2 0] (aC [Q1 6 2 1 121,mE 5 7 8 0 9 1,bM 3 8 9] (aC [jU 10 4 2] .ret)),[.tm 2]⟩
def L241:aX :=⟨6,S [Pf 2] (aC [bM 3 0 0,Ob 5 .neq 3 4,Om 2 5] .ret),[.tm 2]⟩
@[simp] def L242a:LT:=.alt (Of 36 (.call (C 244) [.t 33,.t 35])) .done .no
@[simp] def L242b:LT:=.alt (Pl 23 22) (.alt (Ok 33 197 [.t 26,.t 28,.t 30,.t 32]) L242a .no) (.alt (Ok 33 197 [.t 26,.t 28,.t 30,.t 32]) (.op (Pl 23 22) L242a) .no)
@[simp] def L242c:LT:=.alt (Pl 23 22) (.alt (Pl 25 24) (.alt (Ok 33 197 [.t 26,.t 28,.t 30,.t 32]) L242a .no) (.alt (Ok 33 197 [.t 26,.t 28,.t 30,.t 32]) (.op (Pl 25 24) L242a) .no)) (.alt (Pl 25 24) L242b (.alt (Ok 33 197 [.t 26,.t 28,.t 30,.t 32]) (.op (Pl 23 22) (.op (Pl 25 24) L242a)) .no))
@[simp] def L242d:LT:=.alt (Pl 23 22) (.alt (Ok 33 197 [.t 26,.t 28,.t 30,.t 32]) (.op (Pt 35 2 34) L242a) (.alt (Pt 35 2 34) (.alt (Ok 33 197 [.t 26,.t 28,.t 30,.t 32]) L242a .no) .no)) (.alt (Ok 33 197 [.t 26,.t 28,.t 30,.t 32]) (.op (Pl 23 22) (.op (Pt 35 2 34) L242a)) (.alt (Pt 35 2 34) L242b .no))
@[simp] def L242e:LT:=.alt (Pl 20 2) (.op (Pz 21 20) (.op (Pa 22 2 21) L242b)) (.alt (Ok 33 197 [.t 26,.t 28,.t 30,.t 32]) (.op (Pl 20 2) (.op (Pz 21 20) (.op (Pa 22 2 21) (.op (Pl 23 22) L242a)))) .no)
@[simp] def L242f:LT:=.op (Pl 25 24) (.op (Pt 35 2 34) L242a)
def L242:aX :=⟨41,.seq (aC [oZ 6 0,Oc 8 .eql 7 0] (Cd 8 .ret .skip)) (.seq (aC [rB 13 0 1 0,JB 9 1 2,Pl 12 11,Zz0 15 14 12 5,Ns 7 5 16] (aC [Ol 17 1 2,EZ 18 7 5 243 17] (Cd 19 (.jG (.op (Pa 24 0 5) (.op (Pa 27 2 5) (.op (Pa 29 3 5) (.op (Pa 31 0 5) (.op (Pa 34 5 5) (.op (Pl 26 2) (.op (Pl 28 27) (.op (Pl 30 29) (.op (Pl 32 31) (.seq (.alt (Pl 20 2) (.op (Pz 21 20) (.op (Pa 22 2 21) (.alt (Pl 23 22) (.alt (Pl 25 24) (.alt (Ok 33 197 [.t 26,.t 28,.t 30,.t 32]) (.op (Pt 35 2 34) L242a) (.alt (Pt 35 2 34) (.alt (Ok 33 197 [.t 26,.t 28,.t 30,.t 32]) L242a .no) .no)) (.alt (Ok 33 197 [.t 26,.t 28,.t 30,.t 32]) L242f (.alt (Pt 35 2 34) (.alt (Pl 25 24) (.alt (Ok 33 197 [.t 26,.t 28,.t 30,.t 32]) L242a .no) (.alt (Ok 33 197 [.t 26,.t 28,.t 30,.t 32]) (.op (Pl 25 24) L242a) .no)) .no))) (.alt (Pl 25 24) L242d (.alt (Ok 33 197 [.t 26,.t 28,.t 30,.t 32]) (.op (Pl 23 22) L242f) (.alt (Pt 35 2 34) L242c .no)))))) (.alt (Pl 25 24) (.alt (Pl 20 2) (.op (Pz 21 20) (.op (Pa 22 2 21) L242d)) (.alt (Ok 33 197 [.t 26,.t 28,.t 30,.t 32]) (.op (Pl 20 2) (.op (Pz 21 20) (.op (Pa 22 2 21) (.op (Pl 23 22) (.op (Pt 35 2 34) L242a))))) (.alt (Pt 35 2 34) L242e .no))) (.alt (Ok 33 197 [.t 26,.t 28,.t 30,.t 32]) (.op (Pl 20 2) (.op (Pz 21 20) (.op (Pa 22 2 21) (.op (Pl 23 22) L242f)))) (.alt (Pt 35 2 34) (.alt (Pl 20 2) (.op (Pz 21 20) (.op (Pa 22 2 21) L242c)) (.alt (Pl 25 24) L242e (.alt (Ok 33 197 [.t 26,.t 28,.t 30,.t 32]) (.op (Pl 20 2) (.op (Pz 21 20) (.op (Pa 22 2 21) (.op (Pl 23 22) (.op (Pl 25 24) L242a))))) .no))) .no)))) (.alt (N (.x (.iK ⟨false,[.int .i64]⟩ (.t 23) (.t 25) (.t 36)))) .done .no)))))))))))) .skip))) (.region [Pm 38 0,Of 39 (.I9 1 none (.t 38) (some (I 1)) none none),Pl 37 3,O 40 (.call (.t 37) [.t 39])])),[]⟩
def L277:aX :=⟨8,aC [tM 2 7 0] (aC [bD 4 0 2 1,Ol 6 1 1,Ob 7 .eql 5 6,Om 3 7] .ret),[.tm 3]⟩
def L278:aX :=⟨6,S [Pf 2] (aC [bM 3 0 0,Ob 5 .neq 3 4,Om 2 5] .ret),[.tm 2]⟩
def L281:aX :=⟨49,S [OM 6 0,Pf 7] (aC [oZ 12 0,Om 8 13] (S [Om 14 8,OM 9 0,Om 10 14] (.seq (.block 0 (.loop (.seq (aC [bM 15 9 10,Ob 17 .lss 15 16] (Ce 17 0)) (.block 1 (aC [bM 18 9 10,ZAi 20 18 19 1 11] (aC [bM 24 2 0,nW 26 11 4 25,Ot 28 4 27,Om 29 1,O 30 (.call (.t 24) [.t 28,.t 29]),Oc 31 .lss 30 0] (Cd 31 (cK [iT 32 11 1 9]) (cK [jU 34 11 10])))))))) (aC [bM 35 9 9,Om 37 8,Ob 38 .lss 36 37,qD 39 38 2,Pn 41 39 0,Nv 42 39 9 39 4 41,G 44 39 true (.load true 4 (.t 43)),Pn 45 39 1,G 46 39 true (.call (.t 40) [.t 44,.t 45]),SE 47 39 46 0 39,bM 6 35 48] .ret)))),[.tm 6,.tm 7]⟩
def L311:aX :=⟨25,S [OM 2 0] (.seq (aC [oZ 5 0,Oc 7 .lss 6 1] (Cd 7 (.region [O 8 (.x (.sF 9 (.c (.str ⟨#[115,108,105,99,101,115,46,77,105,110,58,32,101,109,112,116,121,32,108,105,115,116]⟩)))),N (.x (.B3 (.t 8)))]) .skip)) (aC [Om 9 0,U5 10 1 9 0 1,Om 3 11] (.seq (S [OM 4 1] (.block 0 (.loop (.seq (aC [bM 12 4 0,nZ 14 13 12] (Ce 15 0)) (.seq (.block 1 (cK [bM 18 3 0,nW 20 4 1 19,Ol 22 1 21,O 23 (.iW false (.t 18) (.t 22)),Om 3 23])) (cK [iT 16 4 1 4])))))) (aC [jU 24 3 2] .ret)))),[.tm 2]⟩
end
noncomputable section
def L10:aX :=⟨24,S [O 2 (.alloc (.agg [E0,E0,E0,E0,E0])),Pe 3,OM 4 0] (.seq (aC [oT 7 0 30,Om 5 8] (aC [H5 9 5 0] (Cd 10 (S [O 11 (.build (.agg [E0,E0,E0,E0,E0]) []),Om 12 5,Ns 5 2 11,Pe 3,Om 4 12] .ret) .skip))) (aC [oT 14 0 31,mE 13 15 16 0 17 1,Om 6 16,Om 3 17] (aC [O0 18 6 0,Q1 21 5 20 32,Om 23 3,Ns 5 2 22,Om 3 23,OM 4 0] .ret))),[.cell 2 true 5,.tm 3,.tm 4]⟩
def L17:aX :=⟨21,S [Ox 2 5 0,Pf 4] (.seq (S [OM 5 0] (.block 0 (.loop (.seq (aC [Om 6 5,bD 7 0 2 1,nZ 9 8 6] (Ce 10 0)) (.seq (.block 1 (aC [bD 13 0 2 1,nW 15 5 7 14,bD 17 0 16 1,Om 19 1,Ob 20 .eql 18 19] (Cd 20 (S [O 4 (.dV Bt)] .ret) .skip))) (cK [iT 11 5 1 5])))))) (S [Pf 4] .ret)),[.tm 4]⟩
def L22:aX :=⟨40,S [Pe 2,OM 3 0] (.seq (aC [oT 10 0 30,Om 4 11] (aC [H5 12 4 0] (Cd 13 (S [Om 14 4,Pe 2,Om 3 14] .ret) .skip))) (aC [oT 16 0 31,mE 15 17 18 0 19 1,bM 5 18 19] (S [Pe 7] (.seq (aC [O0 20 5 0,bD 23 2 22 1,wZ 25 24 0] (.block 0 (.loop (S [Ob 27 .lss 26 25] (.seq (Ce 27 0) (.seq (.block 1 (aC [Oi 28 4 24 26,Ot 29 4 28,ZAw 9 4 29] (aC [Om 30 5,EZ 31 4 9 53 30] (Cd 32 (cK [Om 33 7,bD 34 0 9 1,H6 36 3 1 35 3 1 8 33 7]) .skip)))) (cK [pA 38 26 1 26]))))))) (aC [jU 39 7 2,OM 3 0] .ret))))),[.tm 2,.tm 3]⟩
def L29:aX :=⟨12,S [Pe 2,OM 3 0] (.seq (aC [oT 5 0 30,Om 4 6] (aC [H5 7 4 0] (Cd 8 (S [Om 9 4,Pe 2,Om 3 9] .ret) .skip))) (aC [oT 10 0 56,Om 2 11,OM 3 0] .ret)),[.tm 2,.tm 3]⟩
def L31:aX :=⟨25,S [O 2 (.dV (.c .eU)),Pe 3] (S [O 8 (.build (.agg [E0,E0,E0,E0,E0]) []),Ox 9 5 8,Om 4 9] (S [Pe 5] (.seq (aC [oZ 10 0,OM 12 0] (.block 0 (.loop (S [Ob 13 .lss 12 11] (.seq (Ce 13 0) (.seq (.block 1 (aC [wU 14 1 10 12 1,Om 7 15] (cK [bM 16 5 4,zW 18 7 55 17,H6 20 33 1 19 33 1 8 16 5]))) (cK [pA 22 12 1 12]))))))) (aC [bM 23 4 5,bM 2 23 24] .ret)))),[.tm 2,.tm 3]⟩
def L32:aX :=⟨39,S [Ox 1 5 0,O 2 (.alloc (.agg [E0,E0,E0,E0,E0]))] (S [Pe 3] (.seq (aC [bD 6 4 1 1,wZ 8 7 0] (.block 0 (.loop (S [Ob 10 .lss 9 8] (.seq (Ce 10 0) (.seq (.block 1 (S [Oi 11 3 7 9,Ot 12 3 11,O 5 (.alloc (.agg [Z0,Z0,E0])),Ns 3 5 12] (cK [Pm 13 3,Pa 14 0 5,Pa 16 1 5,Pa 18 2 5,mY 15 14 17 16,Pl 19 18,Of 20 (.call (C 67) [.t 19]),O 21 (.build (.agg [Z0,Z0,E0]) [(0,(1,(.t 15))),(1,(1,(.t 17))),(2,(1,(.t 20)))]),H6 22 91 3 21 91 3 40 13 3]))) (cK [pA 24 9 1 9]))))))) (aC [Pa 25 0 1,Pa 28 1 1,Pa 31 2 1,Pa 34 3 1,Pm 37 3,mY 26 25 29 28,mY 32 31 35 34,Of 27 (.call (C 68) [.t 26]),Of 30 (.call (C 69) [.t 29]),Of 33 (.call (C 70) [.t 32]),Ok 36 71 [.t 35],O 38 (.build (.agg [E0,E0,E0,E0,E0]) [(0,(1,(.t 27))),(1,(1,(.t 30))),(2,(1,(.t 33))),(3,(1,(.t 36))),(4,(1,(.t 37)))]),Ns 5 2 38] .ret))),[.cell 2 true 5]⟩
def L35:aX :=⟨10,S [Pe 4] (aC [oT 5 0 69,Om 7 1,Pb 8 3 1 7,Py 9 3 1 8 6 8,Om 4 9] .ret),[.tm 4]⟩
def L45:aX :=⟨43,S [Ox 1 2 0,Pe 2,OM 3 0,OM 4 0] (.seq (aC [Q1 10 2 1 91,Om 5 11] (aC [H5 12 5 0] (Cd 13 (S [Om 14 5,Pe 2,OM 3 0,Om 4 14] .ret) .skip))) (aC [Q1 16 2 1 92,mE 15 17 18 0 19 1,bM 6 18 19] (.seq (S [Om 20 7,Oo 21 20] (Cd 21 (S [Pe 2,OM 3 0,OM 4 9] .ret) .skip)) (.seq (aC [s9 22 6,bD 24 2 23 1,wZ 26 25 0] (.block 0 (.loop (S [Ob 28 .lss 27 26] (.seq (Ce 28 0) (.seq (.block 1 (aC [El 29 4 25 27 4 9,Ns 4 9 30] (cK [Om 31 2,bD 32 0 1 1,On 34 33,O 35 (.x (.ED 4 (.t 9) (.t 34))),Ok 36 69 [.t 35],H6 37 26 1 36 26 1 24 31 2]))) (cK [pA 39 27 1 27]))))))) (aC [bM 40 2 2,On 42 41,bM 2 40 42,OM 4 0] .ret))))),[.tm 2,.tm 3,.tm 4]⟩
def L55:aX :=⟨14,S [Ox 2 1 0,O 4 (.alloc Z0)] (aC [Ol 6 1 2,u0 7 6 0,Ot 9 5 8,O 5 (.alloc (.agg [E0,E0,E0,E0,E0])),Ns 5 5 9] (S [O 10 (.yB 100 [] [.t 5,.t 2,.t 4]),N .other] (aC [Ol 11 1 2,zW 12 1 101 11] (S [N (.store 1 (.t 4) (I 0))] .ret)))),[.cell 4 false 1]⟩
def L60:aX :=⟨64,aC [Ox 2 5 0,SC 4 0] (.seq (aC [Ot 8 5 2,zW 9 1 17 8,Oo 11 10] (Cd 11 (aC [uF 12 5 2 5 4 5 7] .ret) .skip)) (.seq (aC [bD 13 1 2 1,zW 15 1 76 14] (Cd 16 (aC [uF 17 5 2 5 4 5 6] .ret) .skip)) (aC [Ot 18 5 2,NB 6 5 18] (S [Oa 19 1 6,N (.store 1 (.t 19) (.c E0))] (.seq (S [OM 7 0] (.block 0 (.loop (.seq (aC [Om 20 7,bD 21 1 2 1,nZ 23 22 20,F0 25 24 1 2,Nv 28 25 7 25 1 27,Pg 30 25 29,Pn 31 25 1,Kj 32 25 30 31 25] (Ce 33 0)) (.seq (.block 1 (cK [Pa 36 1 6,Pa 38 1 2,Pm 40 7,Pl 37 36,ND 39 38 41 1 40,Pl 42 41,XU 43 3 1 42 3 1 8 37,Oa 45 1 6,Ns 1 45 44])) (cK [iT 34 7 1 7])))))) (aC [bD 46 1 6 1,Om 48 1,Pb 49 3 1 48,Py 50 3 1 8 47 49,Oa 51 1 6,Ns 1 51 50] (aC [Pa 52 1 6,Pa 54 1 2,Pa 56 1 6,mY 53 52 55 54,VV 57 56,Of 59 (.bin false .sub (.t 58) (I 1)),Of 60 (.I9 1 none (.t 55) (some (.t 59)) none none),Py 61 3 1 8 53 60,Oa 62 1 6,Ns 1 62 61] (aC [uF 63 5 6 5 4 5 0] .ret)))))))),[.cell 4 true 5,.tm 5]⟩
def L61:aX :=⟨93,aC [Ox 2 5 0,SC 4 0] (.seq (aC [Om 8 1,U5 9 1 8 0 1,TI 11 107 10 1 99,VS 13 12 1 1 1 1 107 4 30,VS 20 19 1 1 2 1 107 0 1000] (Cd 26 (aC [uF 27 5 2 5 4 5 2] .ret) .skip)) (.seq (aC [rB 29 1 1 0,Pt 28 5 2,Pl 31 30,Ok 32 108 [.t 28,.t 31],Oc 33 .geq 32 0] (Cd 33 (aC [uF 34 5 2 5 4 5 6] .ret) .skip)) (aC [Ot 35 5 2,NB 6 5 35] (S [Oa 36 2 6,N (.store 1 (.t 36) (.c E0))] (.seq (S [OM 7 0] (.block 0 (.loop (.seq (aC [Pm 37 7,Pa 38 2 2,VV 39 38,Of 41 (.bin false .lss (.t 37) (.t 40)),Pm 42 41,Gf 43 42 true (.fa 2 (.t 2)),Gf 45 42 true (M 7),Gf 49 42 true (M 1),Gf 50 42 true (.ia 1 none (.t 49) (I 0)),Nu 44 42 43 46 42 4 45,Gf 47 42 true (.fa 0 (.t 46)),Pi 48 42 47,Pi 51 42 50,Kj 52 42 48 51 42] (Ce 53 0)) (.seq (.block 1 (cK [Pa 56 2 6,Pa 58 2 2,Pm 60 7,Pl 57 56,ND 59 58 61 4 60,Pt 62 4 61,XU 63 62 4 62 62 4 32 57,Oa 65 2 6,Ns 1 65 64])) (cK [iT 54 7 1 7])))))) (aC [Pa 66 2 6,rB 68 1 1 0,rB 71 1 1 1,rB 74 1 1 2,mY 67 66 70 69,mY 73 72 76 75,Of 77 (.build (.agg [Z0,Z0,Z0,.bool false]) [(0,(1,(.t 70))),(1,(1,(.t 73))),(2,(1,(.t 76)))]),XU 78 62 4 77 62 4 32 67,Oa 80 2 6,Ns 1 80 79] (aC [Pa 81 2 6,Pa 83 2 2,Pa 85 2 6,mY 82 81 84 83,VV 86 85,Of 88 (.bin false .sub (.t 87) (I 1)),Of 89 (.I9 4 none (.t 84) (some (.t 88)) none none),Py 90 62 4 32 82 89,Oa 91 2 6,Ns 1 91 90] (aC [uF 92 5 6 5 4 5 0] .ret)))))))),[.cell 4 true 5,.tm 5]⟩
def L80:aX :=⟨75,S [Ox 3 4 1,O 4 (.dV (.c (.int .u8 (0))))] (S [Pe 5] (S [Om 14 0,O 15 (.yB 36 [.t 14] []),Om 6 15] (S [O 7 (.dV (.c (.int .u8 (3))))] (S [O 16 (.x .F9),Om 8 16] (.seq (aC [O0 17 0 0,bD 20 3 19 1,wZ 22 21 0] (.block 0 (.loop (S [Ob 24 .lss 23 22] (.seq (Ce 24 0) (.seq (.block 1 (aC [El 25 4 21 23 4 10,Ns 4 10 26] (.seq (aC [bD 27 0 10 1,bD 29 0 3 1,Ob 31 .neq 28 30] (Cd 31 (.exit 1) .skip)) (aC [bD 32 1 10 1,bD 34 2 10 1,O 36 (.build (.agg [Z0,Z0]) [(0,(1,(.t 33))),(1,(1,(.t 35)))]),SB 11 2 36] (aC [Om 38 8,Ot 39 2 11,O 40 (.x (.look ⟨true,[.int .i64,.int .i64]⟩ (.bool false) true (.t 38) (.t 39))),mE 37 40 41 0 42 1,bM 12 41 42] (.seq (S [Om 43 13,Oo 44 43] (Cd 44 (aC [Om 45 6,y7 46 4 10 45,Om 12 47] (.region [Om 48 8,Ot 49 2 11,Om 50 12,N (.x (.iK ⟨true,[.int .i64,.int .i64]⟩ (.t 48) (.t 49) (.t 50)))])) .skip)) (.seq (S [Om 51 12,Oo 52 51] (Cd 52 (.exit 1) .skip)) (aC [bM 53 5 0,Ot 55 4 10,bD 56 2 3 1,Ok 58 118 [.t 54,.t 55,.t 57],Oo 59 58,H6 60 4 1 59 4 1 1 53 5] (aC [Q1 63 4 3 120,zW 65 5 119 64,mE 62 66 67 0 68 1,Oe 69 62 2,Om 7 67] (aC [ZAq 70 7 3] (Cd 71 (aC [jU 72 7 4] .ret) .skip))))))))))) (cK [pA 73 23 1 23]))))))) (aC [jU 74 7 4] .ret)))))),[.tm 4]⟩
def L81:aX :=⟨48,aC [Ox 2 2 0,XV 4 0] (aC [Q1 11 2 2 121,mE 10 12 13 0 14 1,bM 6 13 14] (.seq (aC [H5 15 7 0] (Cd 16 (S [Om 17 7,O 4 (.dV (.c .eU)),Om 5 17] .ret) .skip)) (.seq (aC [oZ 18 1,OM 20 0] (.block 0 (.loop (S [Ob 21 .lss 20 19] (.seq (Ce 21 0) (.seq (.block 1 (aC [Om 22 20,wU 23 1 18 20 1,bM 8 22 24] (.seq (aC [oT 25 9 122,Oo 27 26,XT 28 27 8,G 30 28 false (.bin false .gtr (.t 29) (I 0)),G 31 28 false (M 30),Pn 32 31 9,Pn 33 31 1,Pn 34 31 8,G 35 31 true (.bin false .sub (.t 34) (I 1)),G 36 31 true (.ia 1 none (.t 33) (.t 35)),Pg 37 31 36,G 38 31 true (.bin false .leq (.t 32) (.t 37)),VU 39 28 31 38 28] (Cd 40 (aC [XV 4 2] .ret) .skip)) (cK [bM 41 6 9,u0 43 41 4,O 45 (.ia 1 (some 1000) (.t 44) (.t 42)),N (.store 1 (.t 45) Bt)])))) (cK [pA 46 20 1 20]))))))) (aC [jU 47 6 4,OM 5 0] .ret)))),[.tm 4,.tm 5]⟩
def L85:aX :=⟨42,S [Pe 4] (aC [bM 8 0 1,Ok 10 111 [.t 8,.t 9],Om 5 10] (.seq (S [Om 11 5,Oc 12 .eql 11 (-1)] (Cd 12 (aC [jU 13 0 4] .ret) .skip)) (.seq (aC [iT 14 5 1 6] (.block 0 (.loop (.seq (aC [bM 16 6 0,nZ 18 17 16] (Ce 19 0)) (.seq (.block 1 (aC [bM 22 0 6,Oi 24 7 22 23,Ot 25 7 24,O 7 (.alloc (.agg [Z0,Z0,Z0,Z0,Z0,Z0,Z0])),Ns 7 7 25] (aC [Om 26 1,y7 27 7 7 26,Oo 29 28] (Cd 29 (aC [bM 30 0 5,Ot 32 7 7,Oi 33 7 30 31,Ns 7 33 32] (cK [iT 34 5 1 5])) .skip)))) (cK [iT 20 6 1 6])))))) (aC [bM 36 0 5,O 38 (.I9 7 none (.t 36) (some (.t 37)) none none),N (.x (.clear 7 (.agg [Z0,Z0,Z0,Z0,Z0,Z0,Z0]) (.t 38)))] (aC [bM 39 0 5,O 41 (.I9 7 none (.t 39) none (some (.t 40)) none),Om 4 41] .ret))))),[.tm 4]⟩
theorem L85_ok:fT prog 85=some L85:=by kernel_rfl
def L114:aX :=⟨10,S [Ox 4 1 0,Ox 5 1 1,Ox 6 1 2,Ox 7 1 3,O 8 (.dV (.c .dP))] (S [O 9 (.yB 155 [] [.t 4,.t 7,.t 5,.t 6]),Om 8 9] .ret),[.tm 8]⟩
theorem L114_ok:fT prog 114=some L114:=by kernel_rfl
def L115:aX :=⟨15,S [OM 4 0] (aC [oZ 5 0,oZ 7 1,Ob 9 .sub 6 8,bM 10 0 1,Ok 12 158 [.t 10,.t 11],O 13 (.aQ 3 1 [.t 9,.t 12]),Ok 14 157 [.t 13],Om 4 14] .ret),[.tm 4]⟩
def L116:aX :=⟨15,S [Pf 6] (aC [bM 7 0 1,Ob 9 .geq 7 8,RZ 10 9 0 2 6] .ret),[.tm 6]⟩
@[simp] def L118a:LT:=.alt (Ok 16 159 [.t 11,.t 13,.t 15]) (.op (Om 9 16) (.op (Oe 17 9 0) (.op (Oe 18 9 1) (.alt (Ns 2 7 17) .done .no)))) .no
@[simp] def L118b:LT:=.alt (Ok 16 159 [.t 11,.t 13,.t 15]) (.op (Om 9 16) (.op (Oe 17 9 0) (.op (Oe 18 9 1) (.alt (Of 7 (.alloc (.agg [Z0,Z0]))) (.alt (Ns 2 7 17) .done .no) .no)))) (.alt (Of 7 (.alloc (.agg [Z0,Z0]))) L118a .no)
@[simp] def L118c:LT:=.alt (Ok 11 43 [.t 10]) (.op (Pl 15 14) L118a) (.alt (Pl 15 14) (.alt (Ok 11 43 [.t 10]) L118a .no) .no)
@[simp] def L118d:LT:=.alt (Ok 11 43 [.t 10]) (.op (Pl 13 12) L118a) (.alt (Pl 13 12) (.alt (Ok 11 43 [.t 10]) L118a .no) .no)
@[simp] def L118e:LT:=.alt (Ok 11 43 [.t 10]) L118b (.alt (Of 7 (.alloc (.agg [Z0,Z0]))) (.alt (Ok 11 43 [.t 10]) L118a .no) .no)
def L118:aX :=⟨26,S [Ox 4 4 1,Pf 6] (.seq (.jG (.op (Pm 10 0) (.op (Pa 12 1 4) (.op (Pa 14 2 4) (.seq (.alt (Ok 11 43 [.t 10]) (.op (Pl 13 12) (.op (Pl 15 14) L118b)) (.alt (Pl 13 12) (.alt (Ok 11 43 [.t 10]) (.op (Pl 15 14) L118b) (.alt (Pl 15 14) L118e (.alt (Of 7 (.alloc (.agg [Z0,Z0]))) L118c .no))) (.alt (Pl 15 14) (.alt (Ok 11 43 [.t 10]) (.op (Pl 13 12) L118b) (.alt (Pl 13 12) L118e (.alt (Of 7 (.alloc (.agg [Z0,Z0]))) L118d .no))) (.alt (Of 7 (.alloc (.agg [Z0,Z0]))) (.alt (Ok 11 43 [.t 10]) (.op (Pl 13 12) (.op (Pl 15 14) L118a)) (.alt (Pl 13 12) L118c (.alt (Pl 15 14) L118d .no))) .no)))) (.op (Om 8 18) .done)))))) (aC [bD 19 3 4 1,bD 21 0 7 1,Ob 23 .add 20 22,Om 24 2,Ob 25 .geq 23 24,Om 6 25] .ret)),[.tm 6]⟩
def L128:aX :=⟨5,S [Pf 2] (S [Om 3 0,Ok 4 129 [.t 3,C 130],Om 2 4] .ret),[.tm 2]⟩
def L130:aX :=⟨18,aC [tM 1 2 0] (aC [bD 3 0 1 1,Ok 5 172 [.t 4],F0 6 5 1 1,SA 9 6 172 8 6,F0 11 10 0 1,F1 14 11 1 1 11,Nx 16 11 13 15 11,Om 2 17] .ret),[.tm 2]⟩
def L131:aX :=⟨21,aC [tM 2 3 0] (aC [bD 4 0 2 1,Ok 6 132 [.t 5],F0 7 6 1 2,SA 10 7 132 9 7,F0 12 11 2 2,G 15 12 true (.len none (.t 14)),F1 16 12 0 1 12,G 18 12 true (.len none (.t 17)),G 19 12 true (.bin false .eql (.t 15) (.t 18)),Pp 20 12 19,Om 3 20] .ret),[.tm 3]⟩
def L138:aX :=⟨95,S [Ox 5 2 0,O 10 (.alloc (.agg [Z0,Z0]))] (aC [bD 17 0 5 1,nW 19 2 4 18,Ot 21 4 20,O 11 (.alloc (.agg [Z0,.bool false,Z0,Z0])),Ns 4 11 21] (.seq (aC [bD 22 1 11 1] (Cd 23 (S [Oa 24 2 11,Ot 25 2 24,Ns 2 10 25] .ret) .skip)) (aC [O 26 (.build (.agg [Z0,Z0]) [(0,(1,(I (-1099511627776)))),(1,(1,(I 1099511627776)))]),SB 12 2 26] (.seq (S [OM 13 0] (.block 0 (.loop (.seq (aC [Om 27 13,bD 28 1 5 1,nZ 30 29 27] (Ce 31 0)) (.seq (.block 1 (aC [bD 34 1 5 1,nW 36 13 7 35,Ot 38 7 37,Z9 14 7 38] (.seq (aC [Pa 39 1 14,Pm 41 2,Pl 40 39,Of 42 (.bin false .neq (.t 40) (.t 41)),Pm 43 42,Gf 44 43 false (.fa 0 (.t 14)),Gf 46 43 false (M 4),Gf 45 43 false (.load false 1 (.t 44)),Gf 47 43 false (.bin false .geq (.t 45) (.t 46)),Of 48 (.pick (.t 43) Bt (.t 47)),Pm 49 48,Gf 51 49 false (M 3),Gf 50 49 false (.load true 7 (.t 14)),Gf 52 49 false (.call (C 75) [.t 50,.t 51]),Gf 53 49 false (.not (.t 52)),Of 54 (.pick (.t 49) Bt (.t 53)),Pm 55 54,Gf 56 55 false (M 1),Gf 57 55 false (.vN (.t 56)),Gf 58 55 false (.fa 2000 (.t 57)),Gf 60 55 false (.fa 0 (.t 14)),Gf 59 55 false (.load false 1 (.t 58)),Gf 61 55 false (.load false 1 (.t 60)),G 62 55 false (.call (C 76) [.t 59,.t 61]),U4 63 55 62 55] (Cd 64 (.exit 1) .skip)) (aC [bD 65 0 11 1,Om 67 3,bD 68 3 14 1,Ob 70 .sub 67 69,Ob 71 .mul 66 70,Om 15 71] (S [Pm 72 1,Pa 73 0 14,Pz 75 72,Pa 76 0 75,Pl 74 73,Of 77 (.ia 2 (some 1000) (.t 76) (.t 74)),Pt 78 2 77,Of 16 (.alloc (.agg [Z0,Z0])),Ns 2 16 78] (cK [bD 79 0 12 1,bD 81 0 16 1,Om 83 15,Ob 84 .sub 82 83,O 85 (.iW true (.t 80) (.t 84)),bD 86 1 12 1,bD 88 1 16 1,Om 90 15,Ob 91 .add 89 90,O 92 (.iW false (.t 87) (.t 91)),O 93 (.build (.agg [Z0,Z0]) [(0,(1,(.t 85))),(1,(1,(.t 92)))]),Ns 2 12 93])))))) (cK [iT 32 13 1 13])))))) (S [Ot 94 2 12,Ns 2 10 94] .ret))))),[.cell 10 true 2]⟩
def L139:aX :=⟨72,S [Ox 1 2 0,O 2 (.dV (.c .eU))] (S [Ot 8 2 1,Ok 9 50 [.t 8,.c E0],O 10 (.build (.agg (List.replicate 2000 Z0 ++ [E0])) [(2000,(1,(.t 9)))]),Ox 11 2001 10,Om 3 11] (.seq (S [OM 4 0] (.block 0 (.loop (.seq (aC [bM 12 4 3,Oz 14 13,bD 15 2000 14 1,nZ 17 16 12] (Ce 18 0)) (.seq (.block 1 (S [OM 5 0] (.block 2 (.loop (.seq (aC [Om 21 5,bD 22 1 1 1,nZ 24 23 21] (Ce 25 2)) (.seq (.block 3 (aC [bD 28 1 1 1,nW 30 5 7 29,Ot 32 7 31,Z9 6 7 32] (aC [Pa 33 0 6,yR 35 3 2000,Pm 39 4,Pl 34 33,ND 38 37 40 1 39,Pl 41 40,Ob 42 .eql 34 41] (Cd 42 (aC [Ot 43 2 1,Om 44 3,bD 45 2 6 1,bD 47 3 6 1,bD 49 0 6 1,Ok 51 138 [.t 43,.t 44,.t 46,.t 48,.t 50],SB 7 2 51] (cK [Pm 52 3,Pa 53 0 6,Pa 55 0 7,Pa 57 5 6,Pa 58 0 57,Pa 61 1 7,Pa 63 5 6,Pa 64 1 63,Pz 68 52,Pa 69 0 68,mY 54 53 56 55,Pl 59 58,Of 60 (.bin false .add (.t 56) (.t 59)),mY 62 61 65 64,Of 66 (.bin false .add (.t 62) (.t 65)),Of 67 (.build (.agg [Z0,Z0]) [(0,(1,(.t 60))),(1,(1,(.t 66)))]),O 70 (.ia 2 (some 1000) (.t 69) (.t 54)),Ns 2 70 67])) .skip)))) (cK [iT 26 5 1 5]))))))) (cK [iT 19 4 1 4])))))) (aC [jU 71 3 2] .ret))),[.tm 2]⟩
def L141:aX :=⟨18,S [Ox 1 2 0,Pe 2] (S [Pe 3] (.seq (S [OM 4 1] (.block 0 (.loop (.seq (aC [Om 5 4,bD 6 1 1 1,On 8 7,Ob 9 .leq 5 8] (Ce 9 0)) (.seq (.block 1 (.region [Om 12 3,Ot 13 2 1,Om 14 4,Ok 15 182 [.t 13,.c E0,I 0,.t 14],Py 16 26 1 24 12 15,Om 3 16])) (cK [iT 10 4 1 4])))))) (aC [jU 17 3 2] .ret))),[.tm 2]⟩
def L148:aX :=⟨9,S [Om 4 0,Oo 5 4] (Cd 5 (.region [Om 6 1,O 7 (.build (.agg [Z0]) [(0,(1,(.t 6)))]),O 8 (.x (.sF 198 (.t 7))),N (.x (.B3 (.t 8)))]) .skip),[]⟩
theorem L148_ok:fT prog 148=some L148:=by kernel_rfl
def L149:aX :=⟨26,S [OM 2 0] (aC [oT 6 0 145,mE 5 7 8 0 9 1,bM 3 8 9] (aC [Om 10 4,O 11 (.x (.LF false (.t 10))),qD 12 11 3,G 14 12 true (.call (C 89) [.t 13]),Pn 15 12 0,G 16 12 true (.x (.eqv false ⟨false,[.str]⟩ (.t 14) (.t 15))),Pp 17 12 16,qD 18 17 0,G 20 18 true (.call (C 193) [.t 19,.c (.str ⟨#[45]⟩)]),G 21 18 true (.x (.rI (.t 20))),G 22 18 true (.bin false .leq (.t 21) (I 9)),Pp 23 18 22,Ok 24 148 [.t 23,I 4]] (aC [jU 25 3 2] .ret))),[.tm 2]⟩
theorem L149_ok:fT prog 149=some L149:=by kernel_rfl
def L151:aX :=⟨13,aC [tM 1 2 0] (aC [bD 3 0 1 1,bD 5 1 1 1,Ok 7 116 [.t 4,I (-100000),.t 6],F0 8 7 1 1,G 11 8 true (.bin false .leq (.t 10) (I 100000)),Pp 12 8 11,Om 2 12] .ret),[.tm 2]⟩
def L154:aX :=⟨5,S [Pf 2] (S [Om 3 0,Ok 4 167 [.t 3,I 0,I 1000],Om 2 4] .ret),[.tm 2]⟩
def L156:aX :=⟨14,S [Ox 2 7 0,Pf 4] (aC [Om 5 1,bD 6 3 2 1,bD 8 3 2 1,bD 10 4 2 1,Ob 12 .add 9 11,Ok 13 167 [.t 5,.t 7,.t 12],Om 4 13] .ret),[.tm 4]⟩
def L159:aX :=⟨33,S [Ox 3 2 0,O 6 (.alloc (.agg [Z0,Z0])),OM 7 0] (aC [Ot 13 2 3,bM 14 1 2,Ok 16 112 [.t 13,.t 14,.t 15],mE 12 16 17 0 18 1,Oe 19 12 2,bM 8 17 18,Om 10 19] (.seq (aC [H5 20 10 0] (Cd 21 (S [O 22 (.build (.agg [Z0,Z0]) []),Om 23 10,Ns 2 6 22,Om 7 23] .ret) .skip)) (aC [oT 24 8 195,Om 11 25] (.seq (aC [oT 26 11 196] (Cd 27 (S [O 28 (.build (.agg [Z0,Z0]) []),Ns 2 6 28,OM 7 9] .ret) .skip)) (aC [bM 29 11 1,Om 31 2,Ok 32 197 [.t 29,.t 30,.t 31,I 1000],Ns 2 6 32,OM 7 0] .ret))))),[.cell 6 true 2,.tm 7]⟩
def L163:aX :=⟨21,aC [tM 1 4 0] (aC [bD 3 0 1 1,Ok 5 167 [.t 4,I 0,I 100],Om 6 5,Ph 7 6 2 1,G 8 6 true (.load true 2 (.t 7)),SA 9 6 203 8 6,F0 11 10 1 1,Pn 14 11 13,G 15 14 false (.fa 2 (.t 1)),G 16 14 false (.load true 2 (.t 15)),G 17 14 false (.build (.agg [Z0,Z0]) []),G 18 14 false (.x (.eqv false ⟨true,[.int .i64,.int .i64]⟩ (.t 16) (.t 17))),G 19 11 true (.pick (.t 14) Bt (.t 18)),Pp 20 11 19,Om 2 20] .ret),[.tm 2]⟩
def L172:aX :=⟨5,S [Pf 2] (S [Om 3 0,Ok 4 173 [.t 3,I 0,I 39],Om 2 4] .ret),[.tm 2]⟩
def L181:aX :=⟨5,S [Pe 0] (S [O 1 (.build (.agg [.dP]) [(0,(1,(C 217)))]),O 2 (.build (.agg [.dP]) [(0,(1,(C 218)))]),O 3 (.build (.agg [.dP]) [(0,(1,(C 219)))]),O 4 (.aQ 288 1 [.t 1,.t 2,.t 3]),Om 0 4] .ret),[.tm 0]⟩
@[simp] def L182a:LT:=.alt (Of 32 (.app 3 1 8 (.t 29) (.t 31))) .done .no
@[simp] def L182b:LT:=.alt (Pt 26 2 4) (.alt (Of 29 (.jA 3 1 8 (.t 27) (.t 28))) L182a .no) (.alt (Of 29 (.jA 3 1 8 (.t 27) (.t 28))) (.alt (Pt 26 2 4) L182a (.alt (Of 32 (.app 3 1 8 (.t 29) (.t 31))) (.op (Pt 26 2 4) .done) .no)) .no)
@[simp] def L182c:LT:=.alt (Of 29 (.jA 3 1 8 (.t 27) (.t 28))) (.alt (Of 31 (.aQ 3 1 [.t 30])) L182a .no) (.alt (Of 31 (.aQ 3 1 [.t 30])) (.alt (Of 29 (.jA 3 1 8 (.t 27) (.t 28))) L182a .no) .no)
@[simp] def L182d:LT:=.alt (Of 27 (.aQ 3 1 [])) (.alt (Of 29 (.jA 3 1 8 (.t 27) (.t 28))) L182a .no) .no
def L182:aX :=⟨40,S [Ox 4 2 0,Pe 8] (.seq (aC [KH 11 3 0] (Cd 12 (S [O 13 (.aQ 3 1 []),Om 14 1,O 15 (.jA 3 1 8 (.t 13) (.t 14)),Pb 16 26 1 15,Om 8 16] .ret) .skip)) (S [Pe 9] (.seq (aC [jU 17 2 10] (.block 0 (.loop (.seq (aC [Om 18 10,bD 19 1 4 1,nZ 21 20 18] (Ce 22 0)) (.seq (.block 1 (.jG (.op (Pm 25 9) (.op (Pm 28 1) (.op (Pm 30 10) (.op (Pm 33 10) (.op (Of 34 (.bin false .add (.t 33) (I 1))) (.op (Pm 35 3) (.op (Of 36 (.bin false .sub (.t 35) (I 1))) (.seq (.alt (Pt 26 2 4) (.alt (Of 27 (.aQ 3 1 [])) L182c (.alt (Of 31 (.aQ 3 1 [.t 30])) L182d .no)) (.alt (Of 27 (.aQ 3 1 [])) (.alt (Pt 26 2 4) L182c (.alt (Of 29 (.jA 3 1 8 (.t 27) (.t 28))) (.alt (Pt 26 2 4) (.alt (Of 31 (.aQ 3 1 [.t 30])) L182a .no) (.alt (Of 31 (.aQ 3 1 [.t 30])) (.alt (Pt 26 2 4) L182a (.alt (Of 32 (.app 3 1 8 (.t 29) (.t 31))) (.op (Pt 26 2 4) .done) .no)) .no)) (.alt (Of 31 (.aQ 3 1 [.t 30])) L182b .no))) (.alt (Of 31 (.aQ 3 1 [.t 30])) (.alt (Pt 26 2 4) L182d (.alt (Of 27 (.aQ 3 1 [])) L182b .no)) .no))) (.alt (Ok 37 182 [.t 26,.t 32,.t 34,.t 36]) (.alt (Py 38 26 1 24 25 37) (.op (Om 9 38) .done) .no) .no))))))))))) (cK [iT 23 10 1 10])))))) (aC [jU 39 9 8] .ret)))),[.tm 8]⟩
def L183:aX :=⟨72,S [Ox 5 2 0,OM 10 0] (.seq (aC [Om 13 3,bD 14 0 5 1,On 16 15,Ob 17 .eql 13 16] (Cd 17 (S [OM 10 0] .ret) .skip)) (aC [Ot 18 2 5,bM 19 1 2,Om 21 3,Oc 22 .add 21 1,Om 23 4,Ok 24 183 [.t 18,.t 19,.t 20,.t 22,.t 23],Om 11 24] (.seq (S [OM 12 0] (.block 0 (.loop (.seq (aC [bM 25 12 1,nZ 27 26 25] (Ce 28 0)) (.seq (.block 1 (.seq (aC [Pm 31 4,SD 32 1 12 1,Pl 35 34,Of 36 (.ia 1 none (.t 31) (.t 35)),Pl 37 36,Pm 38 37,Gf 40 38 false (M 1),Gf 41 38 false (M 12),Gf 42 38 false (.ia 1 none (.t 40) (.t 41)),Gf 44 38 false (M 3),Gf 45 38 false (M 2),Gf 39 38 false (.load true 2 (.t 5)),Gf 43 38 false (.load false 1 (.t 42)),G 46 38 false (.call (C 220) [.t 39,.t 43,.t 44,.t 45]),U4 47 38 46 38] (Cd 48 (.exit 1) .skip)) (aC [bM 49 4 1,nW 51 12 1 50,Ol 53 1 52,Oi 54 1 49 53,N (.store 1 (.t 54) Bt)] (aC [Om 55 11,Ot 56 2 5,bM 57 1 2,Om 59 3,Oc 60 .add 59 1,Om 61 4,Ok 62 183 [.t 56,.t 57,.t 58,.t 60,.t 61],O 63 (.bin false .add (I 1) (.t 62)),O 64 (.iW true (.t 55) (.t 63)),Om 11 64] (cK [bM 65 4 1,nW 67 12 1 66,Ol 69 1 68,Oi 70 1 65 69,N (.store 1 (.t 70) Bf)]))))) (cK [iT 29 12 1 12])))))) (aC [jU 71 11 10] .ret)))),[.tm 10]⟩
def L188:aX :=⟨43,aC [bM 6 0 1,U5 8 1 7 0 1,Ok 10 34 [.t 6,.t 9],Ok 11 148 [.t 10,I 7]] (aC [yR 13 0 0,Pa 16 1 15,rB 18 1 1 0,mY 17 16 20 19,Ok 21 233 [.t 17,.t 20],mE 12 21 22 0 23 1,bM 4 22 23] (S [Om 24 5,Oo 25 24,Ok 26 148 [.t 25,I 6]] (.jG (.op (Pm 27 0) (.op (Pm 28 0) (.op (Pz 29 28) (.op (Pa 30 0 29) (.op (Pa 31 1 30) (.op (Pm 34 4) (.op (Pm 35 1) (.op (Pj 36 1 35 0) (.op (Pl 32 31) (.op (Pl 37 36) (.seq (.alt (Of 33 (.call (C 69) [.t 32])) (.alt (Of 38 (.aQ 3 1 [.t 37])) .done .no) (.alt (Of 38 (.aQ 3 1 [.t 37])) (.alt (Of 33 (.call (C 69) [.t 32])) .done .no) .no)) (.alt (Ok 39 234 [.t 33,.t 34,.t 38]) (.op (Oz 40 27) (.op (Oa 41 0 40) (.op (Oa 42 1 41) (.alt (Ns 1 42 39) .done .no)))) .no))))))))))))))),[]⟩
@[simp] def L195a:LT:=.op (O 9 (.build (.agg [.eU,.cT,.cT]) [(0,(1,(.t 5))),(1,(1,(.t 7))),(2,(1,(.t 8)))])) (.alt (Ox 10 3 9) .done .no)
@[simp] def L195b:LT:=.op (O 9 (.build (.agg [.eU,.cT,.cT]) [(0,(1,(.t 5))),(1,(1,(.t 7))),(2,(1,(.t 8)))])) (.alt (Ox 10 3 9) (.alt (Of 3 (.alloc .eU)) .done .no) (.alt (Of 3 (.alloc .eU)) (.alt (Ox 10 3 9) .done .no) .no))
@[simp] def L195c:LT:=.alt (Pl 5 1) (.alt (Ok 7 82 [.t 6]) L195a .no) (.alt (Ok 7 82 [.t 6]) (.op (Pl 5 1) L195a) .no)
@[simp] def L195d:LT:=.alt (Ok 7 82 [.t 6]) (.alt (Of 8 (.x .F9)) L195a .no) (.alt (Of 8 (.x .F9)) (.alt (Ok 7 82 [.t 6]) L195a .no) .no)
@[simp] def L195e:LT:=.alt (Ok 7 82 [.t 6]) L195b (.alt (Of 3 (.alloc .eU)) (.alt (Ok 7 82 [.t 6]) L195a .no) .no)
@[simp] def L195f:LT:=.alt (Of 8 (.x .F9)) L195b (.alt (Of 3 (.alloc .eU)) (.alt (Of 8 (.x .F9)) L195a .no) .no)
def L195:aX :=⟨19,S [Ox 1 1 0,O 2 (.dV (.c .eU))] (.seq (.jG (.op (Pl 6 1) (.seq (.alt (Pl 5 1) (.alt (Ok 7 82 [.t 6]) L195f (.alt (Of 8 (.x .F9)) L195e (.alt (Of 3 (.alloc .eU)) L195d .no))) (.alt (Ok 7 82 [.t 6]) (.op (Pl 5 1) L195f) (.alt (Of 8 (.x .F9)) (.alt (Pl 5 1) L195e (.alt (Ok 7 82 [.t 6]) (.op (Pl 5 1) L195b) (.alt (Of 3 (.alloc .eU)) L195c .no))) (.alt (Of 3 (.alloc .eU)) (.alt (Pl 5 1) L195d (.alt (Ok 7 82 [.t 6]) (.op (Pl 5 1) (.alt (Of 8 (.x .F9)) L195a .no)) (.alt (Of 8 (.x .F9)) L195c .no))) .no)))) (.alt (Ns 1 3 10) .done .no)))) (S [O 4 (.alloc .dP)] (S [O 11 (.yB 242 [] [.t 1,.t 3,.t 4]),Ns 1 4 11] (aC [Pl 12 4,JB 13 1 3,Pl 16 15,O 17 (.call (.t 12) [.t 16])] (S [Ol 18 1 3,Om 2 18] .ret))))),[.tm 2]⟩
def L202:aX :=⟨8,aC [tM 2 4 0] (aC [Ol 4 1 1,y7 5 4 2 4,Oo 7 6,Om 3 7] .ret),[.tm 3]⟩
def L220:aX :=⟨58,S [Ox 4 2 0,Pf 8] (aC [bD 13 1 4 1,nW 15 1 3 14,Ot 17 3 16,O 9 (.alloc (.agg [Z0,Z0,E0])),Ns 3 9 17] (aC [bD 18 2 9 1,nW 20 2 1 19,Ol 22 1 21,F0 23 22 1 9,Pn 26 23 3,Nx 27 23 25 26 23,Om 10 28] (.seq (S [OM 11 0] (.block 0 (.loop (.seq (aC [Om 29 11,bD 30 0 4 1,nW 32 2 1 31,Ol 34 1 33,nZ 35 34 29] (Ce 36 0)) (.seq (.block 1 (aC [bD 39 0 4 1,nW 41 2 1 40,Ol 43 1 42,nW 44 11 2 43,Ot 46 2 45,SB 12 2 46] (cK [Om 47 10,qD 48 47 3,F1 50 48 0 12 48,F1 52 48 1 12 48,G 54 48 true (.call (C 269) [.t 49,.t 51,.t 53]),JA 55 48 54 48,Om 10 56]))) (cK [iT 37 11 1 11])))))) (aC [jU 57 10 8] .ret)))),[.tm 8]⟩
def L231:aX :=⟨10,S [O 2 (.alloc (.agg [E0,E0]))] (aC [yR 4 0 0,Wu 7 0 6 3 88 0 1 3 1 1,Ns 2 2 9] .ret),[.cell 2 true 2]⟩
def L232:aX :=⟨57,S [Ox 1 2 0,Pe 2,OM 3 0] (aC [Q1 13 2 1 121,mE 12 14 15 0 16 1,bM 4 15 16] (.seq (.block 0 (aC [H5 18 5 0,Om 17 19] (Cd 17 (S [Om 20 5,Pe 2,Om 3 20] .ret) (aC [oT 22 4 195,Ok 24 196 [.t 23],Oo 25 24,Om 21 25] (Cd 21 (S [Pe 2,OM 3 7] .ret) .skip))))) (S [Pe 6] (.seq (aC [s9 26 4,bD 28 3 27 1,wZ 30 29 0] (.block 1 (.loop (S [Ob 32 .lss 31 30] (.seq (Ce 32 1) (.seq (.block 2 (aC [wU 33 1 29 31 1,O 8 (.alloc Z0),Ns 1 8 34] (S [Ot 35 2 1,O 9 (.alloc (.agg [E0,E0])),Ns 2 9 35] (aC [bD 36 1 1 1,Ok 38 68 [.t 37],VT 39 277 8 85 38,Oa 41 1 9,Ns 1 41 40] (aC [Q1 43 2 9 121,mE 42 44 45 0 46 1,bM 10 45 46] (aC [oT 47 10 195,Ok 49 196 [.t 48],Oo 50 49] (Cd 50 (cK [Om 51 6,Ol 52 1 8,H6 53 3 1 52 3 1 8 51 6]) .skip))))))) (cK [pA 55 31 1 31]))))))) (aC [jU 56 6 2,OM 3 0] .ret))))),[.tm 2,.tm 3]⟩
def L235:aX :=⟨15,S [Pf 6] (aC [bM 7 1 0,Ob 9 .leq 7 8,RZ 10 9 0 2 6] .ret),[.tm 6]⟩
def L243:aX :=⟨12,aC [tM 3 7 1] (aC [yR 5 0 1,Pa 9 0 3,mY 8 7 10 9,Of 11 (.x (.look ⟨false,[.int .i64]⟩ (.bool false) false (.t 8) (.t 10))),Om 4 11] .ret),[.tm 4]⟩
def L244:aX :=⟨28,S [Ox 2 2 0,Ox 3 2 1,O 4 (.alloc (.agg [Z0,Z0]))] (S [O 7 (.build (.agg [.dP]) [(0,(1,(C 287)))]),O 8 (.build (.agg [.dP]) [(0,(1,(C 288)))]),O 5 (.alloc (.agg [.dP])),O 6 (.alloc (.agg [.dP])),Ns 1 5 7,Ns 1 6 8] (S [Pa 9 0 5,Pa 13 0 5,Pa 18 0 6,Pa 22 0 6,Pl 10 9,Pt 11 2 2,Pl 14 13,Pt 15 2 3,Pl 19 18,Pt 20 2 2,Pl 23 22,Pt 24 2 3,Of 12 (.call (.t 10) [.t 11]),Of 16 (.call (.t 14) [.t 15]),Of 17 (.bin false .add (.t 12) (.t 16)),Of 21 (.call (.t 19) [.t 20]),O 25 (.call (.t 23) [.t 24]),Ob 26 .add 21 25,O 27 (.build (.agg [Z0,Z0]) [(0,(1,(.t 17))),(1,(1,(.t 26)))]),Ns 2 4 27] .ret)),[.cell 4 true 2]⟩
def L251:aX :=⟨5,S [Pf 2] (S [Om 3 0,Ok 4 167 [.t 3,I (-100000),I 100000],Om 2 4] .ret),[.tm 2]⟩
def L267:aX :=⟨16,S [OM 6 0] (aC [s9 7 0,bD 9 2 8 1,nW 11 2 4 10,O 13 (.x (.ED 4 (.t 12) (I 4))),zW 14 1 124 13,Om 6 15] .ret),[.tm 6]⟩
def L290:aX :=⟨5,S [OM 2 0] (aC [oT 3 0 311,Om 2 4] .ret),[.tm 2]⟩
end
noncomputable section
noncomputable def P1:List ((Nat×List Nat)×(bC×bC×(Code×Code))):=[((20,[8,9]),(Y54_0a,Y54_0b,fQ prog 54 0)),((136,[72]),(Y74_0a,Y74_0b,fQ prog 74 0)),((136,[115]),(Y74_1a,Y74_1b,fQ prog 74 1)),((64,[42]),(Y82_0a,Y82_0b,fQ prog 82 0)),((61,[49]),(Y112_0a,Y112_0b,fQ prog 112 0)),((79,[47]),(Y197_0a,Y197_0b,fQ prog 197 0)),((50,[15]),(Y218_0a,Y218_0b,fQ prog 218 0))]
theorem L74_tab:kQ (pG P1) L74.code:=by repeat' (first|exact trivial|rfl|apply And.intro)
theorem L82_tab:kQ (pG P1) L82.code:=by repeat' (first|exact trivial|rfl|apply And.intro)
theorem L112_tab:kQ (pG P1) L112.code:=by repeat' (first|exact trivial|rfl|apply And.intro)
theorem L197_tab:kQ (pG P1) L197.code:=by repeat' (first|exact trivial|rfl|apply And.intro)
theorem L218_tab:kQ (pG P1) L218.code:=by repeat' (first|exact trivial|rfl|apply And.intro)
theorem mixed:prog.follows .mixedOrders=true:=by kernel_rfl
end
theorem cS (F:aX){f:FuncId}{args:List AV}{B:List (Site×aJ)}{R:AV->List (Site×aJ)->Prop}(h:eK prog F.code (lA (A8 F.res R)) ⟨eW 0 args,B⟩)(hf:fT prog f=some F:=by kernel_rfl)(hn:args.length<=F.nt:=by exact tH rfl):cR prog f args B R:=Nt mixed hf hn h
theorem cB (o:List Site)(F:aX){f:FuncId}{args:List AV}{B:List (Site×aJ)}{R:AV->List (Site×aJ)->Prop}(h:eK prog F.code (lA (aU o F.res R)) ⟨eW 0 args,B⟩)(hf:fT prog f=some F:=by kernel_rfl)(hn:args.length<=F.nt:=by exact tH rfl):cR prog f args B R:=Nr o mixed hf hn h
theorem cF (o:List Site)(F:aX){f:FuncId}{args:List AV}{B:List (Site×aJ)}{R:AV->List (Site×aJ)->Prop}(h:eK prog F.code (lA (oF o F.res R)) ⟨eW 0 args,B⟩)(hf:fT prog f=some F:=by kernel_rfl)(hn:args.length<=F.nt:=by exact tH rfl):cR prog f args B R:=Nq o mixed hf hn h
theorem T8 (F:aX){f:FuncId}{args:List AV}{B:List (Site×aJ)}{Q:AV->List (Site×aJ)->Prop}(h:∀R,Q=R->eK prog F.code (lA (A8 F.res R)) ⟨eW 0 args,B⟩)(hf:fT prog f=some F:=by kernel_rfl)(hn:args.length<=F.nt:=by exact tH rfl):cR prog f args B Q:=cS F (h _ rfl) hf hn
theorem N7 (o:List Site)(F:aX){f:FuncId}{args:List AV}{B:List (Site×aJ)}{Q:AV->List (Site×aJ)->Prop}(h:∀R,Q=R->eK prog F.code (lA (aU o F.res R)) ⟨eW 0 args,B⟩)(hf:fT prog f=some F:=by kernel_rfl)(hn:args.length<=F.nt:=by exact tH rfl):cR prog f args B Q:=cB o F (h _ rfl) hf hn
theorem N6 (o:List Site)(F:aX){f:FuncId}{args:List AV}{B:List (Site×aJ)}{Q:AV->List (Site×aJ)->Prop}(h:∀R,Q=R->eK prog F.code (lA (oF o F.res R)) ⟨eW 0 args,B⟩)(hf:fT prog f=some F:=by kernel_rfl)(hn:args.length<=F.nt:=by exact tH rfl):cR prog f args B Q:=cF o F (h _ rfl) hf hn
theorem cG (xs:List PV){σ:AS}{f:bA}{args:List bA}{d:Nat}{K:AV->AS->Prop}{g:FuncId}{y:PV}(hc:aD prog g xs y)(hK:K (.pv y) σ){X:Prop}(h1:(σ.o f).snap σ 0=some (.fn g [] []):=by rfl)(h2:jE (AV.snap σ 0) (args.map σ.o)=some xs:=by rfl)(hy:y.flat=true:=by rfl):yV prog f args d K σ\/X:=gF (k:=0) (fs:=[]) (xs:=xs) (cs:=[]) h1 h2 (by simpa using hc) hy hK
theorem cP (fz:List Site)(xs:List PV){σ:AS}{f:bA}{args:List bA}{d:Nat}{K:AV->AS->Prop}{g:FuncId}{y:PV}(h1:(aM fz σ).o f=.pv (.fn g [] []))(h2:(aM fz σ).tO args=some xs)(hc:cR prog g (xs.map .pv) [] (fun r B=>r=.pv y/\B=[]))(hK:K (.pv y) ((aM fz σ).bG d)):yV prog f args d K σ:=Zaj fz (fs:=[]) (xs:=xs) (cs:=[]) h1 h2 (by simpa using hc) hK
theorem cQ (fz:List Site)(xs:List PV){σ:AS}{f:bA}{args:List bA}{d:Nat}{K:AV->AS->Prop}{g:FuncId}{y:PV}(hc:cR prog g (xs.map .pv) [] (fun r B=>r=.pv y/\B=[]))(hK:K (.pv y) ((aM fz σ).bG d))(h1:(aM fz σ).o f=.pv (.fn g [] []):=by rfl)(h2:(aM fz σ).tO args=some xs:=by rfl):yV prog f args d K σ:=cP fz xs h1 h2 hc hK
theorem cL (gE:List AV)(B:List (Site×aJ))(d:Nat)(aE:List Site){σ:AS}{f:bA}{args:List bA}{d0:Nat}{K:AV->AS->Prop}{g:FuncId}{fs cs:List AV}{R:AV->List (Site×aJ)->Prop}(hB:oW σ aE 0 aE=some B)(hC:cR prog g gE B R)(hK:∀r B',R r B'->r.dC (bX aE)=true/\(∀p∈B',bX aE p.1=true/\p.2.dC (bX aE)=true)/\K (r.map (gG aE d)) (((cO aE σ).bG d).lT (eZ aE d B')))(h1:mQ (σ.o f)=some (g,fs,cs):=by rfl)(h2:DR aE=true:=by rfl)(h3:aE.all (fun s=>!s.fP d)=true:=by rfl)(h4:AV.gW (fun x=>aE.contains x) (fs++args.map σ.o++cs)=true:=by rfl)(ha:AV.iM (kA aE) (fs++args.map σ.o++cs)=gE:=by rfl):yV prog f args d0 K σ\/(FQ prog f args K σ\/FP prog f args K σ):=xM (gE:=gE) (B:=B) d aE h1 h2 h3 hB h4 ha hC hK
theorem cM (gE:List AV)(B:List (Site×aJ))(d:Nat)(aE:List Site){σ:AS}{f:bA}{args:List bA}{d0:Nat}{K:AV->AS->Prop}{g:FuncId}{fs cs:List AV}{a:AV}{b:List (Site×aJ)}(hB:oW σ aE 0 aE=some B)(hC:cR prog g gE B (fun r B=>r=a/\B=b))(hp:∀p∈b,bX aE p.1=true/\p.2.dC (bX aE)=true)(hK:K (a.map (gG aE d)) (((cO aE σ).bG d).lT (eZ aE d b)))(ho:a.dC (bX aE)=true:=by rfl)(h1:mQ (σ.o f)=some (g,fs,cs):=by rfl)(h2:DR aE=true:=by rfl)(h3:aE.all (fun s=>!s.fP d)=true:=by rfl)(h4:AV.gW (fun x=>aE.contains x) (fs++args.map σ.o++cs)=true:=by rfl)(ha:AV.iM (kA aE) (fs++args.map σ.o++cs)=gE:=by rfl):yV prog f args d0 K σ\/(FQ prog f args K σ\/FP prog f args K σ):=cL gE B d aE hB hC (fun r B' h=>by obtain⟨rfl,rfl⟩:=h;exact⟨ho,hp,hK⟩) h1 h2 h3 h4 ha
section
attribute [local simp] aJ.bG Site.fP
theorem Zoi {l:List PV}{q:PV->Bool}{k:Nat}{x:PV}(hx:l[k]?=some x)(hb:q x=true)(hinv:∀(j:Nat) (y:PV),j<k->l[j]?=some y->q y=false):l.findIdx? q=some k:=by
 obtain⟨aI,e⟩:=bZ.1 hx;rw[JC];refine⟨aI,by rw[e];exact hb,fun j hj=>?_⟩
 have:=hinv j l[j] hj (bB (by omega))
 simp[this]
theorem Zog {l:List PV}{q:PV->Bool}(hinv:∀(j:Nat) (y:PV),j<l.length->l[j]?=some y->q y=false):l.findIdx? q=none:=by
 rw[List.findIdx?_eq_none_iff];intro x hx;obtain⟨j,hj⟩:=iJ.1 hx;exact hinv j x (bZ.1 hj).1 hj
def lIx (row:Bool)(n:Nat):aX:=⟨19,(.seq (.region [⟨(some 4),none,(.dV (.c (.i 0))),true⟩]) (.seq (.seq (.region [⟨(some 6),none,(.dV (.t 0)),true⟩,⟨(some 7),none,(.len none (.t 6)),true⟩,⟨(some 8),none,(.dV (.c (.i 0))),true⟩]) (.block 0 (.loop (.seq (.region [⟨(some 9),none,(.bin false .lss (.t 8) (.t 7)),true⟩]) (.seq (.cond (.t 9) .skip (.exit 0)) (.seq (.block 1 (.seq (.region [⟨(some 10),none,(.dV (.t 8)),true⟩,⟨(some 5),none,(.dV (.t 10)),true⟩]) (.seq (.region [⟨(some 11),none,(.dV (.t 1)),true⟩,⟨(some 12),none,(.dV (.t 0)),true⟩,⟨(some 13),none,(.dV (.t 5)),true⟩,⟨(some 14),none,(.ia n none (.t 12) (.t 13)),true⟩,⟨(some 15),none,(.load row n (.t 14)),true⟩,⟨(some 16),none,(.call (.t 11) [(.t 15)]),true⟩]) (.cond (.t 16) (.seq (.region [⟨(some 17),none,(.dV (.t 5)),true⟩,⟨(some 4),none,(.dV (.t 17)),true⟩]) .ret) .skip)))) (.region [⟨(some 18),none,(.bin false .add (.t 8) (.c (.i 1))),true⟩,⟨(some 8),none,(.dV (.t 18)),true⟩]))))))) (.seq (.region [⟨(some 4),none,(.dV (.c (.i (-1)))),true⟩]) .ret))),[(.tm 4)]⟩
def elB:Bool->Nat->PV->Prop
 |true,n,x=>∃cs,x=.agg cs/\cs.length=n
 |false,n,x=>n=1/\((∃b m ys,x=.aF b m ys)\/∃s,x=.str s)
theorem SN {f:FuncId}{row:Bool}{n:Nat}{l:List PV}{g:FuncId}{fs cs:List PV}{q:PV->Bool}(hq:∀x∈l,aD prog g (fs++[x]++cs) (.bool (q x)))(hl:l.length<=1000000)(hc:∀x∈l,elB row n x)(hL:fT prog f=some (lIx row n):=by kernel_rfl):
  aD prog f [.aF false n l,.fn g fs cs] (.i (match l.findIdx? q with|some i=>i|none=>-1)):=by
 refine Nt mixed hL (tH rfl) ?_;simp[lIx];refine eO (fun m τ=>∃k:Nat,k<=l.length/\m=l.length-k/\(∀j x,j<k->l[j]?=some x->q x=false)/\τ=⟨[(0,.pv (.aF false n l)),(1,.pv (.fn g fs cs)),(7,.pv (.i l.length)),(8,.pv (.i k))],[]⟩)
  ⟨l.length,_,Sub.mk (by simp) (by simp),0,by omega,rfl,(fun j x hj=>by omega),rfl⟩ ?_
 rintro J hJ m τ ⟨k,hk,rfl,hinv,rfl⟩;by_cases aI:k<l.length
 .have hx:l[k]?=some l[k]:=bB aI;have hm:=zX aI;generalize l[k]=x at hx hm;have hg:=hq _ hm;have hw:IntKind.i64.wrap ((k:Int)+1)=((k+1:Nat):Int):=by rw[IntKind.wrap_i64];omega
  have HJ:=hc x hm;clear hc hL;cases row with
  |true=>
   obtain⟨ys,rfl,rfl⟩:=HJ;simp[aI,↓hx,aP];refine gF (k:=0) rfl rfl hg rfl ?_;cases hb:q _
   .simp[hw];exact⟨_,_,(by omega:l.length-(k+1)<l.length-k),Sub.mk (by simp) (by simp),hJ _ _ ⟨k+1,by omega,rfl,fun j x hj CD=>by
     rcases Nat.lt_succ_iff_lt_or_eq.1 hj with h|h
     .exact hinv j x h CD
     .subst h;rw[hx]at CD;cases CD;exact hb,rfl⟩⟩
   .simp[Zoi hx hb hinv]
  |false=>
   obtain⟨rfl,⟨b,m,ys,rfl⟩|⟨s,rfl⟩⟩:=HJ
   all_goals
    simp[aI,↓hx];refine gF (k:=0) rfl rfl hg rfl ?_;cases hb:q _
    .simp[hw];exact⟨_,_,(by omega:l.length-(k+1)<l.length-k),Sub.mk (by simp) (by simp),hJ _ _ ⟨k+1,by omega,rfl,fun j x hj CD=>by
      rcases Nat.lt_succ_iff_lt_or_eq.1 hj with h|h
      .exact hinv j x h CD
      .subst h;rw[hx]at CD;cases CD;exact hb,rfl⟩⟩
    .simp[Zoi hx hb hinv]
 .have he:k=l.length:=by omega
  subst he;simp[Zog hinv]
def lCn (fi:FuncId):aX:=⟨9,(.seq (.region [⟨(some 4),none,(.dV (.c (.bool false))),true⟩]) (.seq (.region [⟨(some 5),none,(.dV (.t 0)),true⟩,⟨(some 6),none,(.dV (.t 1)),true⟩,⟨(some 7),none,(.call (.c (.fn fi [] [])) [(.t 5),(.t 6)]),true⟩,⟨(some 8),none,(.bin false .geq (.t 7) (.c (.i 0))),true⟩,⟨(some 4),none,(.dV (.t 8)),true⟩]) .ret)),[(.tm 4)]⟩
theorem wR {f:FuncId}(fi:FuncId){n:Nat}{l:List PV}{g:FuncId}{fs cs:List PV}{q:PV->Bool}(hi:aD prog fi [.aF false n l,.fn g fs cs] (.i (match l.findIdx? q with|some i=>i|none=>-1)))(hL:fT prog f=some (lCn fi):=by kernel_rfl):aD prog f [.aF false n l,.fn g fs cs] (.bool (l.any q)):=by
 refine Nt mixed hL (tH rfl) ?_;simp[lCn];refine gF (k:=0) rfl rfl hi rfl ?_;cases hf:l.findIdx? q with
 |none=>
  have:l.any q=false:=by rw[List.any_eq_false];intro x hx;simpa using List.findIdx?_eq_none_iff.1 hf x hx
  simp[this]
 |some i=>
  have:l.any q=true:=by
   obtain⟨hi,h1,_⟩:=JC.1 hf;exact oU.2 ⟨_,zX hi,h1⟩
  simp[this]
def lAl (fc f1:FuncId):aX:=⟨9,(.seq (.region [⟨(some 3),none,(.box 1 (.t 1)),true⟩,⟨(some 4),none,(.dV (.c (.bool false))),true⟩]) (.seq (.region [⟨(some 5),none,(.dV (.t 0)),true⟩,⟨(some 6),none,(.yB f1 [] [(.t 3)]),true⟩,⟨(some 7),none,(.call (.c (.fn fc [] [])) [(.t 5),(.t 6)]),true⟩,⟨(some 8),none,(.not (.t 7)),true⟩,⟨(some 4),none,(.dV (.t 8)),true⟩]) .ret)),[(.tm 4)]⟩
theorem N9 {f:FuncId}(fc f1:FuncId){n:Nat}{l:List PV}{g:FuncId}{fs cs:List PV}{q:PV->Bool}(ha:aD prog fc [.aF false n l,.fn f1 [] [.ref [.fn g fs cs]]] (.bool (l.any fun x=>!q x)))(hL:fT prog f=some (lAl fc f1):=by kernel_rfl):aD prog f [.aF false n l,.fn g fs cs] (.bool (l.all q)):=by
 refine Nt mixed hL (tH rfl) ?_;simp[lAl];refine gF (k:=4) rfl rfl ha rfl ?_;simp[List.not_any_eq_all_not]
end
def P0 (w:World)(m:Mem)(ρ:Site->Loc)(B:List (Site×aJ))(Rp:PV->List (Site×aJ)->Prop)(e:Ending)(w':World):Prop:=
 ∃v,e=.panicked [{ v,recovered:=false }]/\lE w m ρ B (fun r B'=>∃x,r=.pv x/\Rp x B') (.returned v) w'
def s4 (P:Program)(f:FuncId)(bS:List AV)(B:List (Site×aJ))(Rp:PV->List (Site×aJ)->Prop):Prop:=
 jM P f/\∀(w:World) (m:Mem) (ρ:Site->Loc) (vs:Array Value),vA ρ m w B->(Le m w.mem/\nI m w/\(B.map (·.1)).Nodup)->vs.size=bS.length->(∀(j:Nat) (d:Value) (c:AV),vs[j]?=some d->bS[j]?=some c->bO ρ m d c)->
  Calls P f vs w (P0 w m ρ B Rp)
theorem s4.mono {P:Program}{f:FuncId}{bS:List AV}{B:List (Site×aJ)}{R R':PV->List (Site×aJ)->Prop}(h:s4 P f bS B R)(hp:∀r B',R r B'->R' r B'):s4 P f bS B R':=
 ⟨h.1,fun w m ρ vs h1 h2 h3 h4=>(h.2 w m ρ vs h1 h2 h3 h4).mono fun e w' ⟨v,k0,v',r,B',bV,m',k1,⟨x,k2,k3⟩,k4⟩=>⟨v,k0,v',r,B',bV,m',k1,⟨x,k2,hp _ _ k3⟩,k4⟩⟩
def W3 (P:Program)(f:bA)(args:List bA)(Qp:PV->AS->Prop)(σ:AS):Prop:=
 ∃(d:Nat) (fz aE:List Site) (g:FuncId) (fs cs:List AV) (B:List (Site×aJ)),
  ((aM fz σ).o f=.fn g fs cs\/∃tF iH,(aM fz σ).o f=.pv (.fn g tF iH)/\fs=tF.map .pv/\cs=iH.map .pv)/\aE.Nodup/\aE.all (fun s=>!s.fP d)=true/\oW (aM fz σ) aE 0 aE=some B/\
  AV.gW (fun x=>aE.contains x) (fs++args.map (aM fz σ).o++cs)=true/\
  s4 P g (AV.iM (kA aE) (fs++args.map (aM fz σ).o++cs)) B (fun x B'=>(∀p∈B',bX aE p.1=true/\p.2.dC (bX aE)=true)/\Qp x (((cO aE (aM fz σ)).bG d).lT (eZ aE d B')))
def vT (P:Program)(o:LO)(Qp:PV->AS->Prop)(σ:AS):Prop:=o.g=none/\((∃f args,o.op=.call f args/\W3 P f args Qp σ)\/∃y t a,o.op=.x (.B3 y)/\σ.o y=.pv (.iface t a)/\Qp (.iface t a) σ)
def J5 (P:Program):List LO->(AS->Prop)->(PV->AS->Prop)->AS->Prop
 |[],K,_,σ=>K σ
 |o::r,K,Qp,σ=>pM P o (J5 P r K Qp) σ\/vT P o Qp σ
def fM (P:Program):bC->(sC->AS->Prop)->(PV->AS->Prop)->AS->Prop
 |.region ops,Q,Qp,σ=>J5 P ops (Q .normal) Qp σ
 |.seq a b,Q,Qp,σ=>fM P a (iO (fM P b Q Qp) Q) Qp σ
 |.cond c a b,Q,Qp,σ=>match σ.o c with
  |.pv (.bool t)=>if t=true then fM P a Q Qp σ else fM P b Q Qp σ
  |_=>False
 |.block id c,Q,Qp,σ=>fM P c (c7 id Q) Qp σ
 |.loop c,Q,Qp,σ=>∃(I:Nat->AS->Prop) (n:Nat) (τ:AS),Sub τ σ/\I n τ/\∀n τ,I n τ->fM P c (iO (fun zA=>∃k Q8,k<n/\Sub Q8 zA/\I k Q8) Q) Qp τ
 |l,Q,_,σ=>uE P l Q σ
theorem ZnE {P:Program}{Qp:PV->AS->Prop}:∀{l:List LO} {K:AS->Prop} {σ:AS},oH P l K σ->(∀(o:LO) (K K':AS->Prop) σ,(∀τ,K τ->K' τ)->pM P o K σ->pM P o K' σ)->J5 P l K Qp σ
 |[],K,σ,h,_=>h
 |o::r,K,σ,h,hm=>.inl (hm o _ _ σ (fun τ h=>ZnE h hm) h)
section
variable {P:Program}{N:Nat}{w0:World}{m0:Env w0}{pl:List Nat}{σ:AS}{ρ:Site->Loc}{m:Mem}{act:Act}{w:World}{o:Oper}{lo:LO}{ops:Array Oper}{Qp:PV->AS->Prop}
def FK (N:Nat)(w0:World)(m0:Env w0)(pl:List Nat)(Qp:PV->AS->Prop)(ch:List PanicEntry)(act:Act)(w:World):Prop:=
 ∃v x τ ρ m bE,ch=[{ v,recovered:=false }]/\bE.defers=act.defers/\(m0.strict=true->bE=act)/\Qp x τ/\Sat N w0 m0 pl τ ρ m bE w/\bO ρ m v (.pv x)
theorem ZqU {ro:Option Nat}{f:bA}{args:List bA}(hl:aZ P o.op=.call f args)(h:W3 P f args Qp σ)(hS:Sat N w0 m0 pl σ ρ m act w){nx:Act->World->Prop}{Q:Exit->Act->World->Prop}
  (hQ:∀ch w',FK N w0 m0 pl Qp ch act w'->Q (.panic ch) act w'):o.wpIn (FF ro) 1 P act w nx Q:=by
 obtain⟨c,fo,ho,hc,hf,ha⟩:=Mv hl;obtain⟨d,fz,aE,g,fs,cs,B,qA,pX,sS,hB,eS,hC⟩:=h;obtain⟨m1,_,hF⟩:=hS.aM fz;generalize aM fz σ=lJ at qA hB eS hC hF;obtain⟨q1,q2⟩:=KD ha;obtain⟨oB,fU,tZ,yE⟩:=BE hF pX sS hB;have o9:∃vf vc:Array Value,act.eval fo=.func (.func g) vf vc/\vf.size=fs.length/\vc.size=cs.length/\(∀(j:Nat) (d:Value) (c:AV),vf[j]?=some d->fs[j]?=some c->bO ρ m1 d c)/\(∀(j:Nat) (d:Value) (c:AV),vc[j]?=some d->cs[j]?=some c->bO ρ m1 d c):=by
  have h1:=hF.aV hf;rcases qA with qA|⟨tF,iH,qA,rfl,rfl⟩
  .rw[qA]at h1;exact Lw h1
  .rw[qA]at h1;obtain⟨vf,vc,e1,e2,e3,e4,e5⟩:=Fc h1.nG;refine⟨vf,vc,e1,by simpa using e2,by simpa using e3,fun j d c k1 k2=>?_,fun j d c k1 k2=>?_⟩
   .rw[bW]at k2;obtain⟨x,k3,rfl⟩:=dZ.1 k2;exact .pv _ _ (e4 j d x k1 k3)
   .rw[bW]at k2;obtain⟨x,k3,rfl⟩:=dZ.1 k2;exact .pv _ _ (e5 j d x k1 k3)
 obtain⟨vf,vc,hv,f1,f2,f3,f4⟩:=o9;have fH:(c.args.map act.eval).size=(args.map lJ.o).length:=by simp;simpa using q1
 obtain⟨b1,b2⟩:=ZhT (ρ:=ρ) (m:=m1) (va:=c.args.map act.eval) (xs:=args.map lJ.o) f1 fH f2 f3 (fun j u y hu hy=>by
  rw[Array.getElem?_map]at hu;obtain⟨x,k1,rfl⟩:=dZ.1 hu;obtain⟨y',k2,k3⟩:=q2 j x (by simpa using k1);rw[bW,k2]at hy;cases hy;exact hF.aV k3) f4
 unfold Oper.wpIn;refine⟨fun _ _=>trivial,?_⟩;rw[Oper.semAt_eq _ _ _ (fun c' e=>by rw[ho]at e;cases e),E9 ho hc hv hC.1,Oper.uponIn_enter];refine⟨FF.one,Fm ?_⟩;refine(hC.2 w m1 oB _ tZ ⟨hF.mem,hF.uB,Np hB⟩ (by rw[JZ];exact b1) (fun j u y hu hy=>by
  rw[JY]at hy;obtain⟨a,k1,rfl⟩:=dZ.1 hy;exact(b2 j u a hu k1).map fU (V3 eS k1))).mono ?_
 rintro e w' ⟨v,rfl,h⟩;obtain⟨v',r,B',bV,m',e1,⟨x,rfl,hx,hq⟩,Al⟩:=h;cases e1;obtain⟨v2,r2,B2,OD,m2,e2,hK,k1,k2,_⟩:=yE (fun r B'=>∃x,r=.pv x/\Qp x (((cO aE lJ).bG d).lT (eZ aE d B'))) (.returned v) w' ⟨v,.pv x,B',bV,m',rfl,⟨rfl,hx,x,rfl,hq⟩,Al⟩;cases e2;obtain⟨y,rfl,Si⟩:=hK;exact hQ _ _ ⟨v,y,_,OD,m2,act,rfl,rfl,fun _=>rfl,Si,k1,k2⟩
theorem Zfy {fn:Func}{tm:Array Value}{R:Ending->World->Prop}{ch:List PanicEntry}:∀(ds:List Nat) {w:World},ds.Nodup->(∀D∈ds,(w0.heap.size<=D\/D∈pl)/\w.heap[D]?=some (.deferred (some [])))->act.defers=[]->Sat N w0 m0 pl σ ρ m act w->
  ∃w2,Sat N w0 m0 pl σ ρ m act w2/\(LeavesIn (FF none) 1 P fn tm R [] (.panicking ch) w2->LeavesInM (FF none) 1 P fn tm R (ds.map WJ) (.panicking ch) w)
 |[],w,_,_,_,hS=>⟨w,hS,fun h=>h⟩
 |D::r,w,hn,hd,ha,hS=>by
  obtain⟨d1,d2⟩:=hd D (by simp);have yF:=List.nodup_cons.1 hn;have wI:Sat N w0 m0 pl σ ρ m act (w.putObj D (.deferred none)):=hS.write (k:=D) (fun s b hs hr=>(hS.bx s b hs).Wy hr d2) (fun o=>by
   cases hv:m D o with
   |none=>rfl
   |some v=>
    have:=hS.mem D o v hv
    simp[World.mem,World.cell?,d2]at this) d1 (.inr ha) (Hy _ _ _)
  obtain⟨w2,k1,k2⟩:=Zfy (ch:=ch) (tm:=tm) r yF.2 (fun D' CW=>by
   refine⟨(hd D' (by simp[CW])).1,?_⟩;have dA:D'≠D:=fun e=>yF.1 (by rw[<-e];exact CW)
   rw[World.putObj_heap_other dA];exact(hd D' (by simp[CW])).2) ha wI
  exact⟨w2,k1,fun h=>⟨by simp,.inl ⟨D,_,rfl,run_takeDeferred d2,k2 h⟩⟩⟩
theorem ZkJ {lt:Bool}(hl:qM P N ops lt o=some lo){f:bA}{args:List bA}(h:lo.op=.call f args):aZ P o.op=.call f args:=by
 obtain⟨e0,e1,e2,e3,e4⟩:=DX hl;rw[e2]at h;rcases Ni (ops:=ops) (l:=aZ P o.op)with⟨mI,_⟩|⟨e,n,b,x,y,G9,mI⟩
 .rw[mI]at h;exact h
 .rw[mI]at h;cases h
theorem ZrF {lt:Bool}(hl:qM P N ops lt o=some lo){y:bA}(h:lo.op=.x (.B3 y)):aZ P o.op=.x (.B3 y):=by
 obtain⟨e0,e1,e2,e3,e4⟩:=DX hl;rw[e2]at h;rcases Ni (ops:=ops) (l:=aZ P o.op)with⟨mI,_⟩|⟨e,n,b,x,y,G9,mI⟩
 .rw[mI]at h;exact h
 .rw[mI]at h;cases h
theorem Zn0 {op:Op}{y:bA}(h:aZ P op=.x (.B3 y)):∃x,op=.panic x/\aV x=some y:=by
 unfold aZ at h;split at h
 .rename_i z hz;cases h;unfold W6 at hz;split at hz
  .rename_i z' hx;cases hz;exfalso;unfold pN at hx;split at hx<;>(repeat' (first|(cases hx;done)|split at hx))
  .rename_i hx;clear hx;unfold nS at hz;split at hz<;>(repeat' (first|(cases hz;done)|split at hz));rename_i e;cases hz;exact⟨_,rfl,e⟩
 .exact absurd h Ziu
theorem ZuG {ro:Option Nat}{y:bA}{t:TypeId}{x:PV}(hl:aZ P o.op=.x (.B3 y))(he:σ.o y=.pv (.iface t x))(hq:Qp (.iface t x) σ)(hS:Sat N w0 m0 pl σ ρ m act w){nx:Act->World->Prop}{Q:Exit->Act->World->Prop}
  (hQ:∀ch w',FK N w0 m0 pl Qp ch act w'->Q (.panic ch) act w'):o.wpIn (FF ro) 1 P act w nx Q:=by
 obtain⟨z,ho,hz⟩:=Zn0 hl;have h1:=hS.aV hz;rw[he]at h1;obtain⟨v,e⟩:∃v,act.eval z=.iface t v:=by
  have h2:=h1.nG;generalize act.eval z=u at h2;cases h2 with|iface _ v _ _=>exact⟨v,rfl⟩
 unfold Oper.wpIn;refine⟨fun _ _=>trivial,?_⟩;rw[Oper.semAt_eq _ _ _ (fun c' e=>by rw[ho]at e;cases e)];have hr:(execOp act.eval o).run P w=.halt (.panic (.iface t v)) w:=by
  unfold execOp;simp only[ho,e];rfl
 rw[hr,Oper.uponIn_panic];rw[e]at h1;exact hQ _ _ ⟨_,_,σ,ρ,m,act,rfl,rfl,fun _=>rfl,hq,hS,h1⟩
theorem ZlS {lt:Bool}(hl:qM P N ops lt o=some lo)(h:lo.g=none)(t:Nat->Option Bool):o.guard=none:=by
 obtain⟨e0,e1,e2,e3,e4⟩:=DX hl;rcases e4 with⟨hg,_⟩|⟨j,want,t,_,UY,_⟩
 .exact hg
 .rw[h]at UY;cases UY
theorem ZrL {ro:Option Nat}{lt:Bool}{Q:Exit->Act->World->Prop}(hl:qM P N ops lt o=some lo)(h:vT P lo Qp σ)(hS:Sat N w0 m0 pl σ ρ m act w){nx:Act->World->Prop}
  (T5:∀ch bE w',FK N w0 m0 pl Qp ch bE w'->Q (.panic ch) bE w'):Region.wanted o (yielded ops act.tmps)=true/\o.wpIn (FF ro) 1 P act w nx Q:=by
 obtain⟨hg,h⟩:=h;have hw:=ZlS hl hg (fun _=>none);refine⟨by simp[Region.wanted,hw],?_⟩;rcases h with⟨f,args,hop,hp⟩|⟨y,t,a,hop,he,hq⟩
 .exact ZqU (ZkJ hl hop) hp hS (fun ch w' k=>T5 ch act w' k)
 .exact ZuG (ZrF hl hop) he hq hS (fun ch w' k=>T5 ch act w' k)
theorem XR {ro:Option Nat}{K:AS->Prop}{Q:Exit->Act->World->Prop}(kY:FM ops=true)(T5:∀ch bE w',FK N w0 m0 pl Qp ch bE w'->Q (.panic ch) bE w'):∀(l:List (Nat×Bool)) (qL:List LO) {σ:AS} {ρ:Site->Loc} {m:Mem} {act:Act} {w:World},rN P ops l=true->kW P N ops (l.map fun p=>(B8 P ops p.1,ops.getD p.1 default))=some qL->
  J5 P qL K Qp σ->Sat N w0 m0 pl σ ρ m act w->(∀bE w',F8 N w0 m0 pl K bE w'->Q .normal bE w')->WD ro P ops Q (Q6 P ops) (xO P) l act w
 |[],qL,σ,ρ,m,act,w,hk,hl,h,hS,hQ=>by
  simp[kW]at hl;subst hl;exact hQ _ _ ⟨σ,ρ,m,h,hS⟩
 |(i,b)::r,qL,σ,ρ,m,act,w,hk,hl,h,hS,hQ=>by
  simp only[iL]at hl;unfold kW at hl;split at hl
  .rename_i a l h1 h2;cases hl;cases b with
   |false=>
    simp only[rN,dJ]at hk;cases ho:ops[i]? with
    |none=>rw[ho]at hk;simp at hk
    |some o=>
     rw[ho]at hk;have hg:ops.getD i default=o:=by simp[Array.getD_eq_getD_getElem?,ho]
     rw[hg]at h1;have gZ:=hk.1;simp only[rV]at gZ;rcases h with h|⟨_,⟨f,args,hop,_⟩|⟨y,t,a,hop,_⟩⟩
     .cases bT:xO P o with
      |true=>
       obtain⟨v,k1,⟨τ,bV,m',k2,k3⟩,_⟩:=JW (G:=fun _=>True) h1 h hS (.inl bT);exact⟨o,v,fun _=>True,fun _ _ _ _=>trivial,fun _ _=>trivial,trivial,ho,k1,XR kY T5 r l hk.2 h2 k2 k3 hQ⟩
      |false=>
       have HO:(aZ P o.op).FE=true:=by
        rcases gZ with gZ|gZ
        .rw[bT]at gZ;cases gZ
        .exact gZ
       obtain⟨v,k1,⟨τ,bV,m',k2,k3⟩,_⟩:=JW (G:=fW σ ρ m w) h1 h hS (.inr ⟨HO,fun _ h=>h⟩);exact⟨o,v,fW σ ρ m w,fun _ _ hs hx=>fW.Xb hS hs hx,(fun e=>by rw[bT]at e;cases e),.refl hS,ho,k1,XR kY T5 r l hk.2 h2 k2 k3 hQ⟩
     .have hc:=ZkJ h1 hop;unfold xO at gZ;rw[hc]at gZ;rcases gZ with gZ|gZ<;>cases gZ
     .have hc:=ZrF h1 hop;unfold xO at gZ;rw[hc]at gZ;rcases gZ with gZ|gZ<;>cases gZ
   |true=>
    simp only[rN,dJ]at hk;cases ho:ops[i]? with
    |none=>rw[ho]at hk;simp at hk
    |some o=>
     have hg:ops.getD i default=o:=by simp[Array.getD_eq_getD_getElem?,ho]
     rw[hg]at h1;show wpOpIn (FF ro) 1 P ops Q i _ act w;unfold wpOpIn;simp only[ho];rcases h with h|h
     .rcases Gr h1 h hS with⟨q1,q2⟩|⟨q1,q2⟩
      .rw[if_pos q1];cases bT:xO P o with
       |true=>
        obtain⟨v,k1,⟨τ,bV,m',k2,k3⟩,_⟩:=JW (G:=fun _=>True) h1 h hS (.inl bT);rcases k1 with⟨_,k1⟩|⟨k1,_⟩
        .unfold Oper.wpIn;refine⟨fun _ _=>trivial,?_⟩;rw[Oper.semAt_eq _ _ _ (XN kY ho),k1 w trivial,Oper.uponIn_value];exact⟨fun _=>Ext.tI _,XR kY T5 r l hk.2 h2 k2 k3 hQ⟩
        .rw[k1]at q1;cases q1
       |false=>
        have K4:iQ (Q6 P ops) ops i=true->o.op.vP=true\/((aZ P o.op).NH=true/\B8 P ops i=false)\/(sW ops (aZ P o.op)).JF=true:=fun sQ=>by
         unfold iQ at sQ;rw[ho]at sQ;unfold Q6 at sQ;unfold xO at bT;simp only[bT,Bool.or_false,rV]at sQ;rcases sQ with(h'|h')|h'
         .exact .inl h'
         .simp only[dJ,Bool.not_eq_true']at h';exact .inr (.inl h')
         .exact .inr (.inr h')
        exact Oper.wpIn_mono (fun bE w' ⟨⟨τ,bV,m',k2,k3⟩,k4⟩=>⟨fun sQ=>k4 (K4 sQ),XR kY T5 r l hk.2 h2 k2 k3 hQ⟩) (Lo h1 q2 hS)
      .rw[if_neg (by rw[q1];simp)];exact⟨fun _ _=>trivial,fun _=>Ext.tI _,XR kY T5 r l hk.2 h2 q2 (hS.oV (DX h1).2.2.2.1 WC) hQ⟩
     .obtain⟨q1,q2⟩:=ZrL (ro:=ro) (Q:=Q) h1 h hS T5;rw[if_pos q1];exact q2
  .cases hl
theorem Zfr {ro:Option Nat}{K:AS->Prop}{Q:Exit->Act->World->Prop}(T5:∀ch bE w',FK N w0 m0 pl Qp ch bE w'->Q (.panic ch) bE w'):∀(l:List Oper) (qL:List LO) {σ:AS} {ρ:Site->Loc} {m:Mem} {act:Act} {w:World},kW P N ops (l.map fun o=>(true,o))=some qL->J5 P qL K Qp σ->Sat N w0 m0 pl σ ρ m act w->(∀bE w',F8 N w0 m0 pl K bE w'->Q .normal bE w')->wpListIn (FF ro) 1 P ops Q l act w
 |[],qL,σ,ρ,m,act,w,hl,h,hS,hQ=>by
  simp[kW]at hl;subst hl;exact hQ _ _ ⟨σ,ρ,m,h,hS⟩
 |o::r,qL,σ,ρ,m,act,w,hl,h,hS,hQ=>by
  rw[iL]at hl;unfold kW at hl;split at hl
  .rename_i a l h1 h2;cases hl;rcases h with h|h
   .exact ZfJ h1 h hS (fun bE w' ⟨τ,bV,m',k1,k2⟩=>Zfr T5 r l h2 k1 k2 hQ)
   .unfold wpListIn;obtain⟨q1,q2⟩:=ZrL (ro:=ro) (Q:=Q) h1 h hS T5;rw[if_pos q1];exact q2
  .cases hl
theorem ZlR {ro:Option Nat}{K:AS->Prop}{Q:Exit->Act->World->Prop}{id:Nat}{draw:Bool}{qL:List LO}(hm:P.follows .mixedOrders=true)(hl:BD P N ops draw=some qL)(h:J5 P qL K Qp σ)(hS:Sat N w0 m0 pl σ ρ m act w)(hQ:∀bE w',F8 N w0 m0 pl K bE w'->Q .normal bE w')
  (T5:∀ch bE w',FK N w0 m0 pl Qp ch bE w'->Q (.panic ch) bE w') (hp:draw=true->∀c (a:Act) (d:Tmp) (v:Value) w,Q (.panic c) (a.put (some d) v) w->Q (.panic c) a w):(Code.region id ops draw).wpIn (FF ro) 1 P Q act w:=by
 unfold BD at hl;split at hl
 .rename_i hd;subst hd;dsimp only at hl;split at hl
  .rename_i hc;simp only[dJ,decide_eq_true_eq]at hc;obtain⟨⟨⟨⟨c1,Eg⟩,c2⟩,c3⟩,c4⟩:=hc;have Vb:Sat N w0 m0 pl σ ρ m act w.drew:=hS.ext (Ext.dr w);exact Zdk _ _ _ hm (hp rfl) c1 Eg c2 c3 (XR Eg T5 _ qL c4 hl h Vb hQ)
  .cases hl
 .rename_i hd
  have:draw=false:=by simpa using hd
  subst this;exact wpIn_region_list (Zfr T5 _ qL hl h hS hQ)
def O8 (N:Nat)(w0:World)(m0:Env w0)(pl:List Nat)(Q:sC->AS->Prop)(Qp:PV->AS->Prop):Exit->Act->World->Prop
 |.panic ch,a,w=>FK N w0 m0 pl Qp ch a w
 |e,a,w=>nX N w0 m0 pl Q e a w
theorem O8.of {Q:sC->AS->Prop}{e:Exit}{a:Act}{w:World}(h:nX N w0 m0 pl Q e a w):O8 N w0 m0 pl Q Qp e a w:=by
 cases e with
 |panic ch=>exact h.elim
 |_=>exact h
def nQ:Code->Bool
 |.region _ _ d=>!d
 |.seq a b=>nQ a&&nQ b
 |.cond _ a b=>nQ a&&nQ b
 |.block _ c=>nQ c
 |.loop c=>nQ c
 |.scope c=>nQ c
 |_=>true
theorem ZkO {a b:Code}(h:nQ (.seq a b)=true):nQ a=true/\nQ b=true:=by simpa[nQ]using h
theorem Zip {c:Operand}{a b:Code}(h:nQ (.cond c a b)=true):nQ a=true/\nQ b=true:=by simpa[nQ]using h
theorem ZgZ {ro:Option Nat}(PM:Fl ro w0 pl)(hm:P.follows .mixedOrders=true):∀(c:Code) (l:bC) (Q:sC->AS->Prop) {σ:AS} {ρ:Site->Loc} {m:Mem} {act:Act} {w:World},(m0.strict=true->kF c=true)->(m0.strict=true->nQ c=true)->dQ P N c=some l->fM P l Q Qp σ->Sat N w0 m0 pl σ ρ m act w->c.wpIn (FF ro) 1 P (O8 N w0 m0 pl Q Qp) act w:=by
 intro c;induction c with
 |skip=>
  intro l Q σ ρ m act w bT C6 hl h hS;simp[dQ]at hl;subst hl;exact wpIn_skip ⟨σ,ρ,m,h,hS⟩
 |region id ops draw=>
  intro l Q σ ρ m act w bT C6 hl h hS;simp only[dQ]at hl;split at hl
  .rename_i qL k1;cases hl;exact ZlR hm k1 h hS (fun _ _ k=>k) (fun _ _ _ k=>k) (fun hd _ _ _ _ _ ⟨v,x,τ,ρ,m,a',q1,q2,_,q3⟩=>⟨v,x,τ,ρ,m,a',q1,q2.trans rfl,fun e=>by have:=C6 e;rw[hd]at this;simp[nQ]at this,q3⟩)
  .split at hl
   .rename_i hd;subst hd;simp only[dZ]at hl;obtain⟨T',k1,rfl⟩:=hl;exact wpIn_mono (Zng (Q:=nX N w0 m0 pl Q) hm k1 h hS (fun _ _ k=>k) (fun _ _ _ _ _ h=>h)) (fun _ _ _ h=>O8.of h)
   .cases hl
 |seq a b R7 l8=>
  intro l Q σ ρ m act w bT C6 hl h hS;simp only[dQ]at hl;split at hl
  .rename_i x y h1 h2;cases hl;refine wpIn_seq (wpIn_mono (R7 x _ (fun e=>(Mg (bT e)).1) (fun e=>(ZkO (C6 e)).1) h1 h hS) (fun e bE w' hq=>?_));cases e with
   |normal=>
    obtain⟨τ,bV,m',k1,k2⟩:=hq;exact l8 y Q (fun e=>(Mg (bT e)).2) (fun e=>(ZkO (C6 e)).2) h2 k1 k2
   |exit id=>exact hq
   |ret=>exact hq
   |goto l=>exact hq.elim
   |panic ch=>exact hq
   |outgrown=>exact hq.elim
  .cases hl
 |cond c a b R7 l8=>
  intro l Q σ ρ m act w bT C6 hl h hS;simp only[dQ]at hl;split at hl
  .rename_i c' x y h0 h1 h2;cases hl;unfold fM at h;split at h
   .rename_i t ht;have hc:=hS.aV h0;rw[ht]at hc;refine wpIn_cond hc.NL ?_;cases t
    .exact l8 y Q (fun e=>(Mz (bT e)).2) (fun e=>(Zip (C6 e)).2) h2 (by simpa using h) hS
    .exact R7 x Q (fun e=>(Mz (bT e)).1) (fun e=>(Zip (C6 e)).1) h1 (by simpa using h) hS
   .exact h.elim
  .cases hl
 |block id c ih=>
  intro l Q σ ρ m act w bT C6 hl h hS;simp only[dQ,dZ]at hl;obtain⟨x,k1,rfl⟩:=hl;refine wpIn_block (wpIn_mono (ih x _ bT C6 k1 h hS) (fun e bE w' hq=>?_));cases e with
  |exit LQ=>
   obtain⟨τ,bV,m',q1,q2⟩:=hq;by_cases he:LQ=id
   .subst he;simp only[c7,if_true]at q1;simp only[Exit.inBlock,if_true];exact⟨τ,bV,m',q1,q2⟩
   .simp only[c7,he,if_false]at q1;simp only[Exit.inBlock,he,if_false];exact⟨τ,bV,m',q1,q2⟩
  |normal=>exact hq
  |ret=>exact hq
  |goto l=>exact hq.elim
  |panic ch=>exact hq
  |outgrown=>exact hq.elim
 |loop c ih=>
  intro l Q σ ρ m act w bT C6 hl h hS;simp only[dQ,dZ]at hl;obtain⟨x,k1,rfl⟩:=hl;obtain⟨I,n,τ,kG,hI,aB⟩:=h;obtain⟨oX,m1,wI⟩:=kG _ _ _ _ _ _ _ _ hS;refine wpIn_loop_ghost (fun n act w=>∃τ ρ m,I n τ/\Sat N w0 m0 pl τ ρ m act w) n ⟨τ,oX,m1,hI,wI⟩ ?_;intro n act w ⟨τ,ρ,m,hI,hS⟩;refine wpIn_mono (ih x _ bT C6 k1 (aB n τ hI) hS) (fun e bE w' hq=>?_);cases e with
  |normal=>
   obtain⟨zA,bV,m',⟨k,Q8,q1,q2,q3⟩,q4⟩:=hq;obtain⟨OD,m2,q5⟩:=q2 _ _ _ _ _ _ _ _ q4;exact⟨k,q1,Q8,OD,m2,q3,q5⟩
  |exit id=>exact hq
  |ret=>exact hq
  |goto l=>exact hq.elim
  |panic ch=>exact hq
  |outgrown=>exact hq.elim
 |scope c ih=>
  intro l Q σ ρ m act w bT C6 hl h hS;refine ZbW (wpIn_mono (ih l Q bT C6 hl h hS) (fun e bE w' hq=>?_));cases e<;>first|exact hq|exact hq.elim
 |label l0=>
  intro l Q σ ρ m act w bT C6 hl h hS;simp[dQ]at hl;subst hl;exact wpIn_label ⟨σ,ρ,m,h,hS⟩
 |exit id=>
  intro l Q σ ρ m act w bT C6 hl h hS;simp[dQ]at hl;subst hl;exact wpIn_exit ⟨σ,ρ,m,h,hS⟩
 |ret=>
  intro l Q σ ρ m act w bT C6 hl h hS;simp[dQ]at hl;subst hl;exact wpIn_ret ⟨σ,ρ,m,h,hS⟩
 |rangeFunc g ps a b=>
  intro l Q σ ρ m act w bT C6 hl h hS;simp only[dQ]at hl;split at hl
  .rename_i g' la lb k1 k2 k3;cases hl;exact wpIn_mono (Zic PM k1 h hS (ZnQ bT)) (fun _ _ _ h=>O8.of h)
  .cases hl
 |_=>intro l Q σ ρ m act w bT C6 hl h hS;simp[dQ]at hl
def J4 (Rp:PV->List (Site×aJ)->Prop)(x:PV)(σ:AS):Prop:=∃outs:List Site,outs.all dO=true/\(∀s∈outs,∀b,σ.b s=some b->b.dC dO=true)/\Rp x (σ.exp outs outs)
end
section
variable {P:Program}{σ:AS}{Q:sC->AS->Prop}{Qp:PV->AS->Prop}{K:AS->Prop}
theorem Zs4 {l:List LO}(h:oH P l K σ):J5 P l K Qp σ:=ZnE h fun _ _ _ _ hk h=>NZ hk h
theorem NU:∀{c:bC} {Q:sC->AS->Prop} {σ:AS},uE P c Q σ->fM P c Q Qp σ
 |.skip,_,_,h=>h
 |.region _,_,_,h=>Zs4 h
 |.jG _,_,_,h=>h
 |.seq a b,Q,σ,h=>NU (c:=a) (JX (c:=a) h fun e τ k=>by
   cases e with
   |normal=>exact NU (c:=b) k
   |exit id=>exact k
   |ret=>exact k)
 |.cond c a b,Q,σ,h=>by
  unfold uE at h;split at h
  .rename_i t ht;show(match σ.o c with
    |.pv (.bool t)=>if t=true then fM P a Q Qp σ else fM P b Q Qp σ
    |_=>False)
   rw[ht];cases t
   .simp only[Bool.false_eq_true,if_false]at h ⊢;exact NU (c:=b) h
   .simp only[if_true]at h ⊢;exact NU (c:=a) h
  .exact h.elim
 |.block id c,_,_,h=>NU (c:=c) h
 |.loop c,_,_,⟨I,n,τ,h1,h2,h3⟩=>⟨I,n,τ,h1,h2,fun n τ k=>NU (c:=c) (h3 n τ k)⟩
 |.exit _,_,_,h=>h
 |.ret,_,_,h=>h
 |.vE _ _ _ _ _ _,_,_,h=>h
theorem mH {a b:bC}(h:eK P a (iO (fM P b Q Qp) Q) σ):fM P (.seq a b) Q Qp σ:=NU (c:=a) (I7 h)
theorem Zhj {o:LO}{post:List LO}:∀{pre:List LO} {σ:AS},oH P pre (vT P o Qp) σ->J5 P (pre++o::post) K Qp σ
 |[],_,h=>.inr h
 |a::r,σ,h=>.inl (NZ (fun τ k=>Zhj (pre:=r) k) h)
theorem Gc {o:LO}{post:List LO}(pre:List LO)(h:B5 P pre (vT P o Qp) σ):fM P (.region (pre++o::post)) Q Qp σ:=Zhj (Lk h)
theorem wX {o:LO}{post:List LO}{c:bC}(pre:List LO)(h:B5 P pre (vT P o Qp) σ):fM P (.seq (.region (pre++o::post)) c) Q Qp σ:=Zhj (Lk h)
theorem ZpS (d:Nat)(aE:List Site){f:bA}{args:List bA}{g:FuncId}{fs cs:List AV}{B:List (Site×aJ)}{gE:List AV}{R:PV->List (Site×aJ)->Prop}(h1:mQ (σ.o f)=some (g,fs,cs))(h2:DR aE=true)(h3:aE.all (fun s=>!s.fP d)=true)
  (hB:oW σ aE 0 aE=some B) (h4:AV.gW (fun x=>aE.contains x) (fs++args.map σ.o++cs)=true) (ha:AV.iM (kA aE) (fs++args.map σ.o++cs)=gE) (hC:s4 P g gE B R)
  (hK:∀x B',R x B'->(∀p∈B',bX aE p.1=true/\p.2.dC (bX aE)=true)/\Qp x (((cO aE σ).bG d).lT (eZ aE d B'))):W3 P f args Qp σ:=by
 refine⟨d,[],aE,g,fs,cs,B,?_,SY h2,h3,hB,h4,?_⟩
 .unfold mQ at h1;split at h1
  .rename_i e;cases h1;exact .inl e
  .rename_i tF iH e;cases h1;exact .inr ⟨tF,iH,e,rfl,rfl⟩
  .cases h1
 .have:(fs++args.map (aM [] σ).o++cs)=fs++args.map σ.o++cs:=rfl
  rw[this,ha];exact hC.mono hK
theorem Zi1 {a b:bC}(h:fM P a (iO (fM P b Q Qp) Q) Qp σ):fM P (.seq a b) Q Qp σ:=h
theorem Zg0 {id:Nat}{c:bC}(h:fM P c (c7 id Q) Qp σ):fM P (.block id c) Q Qp σ:=h
theorem ZoT {c:bC}(I:Nat->AS->Prop)(h0:∃n τ,Sub τ σ/\I n τ)(round:∀J:Nat->AS->Prop,(∀k τ,I k τ->J k τ)->∀n τ,I n τ->fM P c (iO (again J n) Q) Qp τ):fM P (.loop c) Q Qp σ:=
 let ⟨n,τ,h1,h2⟩:=h0;⟨I,n,τ,h1,h2,fun n τ h=>round I (fun _ _ h=>h) n τ h⟩
theorem ZnC (d:Nat)(fz aE:List Site){f:bA}{args:List bA}{g:FuncId}{fs cs:List AV}{B:List (Site×aJ)}{gE:List AV}{R:PV->List (Site×aJ)->Prop}(h1:mQ ((aM fz σ).o f)=some (g,fs,cs))(h2:DR aE=true)(h3:aE.all (fun s=>!s.fP d)=true)
  (hB:oW (aM fz σ) aE 0 aE=some B) (h4:AV.gW (fun x=>aE.contains x) (fs++args.map (aM fz σ).o++cs)=true) (ha:AV.iM (kA aE) (fs++args.map (aM fz σ).o++cs)=gE) (hC:s4 P g gE B R)
  (hK:∀x B',R x B'->(∀p∈B',bX aE p.1=true/\p.2.dC (bX aE)=true)/\Qp x (((cO aE (aM fz σ)).bG d).lT (eZ aE d B'))):W3 P f args Qp σ:=by
 refine⟨d,fz,aE,g,fs,cs,B,?_,SY h2,h3,hB,h4,?_⟩
 .unfold mQ at h1;split at h1
  .rename_i e;cases h1;exact .inl e
  .rename_i tF iH e;cases h1;exact .inr ⟨tF,iH,e,rfl,rfl⟩
  .cases h1
 .rw[ha];exact hC.mono hK
theorem Zl9 (d:Nat)(fz aE:List Site){f:bA}{args:List bA}{d0:Nat}{K:AV->AS->Prop}{g:FuncId}{fs cs:List AV}{B:List (Site×aJ)}{gE:List AV}{R:AV->List (Site×aJ)->Prop}(h1:mQ ((aM fz σ).o f)=some (g,fs,cs))(h2:DR aE=true)(h3:aE.all (fun s=>!s.fP d)=true)
  (hB:oW (aM fz σ) aE 0 aE=some B) (h4:AV.gW (fun x=>aE.contains x) (fs++args.map (aM fz σ).o++cs)=true) (ha:AV.iM (kA aE) (fs++args.map (aM fz σ).o++cs)=gE) (hC:cR P g gE B R)
  (hK:∀r B',R r B'->r.dC (bX aE)=true/\(∀p∈B',bX aE p.1=true/\p.2.dC (bX aE)=true)/\K (r.map (gG aE d)) (((cO aE (aM fz σ)).bG d).lT (eZ aE d B'))):
  yV P f args d0 K σ\/(FQ P f args K σ\/FP P f args K σ):=by
 refine .inr (.inl ⟨d,fz,aE,g,fs,cs,B,?_,SY h2,h3,hB,h4,?_⟩)
 .unfold mQ at h1;split at h1
  .rename_i e;cases h1;exact .inl e
  .rename_i tF iH e;cases h1;exact .inr ⟨tF,iH,e,rfl,rfl⟩
  .cases h1
 .rw[ha];exact hC.mono hK
theorem ZoU {c:bA}{a b:bC}{t:Bool}(hc:σ.o c=.pv (.bool t))(h:fM P (if t=true then a else b) Q Qp σ):fM P (.cond c a b) Q Qp σ:=by
 unfold fM;rw[hc];cases t
 .simpa using h
 .simpa using h
theorem Znq {args:List bA}{xs:List PV}(h:σ.tO args=some xs):args.map σ.o=xs.map .pv:=by
 obtain⟨h1,h2⟩:=SP h;refine List.ext_getElem? fun j=>?_
 rw[bW,bW];cases e:args[j]? with
 |none=>rw[List.getElem?_eq_none (by have:=List.getElem?_eq_none_iff.1 e;omega)];rfl
 |some y=>
  obtain⟨x,k1,k2⟩:=h2 j y e;rw[k1,uU,uU,k2]
theorem TF {d:Nat}{g:FuncId}{xs cs:List PV}{f:bA}{args:List bA}{op:lU}{lt:Bool}{R:PV->List (Site×aJ)->Prop}(fz:List Site)(h1:(aM fz σ).o f=.pv (.fn g [] cs))(h2:(aM fz σ).tO args=some xs)
  (hc:s4 P g ((xs++cs).map .pv) [] R) (hop:op=.call f args) (hK:∀x,R x []->Qp x ((aM fz σ).bG d)) (hR:∀x B,R x B->B=[]) {dst:Option Nat}:vT P ⟨dst,none,op,lt⟩ Qp σ:=by
 refine⟨rfl,.inl ⟨f,args,hop,d,fz,[],g,[],cs.map .pv,[],.inr ⟨[],cs,h1,rfl,rfl⟩,List.nodup_nil,rfl,rfl,?_,?_⟩⟩
 .have e:=Znq h2;rw[e]
  have:∀l:List PV,AV.gW (fun x=>([]:List Site).contains x) (l.map .pv)=true:=fun l=>by
   induction l with
   |nil=>rfl
   |cons a r ih=>rw[iL];simp only[AV.gW,AV.dC,ih];rfl
  rw[List.nil_append,<-mF];exact this _
 .have e:=Znq h2;rw[e,List.nil_append,<-mF];have hm:∀l:List PV,AV.iM (kA []) (l.map .pv)=l.map .pv:=fun l=>by
   induction l with
   |nil=>rfl
   |cons a r ih=>rw[iL];simp only[AV.iM,AV.map,ih]
  rw[hm];refine hc.mono fun x B' h=>?_
  have:=hR x B' h
  subst this;exact⟨(fun p hp=>by cases hp),hK x h⟩
end
def AV.Wk (a a':AV):Prop:=∀(ρ:Site->Loc) (m:Mem) (v:Value),bO ρ m v a->bO ρ m v a'
theorem Zrw {nl:Option Bool}{s:Site}{n:Nat}:AV.Wk (.pv (.emp nl)) (.vec s n 0 0):=fun ρ m v h=>by
 have:=h.nG
 cases this with
 |emp a _ h0 h1 h2=>exact .mZ s n 0 a h2
theorem KM {x x':PV}(h:∀m v,dG m v x->dG m v x'):AV.Wk (.pv x) (.pv x'):=fun ρ m v hv=>.pv _ _ (h m v hv.nG)
section
variable {N:Nat}{w0:World}{m0:Env w0}{pl:List Nat}{σ:AS}{ρ:Site->Loc}{m:Mem}{act:Act}{w:World}
theorem Sub.wkT {t:Nat}{a:AV}(a':AV)(h:σ.t t=some a)(hw:a.Wk a'):Sub (σ.put t a') σ:=fun _ _ _ _ ρ m act w hS=>by
 refine⟨ρ,m,hS.sE,hS.sz,fun t' b k=>?_,hS.bx,hS.dY,hS.mem,hS.eL,hS.fL,hS.keep,hS.base,hS.qC,hS.par⟩;rw[AS.ZxN]at k;split at k
 .rename_i e;subst e;cases k;obtain⟨v,h1,h2⟩:=hS.tm t' a h;exact⟨v,h1,hw _ _ _ h2⟩
 .exact hS.tm t' b k
theorem Sub.aW {s:Site}{ax:List AV}{i:Nat}{a:AV}(a':AV)(h:σ.b s=some (.cells ax))(hi:ax[i]?=some a)(hw:a.Wk a'):Sub (σ.set s (.cells (ax.set i a'))) σ:=fun _ _ _ _ ρ m act w hS=>by
 refine⟨ρ,m,hS.ZxO h ?_ (fun k hk=>?_)⟩
 .obtain⟨h0,cs,T,h1,h2,h3⟩:=hS.bx s _ h;refine⟨h0,cs,T,h1,by rw[List.length_set];exact h2,fun j c b k1 k2=>?_⟩;by_cases e:j=i
  .subst e;rw[O2 (bZ.1 hi).1]at k2;cases k2;obtain⟨q1,q2⟩:=h3 j c a k1 hi;exact⟨q1,hw _ _ _ q2⟩
  .rw[List.getElem?_set_ne (fun e'=>e e'.symm)]at k2;exact h3 j c b k1 k2
 .obtain⟨r1,r2⟩:=DW rfl hk;exact .inl ⟨r1,r2⟩
theorem Sub.Zx7 (D:Nat)(e:TypeId){n:Nat}(hn:0<n):Sub ((σ.bG D).add (.loc D 0) (.arr e n [])) σ:=fun _ _ _ _ ρ m act w hS=>by
 have h:=hS.bG D;have hN:=qW.bG D σ;generalize σ.bG D=σ at h hN;have J8:=Mb ρ D 0 ⟨0,0,0,false⟩;have hu:=Q7 ρ (.loc D 0) ⟨0,0,0,false⟩;have look:∀s' b',(σ.add (.loc D 0) (.arr e n [])).b s'=some b'->(s'=.loc D 0/\b'=.arr e n [])\/(s'≠.loc D 0/\σ.b s'=some b'):=fun s' b' k=>by
  rw[AS.SJ]at k;split at k
  .rename_i e;cases k;exact .inl ⟨e,rfl⟩
  .rename_i e;exact .inr ⟨e,k⟩
 have old:∀s' b' k,(σ.add (.loc D 0) (.arr e n [])).b s'=some b'->fK (iK ρ (.loc D 0) ⟨0,0,0,false⟩) w s' b' k->σ.b s'=some b'/\fK ρ w s' b' k:=fun s' b' k k1 r=>by
  rcases look s' b' k1 with⟨rfl,rfl⟩|⟨q0,q1⟩
  .obtain⟨r1,_⟩:=DW rfl r;rw[hu]at r1;cases r1
  .rw[Q5 (z8 ρ _ q0)]at r;exact⟨q1,r⟩
 refine⟨iK ρ (.loc D 0) ⟨0,0,0,false⟩,m,h.sE,h.sz,fun t a k=>?_,fun s' b' k=>?_,fun s1 s2 b1 b2 k k1 k2 r1 r2=>?_,h.mem,fun s' b' k k1 r=>?_,fun s' b' k k1 r=>?_,h.keep,h.base,h.qC,fun j=>(J8 _ rfl).trans (h.par j)⟩
 .obtain⟨v,k1,k2⟩:=h.tm t a k;exact⟨v,k1,k2.mono (Le.refl m) J8 (hN.t t a k)⟩
 .rcases look s' b' k with⟨rfl,rfl⟩|⟨q0,q1⟩
  .exact⟨hn,.inl ⟨by rw[hu],rfl,by rw[hu]⟩⟩
  .exact(h.bx s' b' q1).stay (Le.refl m) J8 (hN.b s' b' q1).1 (hN.b s' b' q1).2 (fun _ _=>rfl)
 .obtain⟨p1,p2⟩:=old s1 b1 k k1 r1;obtain⟨q1,q2⟩:=old s2 b2 k k2 r2;exact h.dY s1 s2 b1 b2 k p1 q1 p2 q2
 .obtain⟨p1,p2⟩:=old s' b' k k1 r;exact h.eL s' b' k p1 p2
 .obtain⟨p1,p2⟩:=old s' b' k k1 r;exact h.fL s' b' k p1 p2
end
def AS.cI (D:Nat)(e:TypeId)(n t:Nat)(σ:AS):AS:=((σ.bG D).add (.loc D 0) (.arr e n [])).put t (.vec (.loc D 0) n 0 0)
theorem cI {σ:AS}(D:Nat)(e:TypeId)(n t:Nat){nl:Option Bool}(h:σ.t t=some (.pv (.emp nl)))(hn:0<n):Sub (σ.cI D e n t) σ:=by
 refine Sub.trans' (b:=(σ.bG D).add (.loc D 0) (.arr e n [])) ?_ (Sub.Zx7 D e hn);refine Sub.wkT (a:=.pv (.emp nl)) _ ?_ Zrw;show(σ.bG D).t t=_;rw[AS.Kq,h];rfl
def AS.lY (D:Nat)(e:TypeId)(n:Nat)(s:Site)(cs:List AV)(i:Nat)(σ:AS):AS:=((σ.bG D).add (.loc D 0) (.arr e n [])).set s (.cells (cs.set i (.vec (.loc D 0) n 0 0)))
theorem lY {σ:AS}(D:Nat)(e:TypeId)(n:Nat){s:Site}{cs:List AV}(i:Nat){nl:Option Bool}(h:(σ.bG D).b s=some (.cells cs))(hi:cs[i]?=some (.pv (.emp nl)))(hn:0<n):Sub (σ.lY D e n s cs i) σ:=by
 refine Sub.trans' (b:=(σ.bG D).add (.loc D 0) (.arr e n [])) ?_ (Sub.Zx7 D e hn);refine Sub.aW (a:=.pv (.emp nl)) _ ?_ hi Zrw;have hs:s≠.loc D 0:=fun e'=>by
  subst e';rw[AS.NO,if_pos (by simp[Site.fP])]at h;cases h
 rw[AS.SJ,if_neg hs];exact h
theorem Sub.j8 {σ:AS}(D t:Nat){s:Site}{e n lo len:Nat}{xs:List PV}(h:σ.t t=some (.vec s n lo len))(hb:σ.b s=some (.arr e n xs))(hl:lo+len=xs.length):
  Sub ((((σ.drop s).bG D).add (.loc D 0) (.arr e n (xs.drop lo))).put t (.vec (.loc D 0) n 0 len)) σ:=fun _ _ _ _ ρ m act w hS=>by
 have hD:=(hS.drop s).bG D;have hN:=qW.bG D (σ.drop s);obtain⟨v,zJ,Ro⟩:=hS.tm t _ h;have tZ:=hS.bx s _ hb;have xF:0<n:=tZ.1;have nE:(xs.drop lo).length=len:=by rw[uH];omega
 have gone:∀s' b',((σ.drop s).bG D).b s'=some b'->s'≠s/\∃b2,σ.b s'=some b2/\b'=b2.bG D:=fun s' b' k=>by
  rw[AS.NO]at k;split at k
  .cases k
  .obtain⟨b2,k2,rfl⟩:=dZ.1 k;rw[AS.JE]at k2;split at k2
   .cases k2
   .rename_i dA;exact⟨dA,b2,k2,rfl⟩
 obtain⟨L,Ju,hL2,hL3⟩:∃L:Loc,(L.real=true->(ρ s).real=true/\L.b=(ρ s).b)/\bO (iK ρ (.loc D 0) L) m v (.vec (.loc D 0) n 0 len)/\kO (iK ρ (.loc D 0) L) m w (.loc D 0) (.arr e n (xs.drop lo)):=by
  rcases Ro.DQ with⟨cap,rfl,c0,c1,c2⟩|⟨a,rfl,c0,jJ⟩
  .have hu:=Q7 ρ (.loc D 0) ⟨(ρ s).b,(ρ s).o+lo*n,cap,true⟩;refine⟨⟨(ρ s).b,(ρ s).o+lo*n,cap,true⟩,fun _=>⟨c2,rfl⟩,?_,?_⟩
   .have:=bO.vec (ρ:=iK ρ (.loc D 0) ⟨(ρ s).b,(ρ s).o+lo*n,cap,true⟩) (m:=m) (.loc D 0) n 0 len cap c0 (by rw[hu];simp) (by rw[hu])
    rw[hu]at this;simpa using this
   .obtain⟨_,hB|⟨hr,cs,g1,g2,g3,g4,g5⟩⟩:=tZ
    .rw[hB.1]at c2;cases c2
    refine⟨xF,.inr ⟨by rw[hu],cs,by rw[hu];exact g1,?_,?_,?_,fun i x hi=>?_⟩⟩
    .rw[hu]
     have:(lo+cap)*n<=(ρ s).cap*n:=I1 _ c1
     rw[Nat.add_mul]at this;show(ρ s).o+lo*n+cap*n<=_;omega
    .rw[hu,nE];exact c0
    .rw[hu];show cap<=_;omega
    .rw[mS]at hi;obtain⟨k1,k2⟩:=g5 (lo+i) x hi;refine⟨k1,fun j c hj=>?_⟩;obtain⟨d,q1,q2,q3⟩:=k2 j c hj;rw[hu];refine⟨d,?_,q2,q3⟩;rw[<-q1,Nat.add_mul];show cs[(ρ s).o+lo*n+i*n+j]?=_;congr 1;omega
  .have hu:=Q7 ρ (.loc D 0) ⟨0,0,0,false⟩;have hx:xs.drop lo=[]:=List.eq_nil_of_length_eq_zero (by rw[nE];exact c0);refine⟨⟨0,0,0,false⟩,fun e'=>(by cases e'),?_,?_⟩
   .subst c0;exact .mZ _ _ _ _ jJ
   .exact⟨xF,.inl ⟨by rw[hu],hx,by rw[hu]⟩⟩
 have hAdd:Sat _ _ _ _ (((σ.drop s).bG D).add (.loc D 0) (.arr e n (xs.drop lo))) (iK ρ (.loc D 0) L) m act w:=hD.add hN hL3 (fun hr s' b' k r=>by
   obtain⟨k1,k2⟩:=Ju hr;obtain⟨q1,b2,q2,rfl⟩:=gone s' b' k;rw[k2]at r;exact q1 (hS.dY s' s b2 _ _ q2 hb (JS.1 r) (xN k1))) (fun hr=>by
   obtain⟨k1,k2⟩:=Ju hr;rw[k2];exact hS.off s _ hb k1) (fun hr=>by
   obtain⟨k1,k2⟩:=Ju hr;rw[k2];exact hS.own s _ hb k1)
 refine⟨iK ρ (.loc D 0) L,m,hAdd.sE,hAdd.sz,fun t' b k=>?_,hAdd.bx,hAdd.dY,hAdd.mem,hAdd.eL,hAdd.fL,hAdd.keep,hAdd.base,hAdd.qC,hAdd.par⟩;rw[AS.ZxN]at k;split at k
 .rename_i e';subst e';cases k;exact⟨v,zJ,hL2⟩
 .exact hAdd.tm t' b k
def AS.j8 (D t:Nat)(s:Site)(e n len:Nat)(ys:List PV)(σ:AS):AS:=(((σ.drop s).bG D).add (.loc D 0) (.arr e n ys)).put t (.vec (.loc D 0) n 0 len)
theorem j8 {σ:AS}(D t:Nat){s:Site}{e n lo len:Nat}{xs:List PV}(ys:List PV)(h:σ.t t=some (.vec s n lo len))(hb:σ.b s=some (.arr e n xs))(hl:lo+len=xs.length)(hy:xs.drop lo=ys):Sub (σ.j8 D t s e n len ys) σ:=by
 subst hy;exact Sub.j8 D t h hb hl
mutual
theorem AV.Ko {d:Nat}:∀a:AV,a.has d=false->a.dC (fun s=>!s.fP d)=true
 |.any,_=>rfl
 |.pv _,_=>rfl
 |.ptr s _,h=>by simp only[AV.has]at h;simp[AV.dC,h]
 |.lB s _ _ _,h=>by simp only[AV.has]at h;simp[AV.dC,h]
 |.vec s _ _ _,h=>by simp only[AV.has]at h;simp[AV.dC,h]
 |.mp s,h=>by simp only[AV.has]at h;simp[AV.dC,h]
 |.nJ s,h=>by simp only[AV.has]at h;simp[AV.dC,h]
 |.fn _ fs cs,h=>by
  simp only[AV.has,Bool.or_eq_false_iff]at h;simp only[AV.dC,AV.SK fs h.1,AV.SK cs h.2,Bool.and_self]
 |.agg cs,h=>by simp only[AV.has]at h;simp only[AV.dC,AV.SK cs h]
 |.bL vs,h=>by simp only[AV.has]at h;simp only[AV.dC,AV.SK vs h]
theorem AV.SK {d:Nat}:∀l:List AV,AV.qT d l=false->AV.gW (fun s=>!s.fP d) l=true
 |[],_=>rfl
 |a::r,h=>by
  simp only[AV.qT,Bool.or_eq_false_iff]at h;simp only[AV.gW,AV.Ko a h.1,AV.SK r h.2,Bool.and_self]
end
theorem aJ.Ko {d:Nat}{b:aJ}(h:b.has d=false):b.dC (fun s=>!s.fP d)=true:=by
 cases b with
 |cells bS=>exact AV.SK bS h
 |loop C ps nt tm st=>exact AV.SK _ h
 |arr e n xs=>rfl
 |map es=>rfl
 |ext E=>rfl
def pH (D:Nat)(s x:Site):Site:=match decide (x=s)with
 |true=>.loc D 0
 |false=>x
def AS.iR (D:Nat)(s:Site)(σ:AS):AS:=⟨(σ.bG D).tm.map fun p=>(p.1,p.2.map (pH D s)),(σ.bG D).bx.map fun p=>(pH D s p.1,p.2.iR (pH D s))⟩
theorem Sub.iR (D:Nat)(s:Site)(σ:AS):Sub (σ.iR D s) σ:=fun _ _ _ _ ρ m act w hS=>by
 have h:=hS.bG D;have hN:=qW.bG D σ;unfold AS.iR;generalize σ.bG D=σ at h hN;have hu:=Q7 ρ (.loc D 0) (ρ s);have hg:∀x:Site,(!x.fP D)=true->iK ρ (.loc D 0) (ρ s) (pH D s x)=ρ x:=fun x hx=>by
  unfold pH;by_cases e:x=s
  .subst e;rw[decide_eq_true rfl];exact hu
  .rw[decide_eq_false e];exact z8 ρ _ (fun e'=>by subst e';simp[Site.fP]at hx)
 have look:∀(l:List (Site×aJ)) (s':Site) (b':aJ),(l.map fun p=>(pH D s p.1,p.2.iR (pH D s))).lookup s'=some b'->∃s0 b0,l.lookup s0=some b0/\s'=pH D s s0/\b'=b0.iR (pH D s):=by
  intro l;induction l with
  |nil=>intro s' b' k;simp at k
  |cons p r ih=>
   obtain⟨a,c⟩:=p;intro s' b' k;rw[iL]at k;by_cases e:s'=pH D s a
   .subst e;rw[mT]at k;cases k;exact⟨a,c,mT,rfl,rfl⟩
   .rw[jC e]at k;obtain⟨s0,b0,h1,h2,h3⟩:=ih s' b' k;refine⟨s0,b0,?_,h2,h3⟩;rw[jC (fun e'=>e (by rw[h2,e']))];exact h1
 have ZI:∀s0 b0,σ.b s0=some b0->(!s0.fP D)=true/\b0.dC (fun s=>!s.fP D)=true:=fun s0 b0 k=>by
  obtain⟨k1,k2⟩:=hN.b s0 b0 k;exact⟨by rw[k1];rfl,aJ.Ko k2⟩
 refine⟨iK ρ (.loc D 0) (ρ s),m,h.sE,h.sz,fun t a k=>?_,fun s' b' k=>?_,fun s1 s2 b1 b2 k k1 k2 r1 r2=>?_,h.mem,fun s' b' k k1 r=>?_,fun s' b' k k1 r=>?_,h.keep,h.base,h.qC,fun j=>(z8 ρ _ (by simp)).trans (h.par j)⟩
 .have k':(σ.t t).map (AV.map (pH D s))=some a:=by rw[<-k];exact(SW (AV.map (pH D s)) t σ.tm).symm
  obtain⟨c,k1,rfl⟩:=dZ.1 k';obtain⟨v,k2,k3⟩:=h.tm t c k1;exact⟨v,k2,k3.map hg (AV.Ko c (hN.t t c k1))⟩
 .obtain⟨s0,b0,k1,rfl,rfl⟩:=look σ.bx s' b' k;obtain⟨q1,q2⟩:=ZI s0 b0 k1;exact(h.bx s0 b0 k1).iR hg q1 q2
 .obtain⟨a1,c1,p1,rfl,rfl⟩:=look σ.bx s1 b1 k1;obtain⟨a2,c2,p2,rfl,rfl⟩:=look σ.bx s2 b2 k2;rw[h.dY a1 a2 c1 c2 k p1 p2 ((uM (hg a1 (ZI a1 c1 p1).1)).1 r1) ((uM (hg a2 (ZI a2 c2 p2).1)).1 r2)]
 .obtain⟨a1,c1,p1,rfl,rfl⟩:=look σ.bx s' b' k1;exact h.eL a1 c1 k p1 ((uM (hg a1 (ZI a1 c1 p1).1)).1 r)
 .obtain⟨a1,c1,p1,rfl,rfl⟩:=look σ.bx s' b' k1;exact h.fL a1 c1 k p1 ((uM (hg a1 (ZI a1 c1 p1).1)).1 r)
section
variable {P:Program}{σ:AS}{K:AV->AS->Prop}
theorem ZlI (d i:Nat)(aE:List Site){f:bA}{args:List bA}{d0:Nat}{s:Site}{B:List (Site×aJ)}{gE:List AV}{R:AV->List (Site×aJ)->Prop}(h1:σ.o f=.nJ s)(hi:aE[i]?=some s)(h2:DR aE=true)(h3:aE.all (fun s=>!s.fP d)=true)
  (hB:oW σ aE 0 aE=some B) (h4:AV.gW (fun x=>aE.contains x) (args.map σ.o)=true) (ha:AV.iM (kA aE) (args.map σ.o)=gE) (hC:FL P i gE B R)
  (hK:∀r B',R r B'->r.dC (bX aE)=true/\(∀p∈B',bX aE p.1=true/\p.2.dC (bX aE)=true)/\K (r.map (gG aE d)) (((cO aE σ).bG d).lT (eZ aE d B'))):
  yV P f args d0 K σ\/(FQ P f args K σ\/FP P f args K σ):=by
 refine .inr (.inr ⟨d,[],aE,s,i,B,h1,hi,SY h2,h3,hB,h4,?_⟩)
 have:args.map (aM [] σ).o=args.map σ.o:=rfl
 rw[this,ha];exact hC.mono hK
end
theorem ZaQ {P:Program}{f:FuncId}{F:aX}{args:List AV}{B:List (Site×aJ)}{R:AV->List (Site×aJ)->Prop}(hm:P.follows .mixedOrders=true)(hf:fT P f=some F)(hn:args.length<=F.nt)
  (h:eK P F.code (lA (fun σ=>∃outs,aU outs F.res R σ)) ⟨eW 0 args,B⟩):cR P f args B R:=Hz hm hf hn (fun _ ⟨_,h⟩=>Ys h) (I7 h)
theorem cE (F:aX){f:FuncId}{args:List AV}{B:List (Site×aJ)}{R:AV->List (Site×aJ)->Prop}(h:eK prog F.code (lA (fun σ=>∃outs,aU outs F.res R σ)) ⟨eW 0 args,B⟩)(hf:fT prog f=some F:=by kernel_rfl)(hn:args.length<=F.nt:=by exact tH rfl):cR prog f args B R:=ZaQ mixed hf hn h
def sZ (P:Program)(f:FuncId)(bS:List AV)(B:List (Site×aJ))(R:AV->List (Site×aJ)->Prop)(Rp:PV->List (Site×aJ)->Prop):Prop:=
 jM P f/\∀(w:World) (m:Mem) (ρ:Site->Loc) (vs:Array Value),vA ρ m w B->(Le m w.mem/\nI m w/\(B.map (·.1)).Nodup)->vs.size=bS.length->(∀(j:Nat) (d:Value) (c:AV),vs[j]?=some d->bS[j]?=some c->bO ρ m d c)->
  Calls P f vs w (fun e w'=>lE w m ρ B R e w'\/P0 w m ρ B Rp e w')
section
variable {P:Program}{f:FuncId}{bS:List AV}{B:List (Site×aJ)}{R:AV->List (Site×aJ)->Prop}{Rp:PV->List (Site×aJ)->Prop}
theorem sZ.ret (h:sZ P f bS B R Rp)(hn:∀x B',¬Rp x B'):cR P f bS B R:=
 ⟨h.1,fun w m ρ vs h1 h2 h3 h4=>(h.2 w m ρ vs h1 h2 h3 h4).mono fun e w' k=>by
  rcases k with k|⟨v,rfl,v',r,B',bV,m',k1,⟨x,k2,k3⟩,k4⟩
  .exact k
  .exact absurd k3 (hn _ _)⟩
theorem sZ.B3 (h:sZ P f bS B R Rp)(hn:∀r B',¬R r B'):s4 P f bS B Rp:=
 ⟨h.1,fun w m ρ vs h1 h2 h3 h4=>(h.2 w m ρ vs h1 h2 h3 h4).mono fun e w' k=>by
  rcases k with⟨v,r,B',bV,m',k1,k2,k3⟩|k
  .exact absurd k2 (hn _ _)
  .exact k⟩
theorem sZ.mono {R':AV->List (Site×aJ)->Prop}{Rp':PV->List (Site×aJ)->Prop}(h:sZ P f bS B R Rp)(h1:∀r B',R r B'->R' r B')(h2:∀x B',Rp x B'->Rp' x B'):sZ P f bS B R' Rp':=
 ⟨h.1,fun w m ρ vs a1 a2 a3 a4=>(h.2 w m ρ vs a1 a2 a3 a4).mono fun e w' k=>by
  rcases k with⟨v,r,B',bV,m',k1,k2,k3⟩|⟨v,k0,v',r,B',bV,m',k1,⟨x,k2,k3⟩,k4⟩
  .exact .inl ⟨v,r,B',bV,m',k1,h1 _ _ k2,k3⟩
  .exact .inr ⟨v,k0,v',r,B',bV,m',k1,⟨x,k2,h2 _ _ k3⟩,k4⟩⟩
theorem FK.out {fn:Func}{w:World}{m:Mem}{ρ:Site->Loc}{hg:nI m w}{N:Nat}{ch:List PanicEntry}{bE:Act}{w':World}(hq:FK N w ⟨m,ρ,[],hg,false⟩ (cJ ρ w B) (J4 Rp) ch bE w'){R':Ending->World->Prop}(hR:∀e w',P0 w m ρ B Rp e w'->R' e w'):
  LeavesInM (FF none) 1 P fn bE.tmps R' bE.defers (.panicking ch) w':=by
 obtain⟨v,x,τ,oX,m1,yQ,rfl,N3,_,⟨outs,q3,q4,q5⟩,hT,hv⟩:=hq;obtain⟨ds,tW,wF,T2⟩:=hT.sE;have tW:=tW.nil;have Cw:Sat N w ⟨m,ρ,[],hg,false⟩ (cJ ρ w B) τ oX m1 { yQ with defers:=[]} w':=⟨⟨[],B7,xZ,fun D hD=>by cases hD⟩,hT.sz,hT.tm,hT.bx,hT.dY,hT.mem,hT.eL,hT.fL,hT.keep,hT.base,hT.qC,hT.par⟩;obtain⟨w2,T4,hL⟩:=Zfy (P:=P) (fn:=fn) (R:=R') (ch:=[{ v,recovered:=false }]) (tm:=bE.tmps) ds wF.1 T2 rfl Cw;rw[<-N3,tW];refine hL (hR _ _ ?_);obtain⟨bV,g1,g2,g3,g4⟩:=Lu T4 q3 q4;refine⟨v,rfl,v,.pv x,_,bV,m1,rfl,⟨x,rfl,q5⟩,g2,T4.base.1,T4.mem,fun i=>(g3 i).trans (T4.par i),fun s b i k r=>?_,T4.qC,.pv _ _ hv.nG,T4.keep⟩;obtain⟨s0,b0,e1,e2⟩:=g4 s b i k r;exact T4.fL s0 b0 i e1 e2
theorem ZcI {F:aX}(hm:P.follows .mixedOrders=true)(hf:fT P f=some F)(hn:bS.length<=F.nt)(h:fM P F.code (lA (rM F.res R)) (J4 Rp) ⟨eW 0 bS,B⟩):sZ P f bS B R Rp:=by
 unfold fT at hf;split at hf
 .rename_i fn qA;split at hf
  .cases hf
  .rename_i M4;split at hf
   .rename_i c hc;split at hf
    .rename_i l rs hl tU;cases hf;refine⟨⟨fn,c,qA,by simpa using M4,hc⟩,fun w m ρ vs hB mN P6 lG=>?_⟩;refine(callsIn_wide (n:=1)).1 (callsIn_of_wp_marks (F:=FF none) qA hc trivial ?_ rfl);have hS:Sat fn.ntmps w ⟨m,ρ,[],mN.2.1,false⟩ (cJ ρ w B) ⟨eW 0 bS,B⟩ ρ m { tmps:=vs++Array.replicate (fn.ntmps-vs.size) undef,defers:=[]} w:=by
      have yF:bS.length<=fn.ntmps:=hn;refine⟨⟨[],B7,xZ,fun D hD=>by cases hD⟩,by simp;omega,fun t a k=>?_,hB.bx,hB.dY,mN.1,hB.eL,fun s b i k r=>.inr (XD k r),cW.tI _ _,⟨Le.refl _,hB.free mN.2.2⟩,fun b o v k=>.inl k,fun i=>rfl⟩;obtain⟨_,k1⟩:=Hm bS 0 t a k;rw[Nat.sub_zero]at k1;have aI:t<vs.size:=by rw[P6];exact(bZ.1 k1).1
      exact⟨vs[t],by rw[Array.getElem?_append,if_pos aI,uT aI],lG t _ a (uT aI) k1⟩
     refine wpIn_mono (ZgZ (ro:=none) (fun l e=>by cases e) hm c l _ (fun e=>by cases e) (fun e=>by cases e) hl h hS) (fun e bE w' hq=>?_);have fin:F8 fn.ntmps w ⟨m,ρ,[],mN.2.1,false⟩ (cJ ρ w B) (rM rs R) bE w'->LeavesInM (FF none) 1 P fn bE.tmps (fun e w'=>lE w m ρ B R e w'\/P0 w m ρ B Rp e w') bE.defers .returning w':=by
      rintro⟨τ,oX,m1,RD,hT⟩;obtain⟨ds,tW,wF,T2⟩:=hT.sE;have tW:=tW.nil;have Cw:Sat fn.ntmps w ⟨m,ρ,[],mN.2.1,false⟩ (cJ ρ w B) τ oX m1 { bE with defers:=[]} w':=⟨⟨[],B7,xZ,fun D hD=>by cases hD⟩,hT.sz,hT.tm,hT.bx,hT.dY,hT.mem,hT.eL,hT.fL,hT.keep,hT.base,hT.qC,hT.par⟩;obtain⟨w2,T4,hL⟩:=Zey (P:=P) (fn:=fn) (R:=fun e w'=>lE w m ρ B R e w'\/P0 w m ρ B Rp e w') ds wF.1 T2 rfl Cw;rw[tW];refine hL ?_;obtain⟨fz,outs,la,q1,q2,q3,q4,q5⟩:=RD;obtain⟨m2,hF⟩:=T4.aY fz;obtain⟨YE,r1,r2,r3⟩:=Mk fn.results.toList rs la tU q1 hF;obtain⟨bV,g1,g2,g3,g4⟩:=Lu hF q3 q4;have BU:=ZkM r2 r3;refine⟨_,?_,.inl ⟨_,_,_,bV,m2,rfl,q5,g2,hF.base.1,hF.mem,fun i=>(g3 i).trans (hF.par i),fun s b i k r=>?_,hF.qC,BU.map g1 q2,hF.keep⟩⟩
      .show(do let vs <-fn.results.mapM (vF bE.tmps);pure (if h:vs.size=1 then vs[0]else .tuple vs):Sem Value).run P w2=_;rw[Sem.run_bind,Array.mapM_eq_mapM_toList,Sem.run_map,r1];rfl
      .obtain⟨s0,b0,e1,e2⟩:=g4 s b i k r;exact hF.fL s0 b0 i e1 e2
     cases e with
     |normal=>exact fin hq
     |ret=>exact fin hq
     |exit id=>obtain⟨τ,oX,m1,q,_⟩:=hq;exact q.elim
     |goto l=>exact hq.elim
     |outgrown=>exact hq.elim
     |panic ch=>exact FK.out hq (fun _ _ k=>.inr k)
    .cases hf
   .cases hf
 .cases hf
theorem FR {c:bC}{Q:sC->AS->Prop}{Qp:PV->AS->Prop}{σ:AS}(h:eK P c Q σ):fM P c Q Qp σ:=NU (I7 h)
end
theorem cX (F:aX){f:FuncId}{bS:List AV}{B:List (Site×aJ)}{R:AV->List (Site×aJ)->Prop}{Rp:PV->List (Site×aJ)->Prop}(h:fM prog F.code (lA (rM F.res R)) (J4 Rp) ⟨eW 0 bS,B⟩)(hf:fT prog f=some F:=by kernel_rfl)(hn:bS.length<=F.nt:=by exact tH rfl):sZ prog f bS B R Rp:=ZcI mixed hf hn h
theorem AB {m:Mem}{v:Value}{nl:Option Bool}{n:Nat}(h:dG m v (.emp nl)):dG m v (.aF false n []):=by
 cases h with
 |emp a _ h0 h1 h2=>exact .aF a 0 false n [] (fun _=>[]) (by simp) (by simp) (fun _=>rfl) h2 (fun hh=>by cases hh) (fun i x hx=>by simp at hx) (fun i x hx=>by simp at hx) (fun i x j d c hx=>by simp at hx)
theorem Zr1 {m:Mem}{v:Value}{cs iH:List PV}(hl:cs.length=iH.length)(hw:∀(j:Nat) (c c':PV) (d:Value),cs[j]?=some c->iH[j]?=some c'->dG m d c->dG m d c')(h:dG m v (.agg cs)):dG m v (.agg iH):=by
 cases h with
 |agg vs _ h0 h1 h2=>
  refine .agg vs iH (by omega) h1 (fun j d c k1 k2=>?_);have hj:j<cs.length:=by have:=(bZ.1 k2).1;omega
  exact hw j cs[j] c d (bB hj) k2 (h2 j d _ k1 (bB hj))
theorem cR.Xg {P:Program}{f:FuncId}{xs ys:List PV}{B:List (Site×aJ)}{R:AV->List (Site×aJ)->Prop}(h:cR P f (ys.map .pv) B R)(hl:xs.length=ys.length)(hw:∀(j:Nat) (x y:PV) (m:Mem) (v:Value),xs[j]?=some x->ys[j]?=some y->dG m v x->dG m v y):cR P f (xs.map .pv) B R:=by
 refine⟨h.1,fun w m ρ vs h1 h2 h3 h4=>h.2 w m ρ vs h1 h2 (by simpa[hl]using h3) (fun j d c k1 k2=>?_)⟩;rw[bW]at k2;obtain⟨y,hy,rfl⟩:=dZ.1 k2;have hj:j<xs.length:=by rw[hl];exact(bZ.1 hy).1
 have:=h4 j d (.pv xs[j]) k1 (by rw[bW,bB hj];rfl)
 exact .pv _ _ (hw j _ _ _ _ (bB hj) hy this.nG)
theorem cR.U8 {P:Program}{f:FuncId}{xs:List AV}{B:List (Site×aJ)}{x':PV}(h:cR P f xs B (fun r B=>∃x,r=.pv x/\B=[]/\∀m v,dG m v x->dG m v x')):cR P f xs B (fun r B=>r=.pv x'/\B=[]):=by
 refine⟨h.1,fun w m ρ vs h1 h2 h3 h4=>(h.2 w m ρ vs h1 h2 h3 h4).mono fun e w' ⟨v,r,B',bV,m',k1,⟨x,k2,k3,hw⟩,k4,k5,k6,k7,k8,k9,Qy,Qx⟩=>?_⟩;subst k2 k3;exact⟨v,.pv x',[],bV,m',k1,⟨rfl,rfl⟩,k4,k5,k6,k7,k8,k9,.pv _ _ (hw _ _ Qy.nG),Qx⟩
theorem Yb {m:Mem}{v:Value}{cs iH:List PV}(hl:cs.length=iH.length)(hw:∀(j:Nat) (c c':PV) (d:Value),cs[j]?=some c->iH[j]?=some c'->dG m d c->dG m d c')(h:dG m v (.bL cs)):dG m v (.bL iH):=by
 cases h with
 |bL vs _ h0 h2=>
  refine .bL vs iH (by omega) (fun j d c k1 k2=>?_);have hj:j<cs.length:=by have:=(bZ.1 k2).1;omega
  exact hw j cs[j] c d (bB hj) k2 (h2 j d _ k1 (bB hj))
theorem ZuQ {m:Mem}{v:Value}{nn:Bool}{n:Nat}{cs iH:List PV}(hl:cs.length=iH.length)(hc:∀(j:Nat) (c:PV),iH[j]?=some c->c.cells.length=n)(hw:∀(j:Nat) (c c':PV) (k:Nat) (d:Value) (x x':PV),cs[j]?=some c->iH[j]?=some c'->c.cells[k]?=some x->c'.cells[k]?=some x'->dG m d x->dG m d x')(h:dG m v (.aF nn n cs)):dG m v (.aF nn n iH):=by
 cases h with
 |aF a cap _ _ _ ds h0 h1 h2 h3 h4 h5 h6 h7=>
  rw[hl];have key:∀(i:Nat) (x:PV),iH[i]?=some x->∃y,cs[i]?=some y:=fun i x hx=>by
   have:i<cs.length:=by rw[hl];exact(bZ.1 hx).1
   exact⟨cs[i],bB this⟩
  refine .aF a cap nn n iH ds (by omega) h1 h2 h3 h4 (fun i x hx=>?_) (fun i x hx=>?_) (fun i x j d c hx hd sU=>?_)
  .obtain⟨y,hy⟩:=key i x hx;exact h5 i y hy
  .obtain⟨y,hy⟩:=key i x hx;obtain⟨a1,a2,a3⟩:=h6 i y hy;exact⟨a1,hc i x hx,a3⟩
  .obtain⟨y,hy⟩:=key i x hx;obtain⟨a1,a2,a3⟩:=h6 i y hy;have hj:j<y.cells.length:=by
    have:=(bZ.1 hd).1
    omega
   exact hw i y x j d _ c hy hx (bB hj) sU (h7 i y j d _ hy hd (bB hj))
section
attribute [local simp] AS.exp jT aJ.iR AV.map AV.iM rE dO Site.uJ aJ.dC AV.dC AV.gW aU cO AS.lT eZ gG bX oW kA mQ gI q9
attribute [local simp] aJ.bG Site.fP
def yM (e:Int):PV:=.iface 198 (.agg [.i e])
theorem gM (e:Int):aD prog 148 [.bool true,.i e] (.bL []):=by
 refine cS L148 ?_;simp[L148]
theorem zV (e:Int):s4 prog 148 [.pv (.bool false),.pv (.i e)] [] (fun x B=>x=yM e/\B=[]):=by
 refine(ZcI (R:=fun _ _=>False) mixed L148_ok (tH rfl) ?_).B3 (fun _ _ h=>h);show fM _ (.seq _ (.cond _ _ _)) _ _ _;refine mH ?_;simp[hold];refine ZoU (t:=true) (by simp) ?_;refine Gc [_,_,_] ?_;simp[hold];refine⟨rfl,.inr ⟨_,_,_,rfl,by simp;exact⟨rfl,rfl⟩,?_⟩⟩;exact⟨[],rfl,(fun s hs=>by cases hs),rfl,rfl⟩
theorem JT (n lo hi:Int):aD prog 235 [.i n,.i lo,.i hi] (.bool (decide (lo<=n)&&decide (n<=hi))):=by
 refine cS L235 ?_;by_cases h:lo<=n<;>by_cases h':n<=hi<;>simp[L235,h,h']
end
end Go.Proofs.YtlllhbmbnjnoiaaGreatDoor
namespace Go.Proofs
open Go.RowKit
open Tryz
section
open Go.Shelf
def Tryz.Zwu:Go.Shelf.Ren:=⟨fun|156=>90|165=>126|166=>40|169=>47|240=>78|241=>169|276=>117|277=>211|n=>n,fun|31=>22|9=>9|3=>3|4=>4|0=>0|20=>20|72=>102|76=>105|70=>100|37=>63|75=>104|127=>182|164=>216|5=>5|80=>122|n=>n,fun|n=>n⟩
theorem Tryz.Zxi:Go.Proofs.Lays.n156 prog Zwu:=by repeat' first|kernel_rfl|(intro _;kernel_rfl)|decide|constructor
theorem Tryz.ZvW:Builder.Extra prog Zwu:=by repeat' first|kernel_rfl|(intro _;kernel_rfl)|decide|constructor
open Go.RowKit in
theorem Tryz.strings_Join_none (a:Option Addr)(c:Nat)(sep:ByteArray)(w:World):
  Calls prog 90 #[.slice a 0 c,.string sep] w fun e w'=>e=.returned (.string ⟨#[]⟩)/\w'=w:=Any.strings_Join_none Zxi ZvW a c sep w
open Go.RowKit in
theorem Tryz.strings_Join (bk o c:Nat)(xs:List ByteArray)(sep:ByteArray)(w:World)(QR:∀(j:Nat) x,xs[j]?=some x->w.cell? ⟨bk,o+j,none⟩=some (.string x))(IC:bk<w.heap.size)(hN:xs.length<=140737488355328)(QS:xs.length<=c)(hlen:(Lib.join (xs.map (·.data.toList)) sep.data.toList).length<=140737488355328):
  Calls prog 90 #[.slice (some ⟨bk,o,none⟩) xs.length c,.string sep] w fun e w'=>e=.returned (.string ⟨(Lib.join (xs.map (·.data.toList)) sep.data.toList).toArray⟩)/\Below w.heap.size w w':=Any.strings_Join Zxi ZvW bk o c xs sep w QR IC hN QS hlen
def Tryz.ZwQ:Go.Shelf.Ren:=⟨fun|171=>89|243=>125|246=>168|283=>207|284=>208|285=>209|286=>210|129=>262|317=>263|318=>264|319=>265|320=>266|337=>297|338=>298|n=>n,fun|3=>3|9=>9|2=>2|4=>4|171=>306|0=>0|53=>307|37=>63|5=>5|173=>310|212=>358|51=>316|20=>20|213=>359|46=>277|232=>396|233=>397|n=>n,fun|17=>0|18=>4|19=>5|n=>n⟩
theorem Tryz.Zxr:Go.Proofs.LaysM.n171 prog ZwQ:=by repeat' first|kernel_rfl|(intro _;kernel_rfl)|decide|constructor
open Go.RowKit Go.Sort Go.Lib in
theorem Tryz.strconv_Itoa (n : Int) (h0 : -9223372036854775808 <= n) (h1 : n <= 9223372036854775807) (w : World) (PG : Lib.TabIs prog w "internal/strconv.uint64pow10" .u64 Lib.pow10Tab) :
  Calls prog 89 #[.i n] w fun e w'=>e=.returned (.string ⟨(Lib.itoa n).toArray⟩)/\∃k os,w'=grow (w.drewN k) os:=Any.strconv_Itoa Zxr n h0 h1 w PG
def Tryz.ZwR:Go.Shelf.Ren:=⟨fun|172=>145|244=>184|245=>185|247=>221|279=>222|280=>223|281=>224|282=>225|287=>270|316=>271|171=>89|205=>272|321=>301|322=>302|243=>125|246=>168|283=>207|284=>208|285=>209|286=>210|129=>262|317=>263|318=>264|319=>265|320=>266|337=>297|338=>298|n=>n,fun|9=>9|3=>3|75=>104|76=>105|4=>4|5=>5|167=>323|37=>63|0=>0|85=>324|2=>2|168=>326|53=>307|175=>363|46=>277|210=>367|127=>182|145=>392|143=>390|21=>21|171=>306|173=>310|212=>358|51=>316|20=>20|213=>359|232=>396|233=>397|80=>122|n=>n,fun|15=>2|16=>3|17=>0|18=>4|19=>5|n=>n⟩
theorem Tryz.Xf:Go.Proofs.LaysC.n172 prog ZwR:=by repeat' first|kernel_rfl|(intro _;kernel_rfl)|decide|constructor
open Go.RowKit in
theorem Tryz.strconv_Atoi_ok (s:ByteArray)(PY:s.size<=9223372036854775806)(v:Int)(h:Lib.atoiAll s.data.toList=.ok v)(w:World):
  Calls prog 145 #[.string s] w fun e w'=>e=.returned (.tuple #[.i v,.nilIface])/\(w'=w\/∃t,w'=Lib.bytesWorld w 5 t):=Any.strconv_Atoi_ok Xf s PY v h w
open Go.RowKit in
theorem Tryz.strconv_Atoi_syntax (s:ByteArray)(PZ:s.size<=281474976710656)(h:Lib.atoiAll s.data.toList=Lib.NumEnd.syntax)(ev:Value)(w:World)(hv:w.cell? ⟨2,0,none⟩=some ev)(Ug:ev=.nilIface\/∃te pe,ev=.iface te pe):
  Calls prog 145 #[.string s] w fun e w'=>∃N,e=.returned (.tuple #[.i 0,.iface 326 (.pointer (some ⟨N,0,none⟩))])/\w.heap.size<=N/\w'.heap[N]?=some (.cells #[.string ⟨#[65,116,111,105]⟩,.string s,ev] 367 (0,0))/\Below w.heap.size w w':=Any.strconv_Atoi_syntax Xf s PZ h ev w hv Ug
open Go.RowKit in
theorem Tryz.strconv_Atoi_range (s:ByteArray)(PZ:s.size<=281474976710656)(h:Lib.atoiAll s.data.toList=.range)(ev:Value)(w:World)(hv:w.cell? ⟨3,0,none⟩=some ev)(Ug:ev=.nilIface\/∃te pe,ev=.iface te pe):
  Calls prog 145 #[.string s] w fun e w'=>∃N,e=.returned (.tuple #[.i (Lib.atoiSat s.data.toList),.iface 326 (.pointer (some ⟨N,0,none⟩))])/\w.heap.size<=N/\w'.heap[N]?=some (.cells #[.string ⟨#[65,116,111,105]⟩,.string s,ev] 367 (0,0))/\Below w.heap.size w w':=Any.strconv_Atoi_range Xf s PZ h ev w hv Ug
def Tryz.Zw0:Go.Shelf.Ren:=⟨fun|101=>193|208=>240|206=>286|n=>n,fun|9=>9|4=>4|3=>3|n=>n,fun|n=>n⟩
theorem Tryz.ZxF:Go.Proofs.Lays.n101 prog Zw0:=by repeat' first|kernel_rfl|(intro _;kernel_rfl)|decide|constructor
open Go.RowKit Go.Lib in
theorem Tryz.strings_TrimPrefix (s p:ByteArray)(w:World):
  Calls prog 193 #[.string s,.string p] w fun e w'=>e=.returned (.string ⟨(Lib.trimPrefix s.data.toList p.data.toList).toArray⟩)/\w'=w:=Any.strings_TrimPrefix ZxF s p w
def Tryz.ZwZ:Go.Shelf.Ren:=⟨fun|146=>146|221=>186|268=>226|138=>227|143=>228|195=>273|197=>274|218=>275|219=>276|260=>303|217=>304|225=>305|224=>306|267=>307|266=>314|314=>315|n=>n,fun|9=>9|31=>22|3=>3|4=>4|0=>0|105=>369|21=>21|5=>5|46=>277|119=>398|139=>401|138=>400|146=>317|51=>316|n=>n,fun|1=>1|3=>6|4=>7|n=>n⟩
theorem Tryz.ZxE:Go.Proofs.Lays.n146 prog ZwZ:=by repeat' first|kernel_rfl|(intro _;kernel_rfl)|decide|constructor
open Go.RowKit Go.Lib in
theorem Tryz.strings_Split (s sep:ByteArray)(m:Int)(w:World)(hs:s.size<4294967281)(hm:w.cell? ⟨1,0,none⟩=some (.i m))(h1:1<=sep.size):
  Calls prog 146 #[.string s,.string sep] w fun e w'=>
   e=.returned (.slice (some ⟨w.heap.size,0,none⟩) (Lib.countB s sep+1) (Lib.countB s sep+1))/\w'=w.alloc (.cells ((Lib.splitB sep 0 (Lib.countB s sep) s).map Value.string).toArray 9):=Any.strings_Split ZxE (by kernel_rfl) s sep m w hs hm h1
end
end Go.Proofs
namespace Go.Proofs.YtlllhbmbnjnoiaaGreatDoor
open Go.RowKit
open Tryz
section
open Go.RowKit Go.Sort
theorem ZiT {P:Program}{f:FuncId}{xs:List PV}{y:PV}(hc:jM P f)(h:∀(w:World) (m:Mem) (vs:Array Value),nI m w->Le m w.mem->vs.size=xs.length->(∀(j:Nat) (d:Value) (c:PV),vs[j]?=some d->xs[j]?=some c->dG m d c)->
   Calls P f vs w (fun e w'=>∃v m',e=.returned v/\Ext w w'/\Le m m'/\Le m' w'.mem/\(∀b o u,m' b o=some u->m b o=some u\/w.heap.size<=b)/\dG m' v y)):aD P f xs y:=by
 refine⟨hc,fun w m ρ vs hB mN fH lG=>(h w m vs mN.2.1 mN.1 (by simpa using fH) (fun j d c k1 k2=>(lG j d (.pv c) k1 (by rw[bW,k2];rfl)).nG)).mono ?_⟩;rintro e w' ⟨v,m',rfl,hx,h1,h2,h3,h4⟩;exact⟨v,.pv y,[],ρ,m',rfl,⟨rfl,rfl⟩,vA.nil _ _ _,h1,h2,fun _=>rfl,fun s b k hs=>by simp[List.lookup]at hs,fun b o u hu=>(h3 b o u hu).imp id .inl,.pv _ _ h4,cW.Ev hx _⟩
theorem Mu {P:Program}{f:FuncId}{xs:List PV}{y:PV}(hc:jM P f)(h:∀(w:World) (m:Mem) (vs:Array Value),nI m w->Le m w.mem->vs.size=xs.length->(∀(j:Nat) (d:Value) (c:PV),vs[j]?=some d->xs[j]?=some c->dG m d c)->
   Calls P f vs w (fun e w'=>∃v,e=.returned v/\Ext w w'/\dG m v y)):aD P f xs y:=
 ZiT hc fun w m vs h1 h2 h3 h4=>(h w m vs h1 h2 h3 h4).mono fun _ _ ⟨v,k1,k2,k3⟩=>⟨v,m,k1,k2,Le.refl m,h2.trans k2.le,fun _ _ _ h=>.inl h,k3⟩
theorem RY {vs:Array Value}(h:vs.size=1):∃v,vs=#[v]:=by
 match vs,h with
 |⟨[v]⟩,_=>exact⟨v,rfl⟩
theorem IY {vs:Array Value}(h:vs.size=2):∃v u,vs=#[v,u]:=by
 match vs,h with
 |⟨[v,u]⟩,_=>exact⟨v,u,rfl⟩
theorem SQ {m:Mem}{v:Value}{s:ByteArray}(h:dG m v (.str s)):v=.string s:=by cases h;rfl
theorem Zt7 {m:Mem}{v:Value}{k:IntKind}{n:Int}(h:dG m v (.int k n)):v=.int k n:=by cases h;rfl
def vW (n:Int):ByteArray:=⟨(Lib.itoa n).toArray⟩
theorem Zqt (w:World)(k:Nat)(os:Array Obj):Ext w (grow (w.drewN k) os):=⟨rfl,rfl,rfl,by simp[grow,World.drewN],fun i hi=>by
 show(w.heap++os)[i]?=w.heap[i]?;rw[Array.getElem?_append,if_pos hi]⟩
theorem Xx (n:Int)(h:-9223372036854775808<=n/\n<=9223372036854775807):aD prog 89 [.i n] (.str (vW n)):=by
 refine Mu ⟨_,_,func89,by kernel_rfl,rfl⟩ fun w m vs hg hm fH lG=>?_
 obtain⟨v,rfl⟩:=RY fH;obtain rfl:=Zt7 (lG 0 v _ rfl rfl);have PG : Lib.TabIs prog w "internal/strconv.uint64pow10" .u64 Lib.pow10Tab := by
  obtain⟨_,_,_,_,t,fr,h5⟩:=hg;have e : prog.globalNamed "internal/strconv.uint64pow10" = some 0 := by kernel_rfl
  unfold Lib.TabIs World.var?;rw[e];show(match w.heap[0]? with|some (.cells cs _ _)=>some cs|_=>none)=_;rw[h5]
 exact(strconv_Itoa n h.1 h.2 w PG).mono fun e w' ⟨h1,k,os,h2⟩=>⟨_,h1,h2▸Zqt w k os,.str _⟩
def Z8 (s:ByteArray):PV:=match Lib.atoiAll s.data.toList with
 |.ok v=>.bL [.i v,.eV]
 |Lib.NumEnd.syntax=>.bL [.i 0,.iface 326 .P3]
 |.range=>.bL [.i (Lib.atoiSat s.data.toList),.iface 326 .P3]
theorem ZrY (s:ByteArray)(hs:s.size<=1000000):aD prog 145 [.str s] (Z8 s):=by
 refine Mu ⟨_,_,func145,by kernel_rfl,rfl⟩ fun w m vs hg hm fH lG=>?_
 obtain⟨v,rfl⟩:=RY fH;obtain rfl:=SQ (lG 0 v _ rfl rfl);obtain⟨_,⟨t1,p1,g1⟩,⟨t2,p2,g2⟩,_⟩:=hg;unfold Z8;cases h:Lib.atoiAll s.data.toList with
 |ok v=>
  refine(strconv_Atoi_ok s (by omega) v h w).mono fun e w' ⟨h1,h2⟩=>⟨_,h1,?_,WN (.int _ _) .eV⟩
  rcases h2 with rfl|⟨t,rfl⟩
  .exact Ext.tI _
  .exact ZgU _ _ _
 |range=>exact(strconv_Atoi_range s (by omega) h _ w (hm _ _ _ g2) (.inr ⟨_,_,rfl⟩)).mono fun e w' ⟨N,h1,_,_,h2⟩=>⟨_,h1,h2,WN (.int _ _) (.iface _ _ _ (.P3 _ rfl))⟩
 |_=>exact(strconv_Atoi_syntax s (by omega) h _ w (hm _ _ _ g1) (.inr ⟨_,_,rfl⟩)).mono fun e w' ⟨N,h1,_,_,h2⟩=>⟨_,h1,h2,WN (.int _ _) (.iface _ _ _ (.P3 _ rfl))⟩
def trimB (s p:ByteArray):ByteArray:=⟨(Lib.trimPrefix s.data.toList p.data.toList).toArray⟩
theorem Zrx (s p:ByteArray):aD prog 193 [.str s,.str p] (.str (trimB s p)):=by
 refine Mu ⟨_,_,func193,by kernel_rfl,rfl⟩ fun w m vs hg hm fH lG=>?_
 obtain⟨v,u,rfl⟩:=IY fH;obtain rfl:=SQ (lG 0 v _ rfl rfl);obtain rfl:=SQ (lG 1 u _ rfl rfl);exact(strings_TrimPrefix s p w).mono fun e w' ⟨h1,h2⟩=>⟨_,h1,h2▸Ext.tI _,.str _⟩
def xP (s sep:ByteArray):List ByteArray:=Lib.splitB sep 0 (Lib.countB s sep) s
theorem Zsq (s sep:ByteArray)(hs:s.size<=1000000)(h1:1<=sep.size)(hlen:(xP s sep).length=Lib.countB s sep+1)(QS:Lib.countB s sep<=1000000):aD prog 146 [.str s,.str sep] (.aF true 1 ((xP s sep).map .str)):=by
 refine ZiT ⟨_,_,func146,by kernel_rfl,rfl⟩ fun w m vs hg hm fH lG=>?_
 obtain⟨v,u,rfl⟩:=IY fH;obtain rfl:=SQ (lG 0 v _ rfl rfl);obtain rfl:=SQ (lG 1 u _ rfl rfl);obtain⟨⟨z,g0⟩,_⟩:=hg;refine(strings_Split s sep z w (by omega) (hm _ _ _ g0) h1).mono ?_;rintro e w' ⟨rfl,rfl⟩;have M3:∀o,m w.heap.size o=none:=fun o=>by
  cases hv:m w.heap.size o with
  |none=>rfl
  |some v=>
   have:=AG (hm _ _ _ hv)
   omega
 obtain⟨W,hW⟩:∃W,W=w.alloc (.cells ((xP s sep).map Value.string).toArray 9):=⟨_,rfl⟩;have hx:Ext w W:=by rw[hW];exact Ext.al _ _
 have hc:∀j x,(xP s sep)[j]?=some x->W.mem w.heap.size j=some (.string x):=fun j x hj=>by
  have hb:W.heap[w.heap.size]?=some (.cells ((xP s sep).map Value.string).toArray 9 (0,0)):=by rw[hW];exact World.alloc_heap_new w _
  show World.cell? W ⟨w.heap.size,j,none⟩=_;unfold World.cell?;simp only[hb];simp[hj]
 have CS:Lib.countB s sep+1=((xP s sep).map PV.str).length:=by rw[fV];exact hlen.symm
 have X4:Lib.splitB sep 0 (Lib.countB s sep) s=xP s sep:=rfl;rw[X4,<-hW,CS];obtain⟨m',P8⟩:∃m':Mem,m'=fun b o=>if b=w.heap.size then W.mem b o else m b o:=⟨_,rfl⟩
 have e1:∀o,m' w.heap.size o=W.mem w.heap.size o:=fun o=>by rw[P8];simp
 have e2:∀b o,b≠w.heap.size->m' b o=m b o:=fun b o hb=>by rw[P8];simp[hb]
 refine⟨_,m',rfl,hx,fun b o v hv=>?_,fun b o v hv=>?_,fun b o v hv=>?_,?_⟩
 .by_cases hb:b=w.heap.size
  .subst hb;rw[M3 o]at hv;cases hv
  .rw[e2 b o hb];exact hv
 .by_cases hb:b=w.heap.size
  .subst hb;rw[e1]at hv;exact hv
  .rw[e2 b o hb]at hv;exact hx.le _ _ _ (hm _ _ _ hv)
 .by_cases hb:b=w.heap.size
  .exact .inr (by omega)
  .rw[e2 b o hb]at hv;exact .inl hv
 .refine dG.aF (some ⟨w.heap.size,0,none⟩) _ true 1 _ (fun i=>[.string ((xP s sep).getD i default)]) (fG _) (by rw[<-CS];omega) (fun h=>by cases h) (fun A hA=>by cases hA;rfl) (fun _ h=>by cases h) (fun i x hx=>?_) (fun i x hx=>?_) (fun i x j d c hx hd sU=>?_)
  all_goals
   rw[bW]at hx;obtain⟨t,ht,rfl⟩:=dZ.1 hx;have EO:(xP s sep).getD i default=t:=by rw[List.getD_eq_getElem?_getD,ht];rfl
  .refine⟨w.heap.size,0,rfl,At.b9 (fun j u hj=>?_)⟩;cases j with
   |zero=>
    cases hj
    have:=(e1 i).trans (hc i t ht)
    rw[EO];simpa using this
   |succ j=>cases hj
  .exact⟨rfl,rfl,fun u hu=>by cases rY.1 hu;rfl⟩
  .cases j with
   |zero=>cases hd;cases sU;rw[EO];exact .str _
   |succ j=>cases hd
end
section
variable {P:Program}{N:Nat}{w0:World}{m0:Env w0}{pl:List Nat}{σ:AS}{ρ:Site->Loc}{m:Mem}{act:Act}{w:World}
theorem Sat.Zx0 {d:Nat}{aE:List Site}{B:List (Site×aJ)}(hF:Sat N w0 m0 pl σ ρ m act w)(pX:aE.Nodup)(sS:aE.all (fun s=>!s.fP d)=true)(hB:oW σ aE 0 aE=some B)
  {tm:List (Nat×AV)} (w9:∀t a,tm.lookup t=some a->∃a0,σ.t t=some a0/\a=a0.map (kA aE)/\a0.dC (fun x=>aE.contains x)=true):
  ∃oB:Site->Loc,(∀s,aE.contains s=true->oB (kA aE s)=ρ s)/\Sat N w0 ⟨m0.m,oB,m0.rest,m0.uB,m0.strict⟩ pl ⟨tm,B⟩ oB m act w:=by
 obtain⟨l1,l2,l3,l4⟩:=Zdw σ aE aE 0 B hB;obtain⟨oB,fU,tZ,_⟩:=BE hF pX sS hB;refine⟨oB,fU,hF.sE,hF.sz,fun t a k=>?_,tZ.bx,tZ.dY,hF.mem,tZ.eL,fun s b k h1 h2=>?_,hF.keep,hF.base,hF.qC,fun i=>rfl⟩
 .obtain⟨a0,k1,rfl,k2⟩:=w9 t a k;obtain⟨v,k3,k4⟩:=hF.tm t a0 k1;exact⟨v,k3,k4.map fU k2⟩
 .obtain⟨j,s0,b0,e1,e2,e3,rfl,e5⟩:=l1 s b h1;have hc:=dK e2;have e6:kA aE s0=s:=by
   obtain⟨j',k1,k2⟩:=Fv hc;have e:j'=j:=Na pX k2 e2;rw[e1];unfold kA;rw[k1,e,rX]
  have e7:oB s=ρ s0:=by rw[<-e6];exact fU s0 (by simpa using hc)
  exact hF.fL s0 b0 k e3 ((uM e7).1 h2)
def Ll (σ:AS):Prop:=(∀t a,σ.t t=some a->a.dC Site.r4=true)/\∀s b,σ.b s=some b->s.r4=true/\b.dC Site.r4=true
theorem Zk7 {ρ bV:Site->Loc}(h:∀i,bV (.par i)=ρ (.par i)){s:Site}(hs:s.r4=true):bV s=ρ s:=by
 cases s with
 |par i=>exact h i
 |_=>cases hs
theorem Dv {g:FuncId}{gn:Func}{id:Nat}{o:Oper}{t6:Tmp}{c2:Code}{l2:bC}(hm:P.follows .mixedOrders=true)(hg:P.funcs[g]?=some gn)(P9:gn.body=some (.seq (.region id #[o] false) c2))
  (nB:∀ev w,(execOp ev o).run P w=.ok .recover w) (EO:o.guard=none) (hd:o.dst=some t6) (Ae:t6<gn.ntmps) (eM:gn.results=#[]) (hl:dQ P gn.ntmps c2=some l2) (hnr:kF c2=true)
  {u u':FrameMode} {rv:Value} (hu:(u=.returning/\rv=.nilIface/\u'=.returning)\/∃v,u=.panicking [{ v,recovered:=false }]/\rv=v/\u'=.panicking [{ v,recovered:=true }])
  {bS:List AV} {B:List (Site×aJ)} {args:Array Value} (hB:vA ρ m w B) (mN:Le m w.mem/\nI m w) (HM:(B.map (·.1)).Nodup) (P6:args.size=bS.length) (hn:bS.length<=gn.ntmps) (lG:∀(j:Nat) (d:Value) (c:AV),args[j]?=some d->bS[j]?=some c->bO ρ m d c)
  {ra:AV} (hra:bO ρ m rv ra) {F:AS->Prop} (h:uE P l2 (lA F) ⟨(t6,ra)::eW 0 bS,B⟩)
  {R:World->Prop} (hR:∀γ bV m' bE w',F γ->Sat gn.ntmps w ⟨m,ρ,[],mN.2,true⟩ (cJ ρ w B) γ bV m' bE w'->R w'):
  CallsDIn (FF none) 0 P g args u w (fun e u1 w'=>(∃v,e=.returned v)/\u1=u'/\R w'):=by
 refine callsDIn_of_wpSIn hg P9 trivial (fun wM cs MI=>wpSIn_seq (wpSIn_region ?_));have hS:Sat gn.ntmps w ⟨m,ρ,[],mN.2,true⟩ (cJ ρ w B) ⟨(t6,ra)::eW 0 bS,B⟩ ρ m (({ tmps:=args++Array.replicate (gn.ntmps-args.size) undef,defers:=[]}:Act).put (some t6) rv) w:=by
  refine Sat.put (σ:=⟨eW 0 bS,B⟩) ?_ Ae hra;refine⟨⟨[],B7,xZ,fun D hD=>by cases hD⟩,by simp;omega,fun t a k=>?_,hB.bx,hB.dY,mN.1,hB.eL,fun s b i k r=>.inr (XD k r),cW.tI _ _,⟨Le.refl _,hB.free HM⟩,fun b o v k=>.inl k,fun i=>rfl⟩;obtain⟨_,k1⟩:=Hm bS 0 t a k;rw[Nat.sub_zero]at k1;have aI:t<args.size:=by rw[P6];exact(bZ.1 k1).1
  exact⟨args[t],by rw[Array.getElem?_append,if_pos aI,uT aI],lG t _ a (uT aI) k1⟩
 have hw:=XJ (ro:=none) (fun l e=>by cases e) hm c2 l2 _ (fun _=>hnr) hl h hS;have fin:∀e bE w',nX gn.ntmps w ⟨m,ρ,[],mN.2,true⟩ (cJ ρ w B) (lA F) e bE w'->bodyPostS P gn wM cs (fun e u1 w'=>(∃v,e=.returned v)/\u1=u'/\R w') e bE ({ wM with mode:=u' }::cs) w':=by
  intro e bE w' hq;have done:F8 gn.ntmps w ⟨m,ρ,[],mN.2,true⟩ (cJ ρ w B) F bE w'->bE.defers=[]/\∃u1,({ wM with mode:=u' }:Frame)::cs={ wM with mode:=u1 }::cs/\∃v,(results gn bE.tmps).run P w'=.ok v w'/\((∃v',Ending.returned v=.returned v')/\u1=u'/\R w'):=by
   rintro⟨τ,oX,m1,hF,hT⟩;obtain⟨ds,tW,wF,_⟩:=hT.sE
   have:ds=[]:=wF.2 rfl
   subst this;refine⟨by simpa using tW.nil,u',rfl,.tuple #[],?_,⟨_,rfl⟩,rfl,hR τ oX m1 bE w' hF hT⟩;simp[results,eM]
  cases e with
  |normal=>exact done hq
  |ret=>exact done hq
  |exit id=>obtain⟨τ,oX,m1,q,_⟩:=hq;exact q.elim
  |goto l=>exact hq.elim
  |panic ch=>exact hq.elim
  |outgrown=>exact hq.elim
 have sO:c2.wpSIn (FF none) 0 P (bodyPostS P gn wM cs (fun e u1 w'=>(∃v,e=.returned v)/\u1=u'/\R w')) (({ tmps:=args++Array.replicate (gn.ntmps-args.size) undef,defers:=[]}:Act).put (some t6) rv) ({ wM with mode:=u' }::cs) w:=
  wpSIn_of_wpIn rfl (wpIn_mono (OE hw) fun e bE w' hq=>fin e bE w' hq)
 have Rk:Region.wanted o (yielded #[o] ({ tmps:=args++Array.replicate (gn.ntmps-args.size) undef,defers:=[]}:Act).tmps)=true:=by simp[Region.wanted,EO]
 show wpOpsSIn (FF none) 0 P #[o] _ [0] _ _ _;simp only[wpOpsSIn,I0,List.getElem?_cons_zero,Rk,if_true,nB];refine⟨fun _ _=>trivial,?_⟩;rcases hu with⟨rfl,rfl,rfl⟩|⟨v,rfl,rfl,rfl⟩
 .have hr:recoverD (wM::cs)=none:=by simp[recoverD,MI]
  have e:({ wM with mode:=FrameMode.returning }:Frame)=wM:=by rw[<-MI]
  rw[e]at sO;simp only[hr,hd];exact sO
 .have hr:recoverD (wM::cs)=some (rv,{ wM with mode:=.panicking [{ v:=rv,recovered:=true }]}::cs):=by simp[recoverD,MI]
  simp only[hr,hd];exact sO
def CZ (P:Program)(l3:bC)(t6:Tmp)(caps:List AV)(rs:List nY)(R:PV->aJ->Prop)(x:PV)(σ:AS):Prop:=
 x.flat=true/\∃τ,Sub τ σ/\Ll τ/\(τ.bx.map (·.1)).Nodup/\uE P l3 (lA (fun γ=>∃TP,Sub TP γ/\Ll TP/\∃y b',AS.FA ⟨τ.tm,TP.bx⟩ rs=some [.pv y]/\TP.b (.par 0)=some b'/\b'.dC (fun s=>decide (s=.par 0))=true/\R y b')) ⟨(t6,.pv x)::eW 0 caps,τ.bx⟩
theorem zI {s s0:Site}{b c:aJ}(h:List.lookup s [(s0,b)]=some c):s=s0/\c=b:=by
 by_cases e:s=s0
 .subst e;rw[mT]at h;cases h;exact⟨rfl,rfl⟩
 .rw[jC e]at h;cases h
def Kc:bC->bC
 |.seq a _=>a
 |c=>c
def T7:bC->bC
 |.seq _ b=>b
 |c=>c
def YP:bC->LO
 |.region (o::_)=>o
 |_=>default
theorem ZoI {f g:FuncId}{fn gn:Func}{a1 a2 b c2:Code}{id id2:Nat}{o1 o2 o3:Oper}{l1 l2 lb l3:bC}{Qt:LO}{t t6:Tmp}{dc:Call}{cl:List Site}{bS:List AV}{B BL:List (Site×aJ)}{aE:List Site}{d:Nat}{S:AS}{Ow:List (Nat×AV)}{rs:List nY}{R:PV->aJ->Prop}
  (hm : P.follows .mixedOrders = true) (hf : P.funcs[f]? = some fn) (M4 : (fn.name == "runtime.NumGoroutine") = false) (MJ : fn.body = some (.seq a1 (.seq a2 (.seq (.region id #[o1, o2] false) b))))
  (h1:dQ P fn.ntmps a1=some l1) (h2:dQ P fn.ntmps a2=some l2) (hb:dQ P fn.ntmps b=some lb) (C8:kF a1=true) (C7:kF a2=true) (hrb:kF b=true) (hdb:nQ b=true)
  (ho1:qM P fn.ntmps #[o1,o2] true o1=some Qt) (ho2:o2.op=.defer dc) (hdc:dc.callee=.value (.tmp t)) (hda:dc.args=#[]) (G8:o2.guard=none) (wF:o2.dst=none)
  (tU:kV P fn.results.toList=some rs) (hn:bS.length<=fn.ntmps)
  (hg : P.funcs[g]? = some gn) (QL : (gn.name == "runtime.NumGoroutine") = false) (P9 : gn.body = some (.seq (.region id2 #[o3] false) c2)) (nB : ∀ ev w, (execOp ev o3).run P w = .ok .recover w) (hg3 : o3.guard = none) (T2 : o3.dst = some t6) (Ae : t6 < gn.ntmps) (hgr : gn.results = #[])
  (MB:dQ P gn.ntmps c2=some l3) (X6:kF c2=true) (nV:cl.length<=gn.ntmps)
  (hA:uE P (.seq l1 l2) (fun e σ=>e=.normal/\pM P Qt (fun KL=>Sub S KL) σ) ⟨eW 0 bS,B⟩) (hSt:S.t t=some (.fn g [] (cl.map fun s=>.ptr s 0))) (pX:aE.Nodup) (sS:aE.all (fun s=>!s.fP d)=true) (hB:oW S aE 0 aE=some BL)
  (gN:∀s∈cl,aE.contains s=true/\(kA aE s).r4=true) (BZ:aE.head?=some (.par 0))
  (w9:∀t a,Ow.lookup t=some a->∃a0,S.t t=some a0/\a=a0.map (kA aE)/\a0.dC (fun x=>aE.contains x)=true)
  (hD:fM P lb (lA (CZ P l3 t6 (cl.map fun s=>.ptr (kA aE s) 0) rs R .eV)) (CZ P l3 t6 (cl.map fun s=>.ptr (kA aE s) 0) rs R) ⟨Ow,BL⟩):
  cR P f bS B (fun r B'=>∃y b',r=.pv y/\B'=[(.par 0,b')]/\R y b'):=by
 refine⟨⟨fn,_,hf,M4,MJ⟩,fun w m ρ vs Jx mN P6 lG=>?_⟩;refine(callsIn_wide (n:=1)).1 (callsIn_of_wp_marks (F:=FF none) hf MJ trivial ?_ rfl);have hS:Sat fn.ntmps w ⟨m,ρ,[],mN.2.1,true⟩ (cJ ρ w B) ⟨eW 0 bS,B⟩ ρ m { tmps:=vs++Array.replicate (fn.ntmps-vs.size) undef,defers:=[]} w:=by
  refine⟨⟨[],B7,xZ,fun D hD=>by cases hD⟩,by simp;omega,fun t a k=>?_,Jx.bx,Jx.dY,mN.1,Jx.eL,fun s b i k r=>.inr (XD k r),cW.tI _ _,⟨Le.refl _,Jx.free mN.2.2⟩,fun b o v k=>.inl k,fun i=>rfl⟩;obtain⟨_,k1⟩:=Hm bS 0 t a k;rw[Nat.sub_zero]at k1;have aI:t<vs.size:=by rw[P6];exact(bZ.1 k1).1
  exact⟨vs[t],by rw[Array.getElem?_append,if_pos aI,uT aI],lG t _ a (uT aI) k1⟩
 refine wpIn_seq (wpIn_mono (XJ (ro:=none) (fun l e=>by cases e) hm a1 l1 _ (fun _=>C8) h1 hA hS) fun e yQ w1 hq=>?_);cases e with
 |exit id=>obtain⟨τ,oX,m1,q,_⟩:=hq;exact absurd q.1 (by simp)
 |ret=>obtain⟨τ,oX,m1,q,_⟩:=hq;exact absurd q.1 (by simp)
 |goto l=>exact hq.elim
 |panic ch=>exact hq.elim
 |outgrown=>exact hq.elim
 |normal=>
 obtain⟨XX,oX,m1,q1,wI⟩:=hq;refine wpIn_seq (wpIn_mono (XJ (ro:=none) (fun l e=>by cases e) hm a2 l2 _ (fun _=>C7) h2 q1 wI) fun e act2 w2 hq=>?_);cases e with
 |exit id=>obtain⟨τ,oX,m1,q,_⟩:=hq;exact absurd q.1 (by simp)
 |ret=>obtain⟨τ,oX,m1,q,_⟩:=hq;exact absurd q.1 (by simp)
 |goto l=>exact hq.elim
 |panic ch=>exact hq.elim
 |outgrown=>exact hq.elim
 |normal=>
 obtain⟨Q8,OD,m2,⟨_,q2⟩,mV⟩:=hq;refine wpIn_seq (wpIn_region_list ?_);refine ZfJ (ops:=#[o1,o2]) ho1 q2 mV fun qR w3 hq=>?_
 obtain⟨S',ρ3',m3',hSS,Uz⟩:=hq;obtain⟨TO,m3,Q0⟩:=hSS _ _ _ _ _ _ _ _ Uz;have Rk:Region.wanted o2 (yielded #[o1,o2] qR.tmps)=true:=by simp[Region.wanted,G8]
 obtain⟨ds,e1,e2,_⟩:=Q0.sE;have e3:ds=[]:=e2.2 rfl;subst e3;have Ui:qR.defers=[]:=by simpa using e1.nil
 obtain⟨vf,vc,hv,f1,f2,f3,f4⟩:∃vf vc:Array Value,qR.eval (.tmp t)=.func (.func g) vf vc/\vf.size=0/\vc.size=(cl.map fun s=>AV.ptr s 0).length/\(∀(j:Nat) (d:Value) (c:AV),vf[j]?=some d->([]:List AV)[j]?=some c->bO TO m3 d c)/\∀(j:Nat) (d:Value) (c:AV),vc[j]?=some d->(cl.map fun s=>AV.ptr s 0)[j]?=some c->bO TO m3 d c:=by
  have k:=Q0.aV (x:=.tmp t) (y:=.t t) rfl;have e:S.o (.t t)=.fn g [] (cl.map fun s=>.ptr s 0):=by show(S.t t).getD .any=_;rw[hSt];rfl
  rw[e]at k;exact Lw k
 have hvf:vf=#[]:=Array.eq_empty_of_size_eq_zero f1;subst hvf;obtain⟨D,CW⟩:∃D:Deferred,D={ target:=.fn (.func g) vc,args:=#[]}:=⟨_,rfl⟩;have dF:(execOp qR.eval o2).run P w3=.ok (.defer D) w3:=by
  unfold execOp;simp only[ho2];simp[resolve,hdc,hda,hv,Deferred.ofValue,CW]
 unfold wpListIn;rw[if_pos Rk];unfold Oper.wpIn;refine⟨fun _ _=>trivial,?_⟩;have Rx:Oper.semAt (FF none).round qR.eval o2=execOp qR.eval o2:=rfl;rw[Rx,dF,Oper.uponIn_defer,Ui,wF];have Cy:Sat fn.ntmps w ⟨m,ρ,[D],mN.2.1,true⟩ (cJ ρ w B) S TO m3 { qR with defers:=[D]} w3:=⟨⟨[],⟨[],[],rfl,rfl⟩,xZ,fun D hD=>by cases hD⟩,Q0.sz,Q0.tm,Q0.bx,Q0.dY,Q0.mem,Q0.eL,Q0.fL,Q0.keep,Q0.base,Q0.qC,Q0.par⟩;obtain⟨oB,fU,hS5⟩:=Cy.Zx0 pX sS hB w9;have Re:oB (.par 0)=ρ (.par 0):=by
  have gQ:(.par 0)∈aE:=by
   cases aE with
   |nil=>cases BZ
   |cons a r=>simp at BZ;subst BZ;simp
  have hi:kA aE (.par 0)=.par 0:=by
   cases aE with
   |nil=>cases BZ
   |cons a r=>simp at BZ;subst BZ;simp[kA,q9]
  have:=fU (.par 0) (by simpa using gQ)
  rw[hi]at this;rw[this];exact Q0.par 0
 show b.wpIn (FF none) 1 P _ { qR with defers:=[D]} w3;refine wpIn_mono (ZgZ (ro:=none) (fun l e=>by cases e) hm b lb _ (fun _=>hrb) (fun _=>hdb) hb hD hS5) (fun e wT w5 hq=>?_);have key:∀(u u':FrameMode) (rv:Value) (x:PV) (Ny:AS) (TN:Site->Loc) (m5:Mem),((u=.returning/\rv=.nilIface/\u'=.returning)\/∃v,u=.panicking [{ v,recovered:=false }]/\rv=v/\u'=.panicking [{ v,recovered:=true }])->
   CZ P l3 t6 (cl.map fun s=>.ptr (kA aE s) 0) rs R x Ny->Sat fn.ntmps w ⟨m,oB,[D],mN.2.1,true⟩ (cJ ρ w B) Ny TN m5 wT w5->dG m5 rv x->
   LeavesInM (FF none) 1 P fn wT.tmps (lE w m ρ B (fun r B'=>∃y b',r=.pv y/\B'=[(.par 0,b')]/\R y b')) wT.defers u w5:=by
  intro u u' rv x Ny TN m5 hu ⟨qB,τ,kG,lN,HM,hAw⟩ QY hrv;obtain⟨Ih,m6,D9⟩:=kG _ _ _ _ _ _ _ _ QY;obtain⟨ds,e1,e2,_⟩:=D9.sE;have e3:ds=[]:=e2.2 rfl;subst e3;have N3:wT.defers=[D]:=by
   obtain⟨d1,d2,k1,k2⟩:=e1
   have:=List.append_eq_nil_iff.1 k1.symm
   rw[this.1,this.2]at k2;exact k2
  rw[N3];have jK:settle u'=.returning:=by rcases hu with⟨_,_,rfl⟩|⟨v,_,_,rfl⟩<;>rfl
  have Aj:u≠.run:=by rcases hu with⟨rfl,_,_⟩|⟨v,rfl,_,_⟩<;>simp
  have Ua : ¬ gn.name = "runtime.NumGoroutine" := by simpa using QL
  refine⟨Aj,.inr ⟨fun _=>fG 1,.func g,vc,g,vc,by rw[CW],?_,fun _ _=>trivial,?_⟩⟩
  .rw[CW];simp[invoke,callFunc,hg,Ua,P9]
  refine(Dv (R:=fun w'=>LeavesInM (FF none) 1 P fn wT.tmps (lE w m ρ B (fun r B'=>∃y b',r=.pv y/\B'=[(.par 0,b')]/\R y b')) [] .returning w') (ρ:=Ih) (m:=m6) (B:=τ.bx) (bS:=cl.map fun s=>.ptr (kA aE s) 0) (ra:=.pv x) hm hg P9 nB hg3 T2 Ae hgr MB X6 hu ⟨D9.bx,D9.dY,D9.eL⟩ ⟨D9.mem,D9.uB⟩ HM (by rw[f2];simp) (by simpa using nV) (fun j v c k1 k2=>?_) (.pv _ _ (hrv.flat qB)) hAw ?_).mono ?_
  .rw[bW]at k2;obtain⟨s,k3,rfl⟩:=dZ.1 k2;have k4:=f4 j v (.ptr s 0) k1 (by rw[bW,k3];rfl);obtain⟨c1,c2⟩:=gN s (dK k3);have e6:Ih (kA aE s)=TO s:=(Zk7 (ρ:=oB) (fun i=>D9.par i) c2).trans (fU s c1);rw[k4.DP,<-e6];exact .ptr _ _
  .intro γ bV m' bE w' ⟨TP,PH,Sm,y,b',eM,nL,Cm,hRy⟩ Ux;obtain⟨Ig,m7,zP⟩:=PH _ _ _ _ _ _ _ _ Ux;have LL:∀k,k∈cJ Ih w5 τ.bx->w.heap.size<=k\/k∈cJ ρ w B:=fun k hk=>by
    obtain⟨p,hp,e⟩:=SV.1 hk;exact D9.fL p.1 p.2 k (Zk0 HM hp) e
   have fH:=D9.keep.size;have old:∀k,w5.heap.size<=k\/k∈cJ Ih w5 τ.bx->w.heap.size<=k\/k∈cJ ρ w B:=fun k hk=>by
    rcases hk with hk|hk
    .exact .inl (lC fH hk)
    .exact LL k hk
   have X8:cW (cJ ρ w B) w w':=⟨zP.keep.os.trans D9.keep.os,zP.keep.tape.trans D9.keep.tape,zP.keep.output.trans D9.keep.output,lC fH zP.keep.size,fun k hk hn=>(zP.keep.block k (Nat.lt_of_lt_of_le hk fH) fun hD=>by
    rcases LL k hD with h'|h'
    .omega
    .exact hn h').trans (D9.keep.block k hk hn)⟩
   have Bu:∀b o v,m7 b o=some v->m b o=some v\/w.heap.size<=b\/b∈cJ ρ w B:=fun b o v hv=>by
    rcases zP.qC b o v hv with h'|h'
    .exact D9.qC b o v h'
    .exact .inr (old b h')
   have ML:Fh m m7 (cJ ρ w B):=D9.base.trans zP.base.1;have hSF:Sat fn.ntmps w ⟨m,oB,[],mN.2.1,true⟩ (cJ ρ w B) ⟨τ.tm,TP.bx⟩ Ig m7 { wT with defers:=[]} w':=by
    refine⟨⟨[],B7,xZ,fun D hD=>by cases hD⟩,D9.sz,fun t a k=>?_,zP.bx,zP.dY,zP.mem,zP.eL,fun s b k h1 h2=>old k (zP.fL s b k h1 h2),X8,ML,Bu,fun i=>(zP.par i).trans (D9.par i)⟩;obtain⟨v,k1,k2⟩:=D9.tm t a k
    have:=(k2.more zP.base.1).map (g:=_root_.id) (bV:=Ig) (fun s hs=>Zk7 (fun i=>zP.par i) hs) (lN.1 t a k)
    rw[Fs]at this;exact⟨v,k1,this⟩
   obtain⟨YE,r1,r2,r3⟩:=Mk fn.results.toList rs [.pv y] tU eM hSF;obtain⟨v,rfl⟩:∃v,YE=[v]:=by
    match YE,r2 with
    |[v],_=>exact⟨v,rfl⟩
   have BU:=r3 0 v _ rfl rfl;have Vo:ρ (.par 0)=Ig (.par 0):=((zP.par 0).trans ((D9.par 0).trans Re)).symm;refine⟨v,?_,v,.pv y,[(.par 0,b')],ρ,m7,rfl,⟨y,b',rfl,rfl,hRy⟩,⟨fun s c hs=>?_,fun s s' c c' _ hs X5 _ _=>?_,fun s c k hs hk=>?_⟩,ML.1,zP.mem,fun i=>rfl,fun s c k hs hk=>?_,Bu,?_,X8⟩
   .show(do let vs <-fn.results.mapM (vF wT.tmps);pure (if h:vs.size=1 then vs[0]else .tuple vs):Sem Value).run P w'=_;rw[Sem.run_bind,Array.mapM_eq_mapM_toList,Sem.run_map,r1];rfl
   .obtain⟨rfl,rfl⟩:=zI hs
    have:=(zP.bx _ _ nL).iR (bV:=ρ) (q:=fun s=>decide (s=.par 0)) (g:=_root_.id) (fun s hs=>by
     have e:s=.par 0:=by simpa using hs
     rw[e];exact Vo) (by simp) Cm
    rw[aJ.Wx]at this;exact this
   .rw[(zI hs).1,(zI X5).1]
   .obtain⟨rfl,rfl⟩:=zI hs;exact zP.eL _ _ k nL ((Q5 Vo).1 hk)
   .obtain⟨rfl,rfl⟩:=zI hs;exact old k (zP.fL _ _ k nL ((Q5 Vo).1 hk))
   .exact .pv _ _ (bO.nG (ρ:=Ig) BU)
  .rintro e u1 w' ⟨⟨v,rfl⟩,rfl,hL⟩;show LeavesInM (FF none) 1 P fn wT.tmps _ [] (settle u1) w';rw[jK];exact hL
 have ok:F8 fn.ntmps w ⟨m,oB,[D],mN.2.1,true⟩ (cJ ρ w B) (CZ P l3 t6 (cl.map fun s=>.ptr (kA aE s) 0) rs R .eV) wT w5->LeavesInM (FF none) 1 P fn wT.tmps (lE w m ρ B (fun r B'=>∃y b',r=.pv y/\B'=[(.par 0,b')]/\R y b')) wT.defers .returning w5:=fun⟨τ,TN,m5,h1,h2⟩=>key .returning .returning .nilIface .eV τ TN m5 (.inl ⟨rfl,rfl,rfl⟩) h1 h2 .eV
 cases e with
 |normal=>exact ok hq
 |ret=>exact ok hq
 |exit id=>obtain⟨τ,oX,m1,q,_⟩:=hq;exact q.elim
 |goto l=>exact hq.elim
 |outgrown=>exact hq.elim
 |panic ch=>
  obtain⟨v,x,τ,TN,m5,bE,rfl,_,Ut,h1,h2,h3⟩:=hq;obtain rfl:=Ut rfl;exact key _ _ v x τ TN m5 (.inr ⟨v,rfl,rfl,rfl⟩) h1 h2 h3.nG
end
section
attribute [local simp] AS.exp jT aJ.iR AV.map AV.iM rE dO Site.uJ aJ.dC AV.dC AV.gW aU cO AS.lT eZ gG bX oW kA mQ gI q9
attribute [local simp] aJ.bG Site.fP
def aO (a b c d e:PV):aJ:=.cells [.pv a,.pv b,.pv c,.pv d,.pv e]
def nxS (a b c d e:PV)(x:ByteArray):AS:=⟨[(10,.fn 100 [] [.ptr (.loc 5 0) 0,.ptr (.loc 2 0) 0,.ptr (.loc 4 0) 0]),(5,.ptr (.loc 5 0) 0),(4,.ptr (.loc 4 0) 0),(2,.ptr (.loc 2 0) 0),(1,.pv (.str x))],
 [(.loc 5 0,aO a b c d e),(.loc 4 0,.cells [.pv (.i 0)]),(.loc 2 0,.cells [.ptr (.par 0) 0]),(.par 0,aO a b c d e)]⟩
def nxE (R:PV->aJ->Prop):PV->AS->Prop:=CZ prog (T7 L100.code) 6 [.ptr (.par 1) 0,.ptr (.par 2) 0,.ptr (.par 3) 0] [.cell 4 false 1] R
theorem ZkP (a b c d e:PV)(x:ByteArray)(R:PV->aJ->Prop)
  (hD:fM prog (T7 (T7 (T7 L55.code))) (lA (nxE R .eV)) (nxE R) ⟨[(1,.pv (.str x)),(2,.ptr (.par 2) 0),(4,.ptr (.par 3) 0)],[(.par 0,aO a b c d e),(.par 1,aO a b c d e),(.par 2,.cells [.ptr (.par 0) 0]),(.par 3,.cells [.pv (.i 0)])]⟩):
  cR prog 55 [.ptr (.par 0) 0,.pv (.str x)] [(.par 0,aO a b c d e)] (fun r B'=>∃y b',r=.pv y/\B'=[(.par 0,b')]/\R y b'):=by
 refine ZoI (g:=100) (t:=10) (t6:=6) (cl:=[.loc 5 0,.loc 2 0,.loc 4 0]) (aE:=[.par 0,.loc 5 0,.loc 2 0,.loc 4 0]) (d:=99)
  (S:=nxS a b c d e x) (BL:=[(.par 0,aO a b c d e),(.par 1,aO a b c d e),(.par 2,.cells [.ptr (.par 0) 0]),(.par 3,.cells [.pv (.i 0)])])
  (l1:=Kc L55.code) (l2:=Kc (T7 L55.code)) (lb:=T7 (T7 (T7 L55.code))) (Qt:=YP (Kc (T7 (T7 L55.code)))) (l3:=T7 L100.code)
  (Ow:=[(1,.pv (.str x)),(2,.ptr (.par 2) 0),(4,.ptr (.par 3) 0)]) (rs:=[.cell 4 false 1])
  mixed func55 (by kernel_rfl) rfl (by kernel_rfl) (by kernel_rfl) (by kernel_rfl) (by kernel_rfl) (by kernel_rfl) (by kernel_rfl) (by kernel_rfl) (by kernel_rfl) rfl rfl rfl rfl rfl (by kernel_rfl) (tH rfl)
  func100 (by kernel_rfl) rfl ?_ rfl rfl (tH rfl) rfl (by kernel_rfl) (by kernel_rfl) (tH rfl) ?_ ?_ (by simp) rfl ?_ ?_ rfl ?_ ?_
 .intro ev w;rfl
 .refine I7 ?_;simp[L55,Kc,T7,aO,hold];refine Lh ?_;simp[YP];exact Sub.mk (by simp) (by simp[aO])
 .rfl
 .rfl
 .intro s hs;simp at hs;rcases hs with rfl|rfl|rfl<;>exact⟨rfl,rfl⟩
 .intro t v h;by_cases e1:t=1
  .subst e1;cases h;exact⟨_,rfl,rfl,rfl⟩
  by_cases e2:t=2
  .subst e2;cases h;exact⟨_,rfl,rfl,rfl⟩
  by_cases e4:t=4
  .subst e4;cases h;exact⟨_,rfl,rfl,rfl⟩
  rw[jC e1,jC e2,jC e4]at h;cases h
 .exact hD
def OL (B:List (Site×aJ)):AS:=⟨[(4,.ptr (.par 3) 0)],B⟩
def xX (w:aJ)(a b c d x:PV)(e:Int):List (Site×aJ):=[(.par 0,w),(.par 1,aO a b c d x),(.par 2,.cells [.ptr (.par 0) 0]),(.par 3,.cells [.pv (.i e)])]
theorem ZC {e:Int}{a b c d x:PV}{w:aJ}(hw:w.dC Site.r4=true)(s:Site)(v:aJ)(h:List.lookup s (xX w a b c d x e)=some v):s.r4=true/\v.dC Site.r4=true:=by
 unfold xX at h;by_cases e0:s=.par 0
 .subst e0;rw[mT]at h;cases h;exact⟨rfl,hw⟩
 rw[jC e0]at h;by_cases e1:s=.par 1
 .subst e1;rw[mT]at h;cases h;exact⟨rfl,rfl⟩
 rw[jC e1]at h;by_cases e2:s=.par 2
 .subst e2;rw[mT]at h;cases h;exact⟨rfl,rfl⟩
 rw[jC e2]at h;obtain⟨rfl,rfl⟩:=zI h;exact⟨rfl,rfl⟩
theorem ZA {e:Int}{a b c d x:PV}{w:aJ}(hw:w.dC Site.r4=true):Ll (OL (xX w a b c d x e)):=by
 refine⟨fun t v h=>?_,fun s v h=>ZC hw s v h⟩;have h':List.lookup t [(4,AV.ptr (.par 3) 0)]=some v:=h;by_cases e4:t=4
 .subst e4;cases h';rfl
 .rw[jC e4]at h';cases h'
theorem ZB {e:Int}{a b c d x:PV}{w:aJ}(hw:w.dC Site.r4=true):Ll ⟨[],xX w a b c d x e⟩:=⟨fun t v h=>(by cases h),fun s v h=>ZC hw s v h⟩
theorem Ztc {a b c d e a' b' c' d' e':PV}{x:ByteArray}(hl:cR prog 101 [.ptr (.par 0) 0,.pv (.str x)] [(.par 0,aO a b c d e)] (fun r B=>r=.pv (.bL [])/\B=[(.par 0,aO a' b' c' d' e')])):
  cR prog 55 [.ptr (.par 0) 0,.pv (.str x)] [(.par 0,aO a b c d e)] (fun r B=>r=.pv (.i 0)/\B=[(.par 0,aO a' b' c' d' e')]):=by
 refine(ZkP a b c d e x (fun y w=>y=.i 0/\w=aO a' b' c' d' e') ?_).mono (fun r B ⟨y,w,h1,h2,h3,h4⟩=>⟨by rw[h1,h3],by rw[h2,h4]⟩);refine FR ?_;simp[L55,T7];refine xM 13 [.par 0] rfl rfl rfl rfl rfl rfl hl ?_;rintro r B ⟨rfl,rfl⟩;simp[aO];refine⟨rfl,OL (xX (aO a' b' c' d' e') a b c d e 0),Sub.mk (by simp) (by simp[xX,aO]),ZA rfl,by simp[OL,xX],I7 ?_⟩;simp[L100,T7,OL,xX,aO];refine⟨⟨[],xX (aO a' b' c' d' e') a b c d e 0⟩,Sub.mk (by simp) (by simp[xX,aO]),ZB rfl,?_⟩;simp[xX,aO]
theorem Ztd {a b c d e:PV}{x:ByteArray}{n:Int}(hl:s4 prog 101 [.ptr (.par 0) 0,.pv (.str x)] [(.par 0,aO a b c d e)] (fun y B=>y=yM n/\∃a' b' c' d' e',B=[(.par 0,aO a' b' c' d' e')])):
  cR prog 55 [.ptr (.par 0) 0,.pv (.str x)] [(.par 0,aO a b c d e)] (fun r B=>r=.pv (.i n)/\B=[(.par 0,aO a b c d e)]):=by
 refine(ZkP a b c d e x (fun y w=>y=.i n/\w=aO a b c d e) ?_).mono (fun r B ⟨y,w,h1,h2,h3,h4⟩=>⟨by rw[h1,h3],by rw[h2,h4]⟩);show fM _ (.seq (.region [_,_,_]) _) _ _ _;refine wX [_,_] ?_;simp;refine⟨rfl,.inl ⟨_,_,rfl,?_⟩⟩;refine ZpS 13 [.par 0] rfl rfl rfl rfl rfl rfl hl ?_;rintro y B ⟨rfl,a',b',c',d',e',rfl⟩;simp[aO];refine⟨rfl,OL (xX (aO a' b' c' d' e') a b c d e 0),Sub.mk (by simp) (by simp[xX,aO]),ZA rfl,by simp[OL,xX],I7 ?_⟩;simp[L100,T7,OL,xX,aO,yM];refine JQ ⟨[(15,.pv (.i n)),(2,.ptr (.par 3) 0)],xX (aO a b c d e) a b c d e 0⟩ ?_ ?_
 .simp[gO,gY];exact Sub.mk (by simp) (by simp[xX,aO])
 .simp[gO,gY,xX,aO];refine⟨⟨[],xX (aO a b c d e) a b c d e n⟩,Sub.mk (by simp) (by simp[xX,aO]),ZB rfl,?_⟩;simp[xX,aO]
theorem A4 (a b:ByteArray):(a.toList==b.toList)=decide (a=b):=by
 rw[qS,ByteArray.toList_eq,ByteArray.toList_eq];simp only[beq_iff_eq,decide_eq_true_eq];exact⟨fun h=>by
  obtain⟨a⟩:=a;obtain⟨b⟩:=b
  have:a=b:=yU.1 h
  rw[this],fun h=>by rw[h]⟩
def lK (s:ByteArray):Option Int:=match Lib.atoiAll s.data.toList with
 |.ok v=>if vW v=s/\(trimB s ⟨#[45]⟩).size<=9 then some v else none
 |_=>none
theorem Zp0 (s:ByteArray)(hs:s.size<=1000000)(v:Int)(h:lK s=some v):aD prog 149 [.str s] (.i v):=by
 refine cS L149 ?_;have ha:=ZrY s hs;unfold lK at h;unfold Z8 at ha;cases p5:Lib.atoiAll s.data.toList with
 |ok u=>
  rw[p5]at h ha;dsimp only at h ha;split at h
  .rename_i hc;cases h;have hb:=Lib.atoiAll_bounds p5;have hi:=Xx v ⟨by omega,by omega⟩;have ht:=Zrx s ⟨#[45]⟩;have hle:((trimB s ⟨#[45]⟩).size:Int)<=9:=by omega
   have Bb:=hc.2;simp[L149];refine cG [.str s] ha ?_;simp;refine cG [.i v] hi ?_;rw[hc.1];simp;refine cG [.str s,.str ⟨#[45]⟩] ht ?_;simp[hle];refine cG [.bool true,.i 4] (gM 4) ?_;simp
  .cases h
 |_=>rw[p5]at h;cases h
theorem Zp2 (s:ByteArray)(hs:s.size<=1000000)(h:lK s=none):s4 prog 149 [.pv (.str s)] [] (fun x B=>x=yM 4/\B=[]):=by
 refine(ZcI (R:=fun _ _=>False) mixed L149_ok (tH rfl) ?_).B3 (fun _ _ h=>h);have ha:=ZrY s hs;unfold lK at h;unfold Z8 at ha;generalize hQ:J4 (fun x B=>x=yM 4/\B=[])=Qp;have oN:∀τ:AS,Qp (yM 4) τ:=fun τ=>by rw[<-hQ];exact⟨[],rfl,(fun s hs=>by cases hs),rfl,rfl⟩
 show fM _ (.seq _ (.seq _ (.seq (.region [_,_,_,_,_,_,_,_,_,_,_,_,_,_,_]) _))) _ _ _;refine mH ?_;simp[hold];refine mH ?_;simp[hold];refine gF (k:=0) (fs:=[]) (xs:=[.str s]) (cs:=[]) rfl rfl ha (by split<;>rfl) ?_;cases p5:Lib.atoiAll s.data.toList with
 |ok u=>
  rw[p5]at h;dsimp only at h;have hb:=Lib.atoiAll_bounds p5;have hi:=Xx u ⟨by omega,by omega⟩;have ht:=Zrx s ⟨#[45]⟩;simp;refine wX [_,_,_,_,_,_,_,_,_,_,_,_,_,_] ?_;simp;refine cG [.i u] hi ?_;by_cases h1:vW u=s
  .have h2:¬(trimB s ⟨#[45]⟩).size<=9:=fun h2=>by rw[if_pos ⟨h1,h2⟩]at h;cases h
   rw[h1];simp;refine cG [.str s,.str ⟨#[45]⟩] ht ?_;have h3:¬((trimB s ⟨#[45]⟩).size:Int)<=9:=by omega
   simp[h3,hold];exact TF (d:=99) [] (xs:=[.bool false,.i 4]) (cs:=[]) rfl rfl (zV 4) rfl (fun x hx=>by rw[hx.1];exact oN _) (fun x B hx=>hx.2)
  .simp[A4,h1,hold];exact TF (d:=99) [] (xs:=[.bool false,.i 4]) (cs:=[]) rfl rfl (zV 4) rfl (fun x hx=>by rw[hx.1];exact oN _) (fun x B hx=>hx.2)
 |_=>
  simp[hold];refine wX [_,_,_,_,_,_,_,_,_,_,_,_,_,_] ?_;simp;exact TF (d:=99) [] (xs:=[.bool false,.i 4]) (cs:=[]) rfl rfl (zV 4) rfl (fun x hx=>by rw[hx.1];exact oN _) (fun x B hx=>hx.2)
section
attribute [local simp] oF aY AS.cD AV.cD AV.aY aJ.cD AS.tidy AS.b8
def EX (e:TypeId)(n:Nat)(l:List PV)(r:AV)(B:List (Site×aJ)):Prop:=(l=[]/\r=.pv (.emp (some true))/\B=[])\/(r=.vec (.ret 0) n 0 l.length/\B=[(.ret 0,.arr e n l)])
def UH (e n b:Nat):aX:=⟨8,(.seq (.region [⟨(some 2),none,(.dV (.c (.emp (some true)))),true⟩]) (.seq (.seq (.region [⟨(some 3),none,(.dV (.t 0)),true⟩,⟨(some 4),none,(.yA .sl false (.t 3)),true⟩]) (.cond (.t 4) (.seq (.region [⟨(some 2),none,(.dV (.c (.emp (some true)))),true⟩]) .ret) .skip)) (.seq (.region [⟨(some 5),none,(.aQ e n []),true⟩,⟨(some 6),none,(.dV (.t 0)),true⟩,⟨(some 7),none,(.jA e n b (.t 5) (.t 6)),true⟩,⟨(some 2),none,(.dV (.t 7)),true⟩]) .ret))),[(.tm 2)]⟩
theorem Gd {f:FuncId}{e n:Nat}(b:Nat)(l:List PV)(hl:l.length<=1000000)(hL:fT prog f=some (UH e n b):=by kernel_rfl)(hb:b<=1000:=by decide):cR prog f [.pv (.aF false n l)] [] (EX e n l):=by
 refine ZaQ mixed hL (tH rfl) ?_;cases l with
 |nil=>
  simp[UH,dH,s7,aP,bY,B4,hb];exact⟨⟨[],by simp[EX]⟩,⟨[.loc 7 0],by simp[EX]⟩⟩
 |cons a l=>
  have h1:l.length+1<=1000000:=by simpa using hl
  have h2:l.length<=999999:=by omega
  simp[UH,dH,aP,h2,hb];exact⟨[.loc 7 0],by simp[EX]⟩
theorem Zgh (l:List PV)(hl:l.length<=1000000):cR prog 69 [.pv (.aF false 1 l)] [] (EX 3 1 l):=Gd 8 l hl
theorem ZgY (l:List PV)(hl:l.length<=1000000):cR prog 68 [.pv (.aF false 7 l)] [] (EX 88 7 l):=Gd 56 l hl
theorem ZgX (l:List PV)(hl:l.length<=1000000):cR prog 70 [.pv (.aF false 4 l)] [] (EX 89 4 l):=Gd 32 l hl
theorem Zmd (l:List PV)(hl:l.length<=1000000):cR prog 71 [.pv (.aF false 4 l)] [] (EX 90 4 l):=Gd 32 l hl
theorem Zme (l:List PV)(hl:l.length<=1000000):cR prog 285 [.pv (.aF false 3 l)] [] (EX 91 3 l):=Gd 40 l hl
end
end
section
section
variable {P:Program}{σ:AS}{K:AV->AS->Prop}
theorem O7 (fz:List Site){f:bA}{args:List bA}{d:Nat}{g:FuncId}{fs xs cs:List PV}{R:AV->List (Site×aJ)->Prop}(h1:(aM fz σ).o f=.pv (.fn g fs cs))(h2:(aM fz σ).tO args=some xs)
  (hc:cR P g ((fs++xs++cs).map .pv) [] R) (hK:∀r B,R r B->oE r B/\K (r.map (iN d)) (((aM fz σ).bG d).lT (nO d B))):yV P f args d K σ:=.inr ⟨fz,g,fs,xs,cs,h1,h2,hc.mono hK⟩
end
theorem DU {P:Program}{t r:LT}{K:AS->Prop}{σ:AS}(J:AS->Prop)(h1:gK P t (fun zA=>∃τ,Sub τ zA/\J τ) σ)(h2:∀τ,J τ->gK P r K τ):gK P (.seq t r) K σ:=⟨J,h1,h2⟩
attribute [local simp] AS.exp jT aJ.iR AV.map AV.iM rE dO Site.uJ aJ.dC AV.dC AV.gW aU cO AS.lT eZ gG bX oW kA mQ gI q9
attribute [local simp] aJ.bG Site.fP
attribute [local simp] oF aY AS.cD AV.cD AV.aY aJ.cD AS.tidy AS.b8 aM oE nO iN
theorem Zh1 {l:List PV}{x:PV}:List.take (l.length+1) (l++[x])=l++[x]:=fO (by simp)
theorem Zma (l:List PV)(x:Int)(hl:l.length<=900000):aD prog 35 [.aF false 1 l,.i x] (.aF false 1 (l++[.i x])):=by
 have h1:l.length+1<=1000000:=by omega
 refine N6 [.loc 9 0] L35 ?_;intro R hR;simp[L35];refine xM 6 [] rfl rfl rfl rfl rfl rfl (Zgh l (by omega)) ?_;rintro r B (⟨rfl,rfl,rfl⟩|⟨rfl,rfl⟩)
 .simp[<-hR,aP]
 .simp[<-hR,aP,h1,Zh1]
theorem Zkc:∀l:List PV,eA (l.map AV.pv)=some l
 |[]=>rfl
 |x::r=>by simp only[iL,eA,Zkc r]
def lWi (e n b:Nat)(fc:FuncId):aX:=⟨10,(.seq (.region [⟨(some 3),none,(.box n (.t 1)),true⟩,⟨(some 4),none,(.dV (.c (.emp (some true)))),true⟩]) (.seq (.jG (.op ⟨(some 5),none,(.dV (.t 0)),false⟩ (.op ⟨(some 7),none,(.load true n (.t 3)),false⟩ (.seq (.alt ⟨(some 6),none,(.call (.c (.fn fc [] [])) [(.t 5)]),false⟩ (.alt ⟨(some 8),none,(.aQ e n [(.t 7)]),true⟩ .done .no) (.alt ⟨(some 8),none,(.aQ e n [(.t 7)]),true⟩ (.alt ⟨(some 6),none,(.call (.c (.fn fc [] [])) [(.t 5)]),false⟩ .done .no) .no)) (.alt ⟨(some 9),none,(.app e n b (.t 6) (.t 8)),true⟩ (.op ⟨(some 4),none,(.dV (.t 9)),true⟩ .done) .no))))) .ret)),[(.tm 4)]⟩
theorem Yv {f fc:FuncId}{e n:Nat}(b:Nat){l cs:List PV}(hl:l.length<=900000)(gN:cR prog fc [.pv (.aF false n l)] [] (EX e n l))(hn:cs.length=n)(hL:fT prog f=some (lWi e n b fc):=by kernel_rfl)(hb:b<=1000:=by decide)(h0:0<n:=by decide):aD prog f [.aF false n l,.agg cs] (.aF false n (l++[.agg cs])):=by
 have h1:l.length+1<=1000000:=by omega
 have h2:l.length<=999999:=by omega
 have Ac:=Zkc cs;have jS:(cs.map AV.pv).take n=cs.map AV.pv:=fO (by simp;omega);refine Nq [.loc 9 0] mixed hL (tH rfl) ?_;generalize hR:(fun(r:AV) (B:List (Site×aJ))=>r=.pv (.aF false n (l++[.agg cs]))/\B=[])=R;simp[lWi,aP,hn,Ac,jS,s5];refine DU (fun τ=>(l=[]/\τ=⟨[(6,.pv (.emp (some true))),(8,.vec (.loc 8 0) n 0 1)],[(.loc 8 0,.arr e n [.agg cs])]⟩)\/τ=⟨[(6,.vec (.loc 6 0) n 0 l.length),(8,.vec (.loc 8 0) n 0 1)],[(.loc 6 0,.arr e n l),(.loc 8 0,.arr e n [.agg cs])]⟩) ?_ ?_
 .simp only[gO];refine⟨?_,?_⟩
  .simp;refine O7 [] (fs:=[]) (xs:=[.aF false n l]) (cs:=[]) rfl rfl gN ?_;rintro r B (⟨rfl,rfl,rfl⟩|⟨rfl,rfl⟩)
   .simp[gO,gY,hn];exact⟨_,Sub.mk (by simp) (by simp),.inl rfl⟩
   .simp[gO,gY,hn,Ac,jS,s5];exact⟨_,Sub.mk (by simp) (by simp),.inr rfl⟩
  .refine⟨?_,trivial⟩;simp[gO,gY,hn];refine O7 [] (fs:=[]) (xs:=[.aF false n l]) (cs:=[]) rfl rfl gN ?_;rintro r B (⟨rfl,rfl,rfl⟩|⟨rfl,rfl⟩)
   .simp;exact⟨_,Sub.mk (by simp) (by simp),.inl rfl⟩
   .simp;exact⟨_,Sub.mk (by simp) (by simp),.inr rfl⟩
 .rintro τ (⟨rfl,rfl⟩|rfl)
  .simp[gO,gY,<-hR,aP,hb,h0]
  .simp[gO,gY,<-hR,aP,h1,hb,Zh1,h0]
theorem ZoL (l:List PV)(a b c d e f g:Int)(hl:l.length<=900000):aD prog 229 [.aF false 7 l,.agg [.i a,.i b,.i c,.i d,.i e,.i f,.i g]] (.aF false 7 (l++[.agg [.i a,.i b,.i c,.i d,.i e,.i f,.i g]])):=Yv 56 hl (ZgY l (by omega)) rfl
theorem ZoJ (l:List PV)(a b c d:Int)(hl:l.length<=900000):aD prog 238 [.aF false 4 l,.agg [.i a,.i b,.i c,.i d]] (.aF false 4 (l++[.agg [.i a,.i b,.i c,.i d]])):=Yv 32 hl (Zmd l (by omega)) rfl
theorem ZoK (l:List PV)(a b:Int)(o:List PV)(x:PV)(hx:x=.aF false 1 o)(hl:l.length<=900000):aD prog 239 [.aF false 3 l,.agg [.i a,.i b,x]] (.aF false 3 (l++[.agg [.i a,.i b,x]])):=Yv 40 hl (Zme l (by omega)) rfl
end
section
attribute [local simp] AS.exp jT aJ.iR AV.map AV.iM rE dO Site.uJ aJ.dC AV.dC AV.gW aU cO AS.lT eZ gG bX oW kA mQ gI q9
attribute [local simp] aJ.bG Site.fP
def jY:ByteArray:=⟨#[99,101,114,116]⟩
def pE:ByteArray:=⟨#[98,97,100]⟩
def pD:ByteArray:=⟨#[108,111,116]⟩
def jW:ByteArray:=⟨#[116,101,115,116]⟩
def jX:ByteArray:=⟨#[112,97,115,115]⟩
def pC:ByteArray:=⟨#[114,117,110]⟩
def U3 (k:Int)(f:FuncId):PV:=.agg [.i k,.fn f [] []]
def nN:List (PV×PV):=[(.str jY,U3 7 187),(.str pE,U3 1 188),(.str pD,U3 3 189),(.str jW,U3 4 190),(.str jX,U3 1 191),(.str pC,U3 3 192)]
theorem Zr2:cR prog 147 [] [] (fun r B=>r=.mp (.ret 0)/\B=[(.ret 0,.map nN)]):=by
 refine cB [.loc 1 0] L147 ?_;simp[L147,zZ,mK];rfl
def gT (s:ByteArray):Option (Nat×FuncId):=if s=jY then some (7,187)else if s=pE then some (1,188)else if s=pD then some (3,189)else if s=jW then some (4,190)else if s=jX then some (1,191)else if s=pC then some (3,192)else none
theorem Zr6 (s:ByteArray):eX (.str s) nN=(gT s).map fun p=>U3 p.1 p.2:=by
 unfold gT;by_cases h0:s=jY
 .have d0:decide (s=jY)=true:=decide_eq_true h0;simp only[nN,eX,gR,lP,wK,PV.cells,A4,Bool.and_true,d0,if_pos h0];rfl
 have d0:decide (s=jY)=false:=decide_eq_false h0;by_cases h1:s=pE
 .have d1:decide (s=pE)=true:=decide_eq_true h1;simp only[nN,eX,gR,lP,wK,PV.cells,A4,Bool.and_true,d0,d1,if_neg h0,if_pos h1];rfl
 have d1:decide (s=pE)=false:=decide_eq_false h1;by_cases h2:s=pD
 .have d2:decide (s=pD)=true:=decide_eq_true h2;simp only[nN,eX,gR,lP,wK,PV.cells,A4,Bool.and_true,d0,d1,d2,if_neg h0,if_neg h1,if_pos h2];rfl
 have d2:decide (s=pD)=false:=decide_eq_false h2;by_cases h3:s=jW
 .have d3:decide (s=jW)=true:=decide_eq_true h3;simp only[nN,eX,gR,lP,wK,PV.cells,A4,Bool.and_true,d0,d1,d2,d3,if_neg h0,if_neg h1,if_neg h2,if_pos h3];rfl
 have d3:decide (s=jW)=false:=decide_eq_false h3;by_cases h4:s=jX
 .have d4:decide (s=jX)=true:=decide_eq_true h4;simp only[nN,eX,gR,lP,wK,PV.cells,A4,Bool.and_true,d0,d1,d2,d3,d4,if_neg h0,if_neg h1,if_neg h2,if_neg h3,if_pos h4];rfl
 have d4:decide (s=jX)=false:=decide_eq_false h4;by_cases h5:s=pC
 .have d5:decide (s=pC)=true:=decide_eq_true h5;simp only[nN,eX,gR,lP,wK,PV.cells,A4,Bool.and_true,d0,d1,d2,d3,d4,d5,if_neg h0,if_neg h1,if_neg h2,if_neg h3,if_neg h4,if_pos h5];rfl
 have d5:decide (s=pC)=false:=decide_eq_false h5;simp only[nN,eX,gR,lP,wK,PV.cells,A4,Bool.and_true,d0,d1,d2,d3,d4,d5,if_neg h0,if_neg h1,if_neg h2,if_neg h3,if_neg h4,if_neg h5];rfl
section
attribute [local simp] aM oE nO iN
def blank:ByteArray:=⟨#[32]⟩
theorem Ky (s:ByteArray):(xP s blank).length=Lib.countB s blank+1:=Lib.splitB_all blank (by decide) 0 _ s rfl
theorem Zry (s:ByteArray):Lib.countB s blank<=s.size:=Lib.countB_le blank (by decide) _ s (fG _)
def mL:List ByteArray->Option (List Int)
 |[]=>some []
 |x::r=>match lK x with
  |some n=>(mL r).map (n::·)
  |none=>none
theorem Mw {x:ByteArray}{r:List ByteArray}:mL (x::r)=match lK x with
  |some n=>(mL r).map (n::·)
  |none=>none:=rfl
def O6 (s:ByteArray):Option (FuncId×List Int):=match xP s blank with
 |[]=>none
 |l0::r=>match gT l0 with
  |some (k,g)=>if r.length=k then(mL r).map fun n=>(g,n)else none
  |none=>none
def xW (Q:PV->PV->PV->PV->PV->Prop)(r:AV)(B:List (Site×aJ)):Prop:=r=.pv (.bL [])/\∃a b c d e,B=[(.par 0,aO a b c d e)]/\Q a b c d e
def uR (E:Int->Prop)(x:PV)(B:List (Site×aJ)):Prop:=∃n,x=yM n/\E n/\∃a b c d e,B=[(.par 0,aO a b c d e)]
theorem Zen (sep:ByteArray):∀(k:Nat) (s x:ByteArray),x∈Lib.splitB sep 0 k s->x.size<=s.size
 |0,s,x,h=>by
  rw[Lib.splitB_zero]at h;cases rY.1 h;exact fG _
 |k+1,s,x,h=>by
  unfold Lib.splitB at h;split at h
  .cases rY.1 h;exact fG _
  .rcases jN.1 h with rfl|h
   .rw[ByteArray.size_extract];omega
   .have:=Zen sep k _ x h
    rw[ByteArray.size_extract]at this;omega
theorem Zew {x:ByteArray}{v:Int}(hx:lK x=some v):∀{r:List ByteArray} {l:List Int},mL r=some l->mL (r++[x])=some (l++[v])
 |[],l,h=>by cases h;simp[mL,hx]
 |y::r,l,h=>by
  rw[Mw]at h;cases hy:lK y with
  |none=>rw[hy]at h;cases h
  |some n=>
   rw[hy]at h;obtain⟨l',h1,rfl⟩:=dZ.1 h;rw[List.cons_append,Mw,hy];dsimp only;rw[Zew hx h1];rfl
theorem Zex {x:ByteArray}(hx:lK x=none):∀{r:List ByteArray},x∈r->mL r=none
 |y::r,h=>by
  rw[Mw];rcases jN.1 h with rfl|h
  .rw[hx]
  .cases hy:lK y with
   |none=>rfl
   |some n=>dsimp only;rw[Zex hx h];rfl
def iP (n:Int):PV:=.i n
def UF (r:List ByteArray)(k:Int)(g:PV)(w:aJ)(i:Nat)(l:List Int):AS:=⟨[(0,.ptr (.par 0) 0),(5,.ptr (.loc 5 0) 0),(7,.vec (.loc 41 0) 1 0 l.length),(31,.pv (.aF true 1 (r.map .str))),(32,.pv (.i r.length)),(33,.pv (.i i))],
 [(.loc 41 0,.arr 3 1 (l.map iP)),(.loc 5 0,.cells [.pv (.i k),.pv g]),(.par 0,w)]⟩
theorem Zj9 {s:ByteArray}{k:Nat}{g:FuncId}(h:gT s=some (k,g)):1<=k/\k<=7:=by
 unfold gT at h
 repeat' split at h
 all_goals first|(cases h;omega)|cases h
theorem ZuS {a b c d e:PV}(s:ByteArray)(hs:s.size<=1000){Q:PV->PV->PV->PV->PV->Prop}{E:Int->Prop}(h4:O6 s=none->E 4)
  (QQ:∀g nums,O6 s=some (g,nums)->cR prog g [.ptr (.par 0) 0,.pv (.aF false 1 (nums.map iP))] [(.par 0,aO a b c d e)] (xW Q)\/s4 prog g [.ptr (.par 0) 0,.pv (.aF false 1 (nums.map iP))] [(.par 0,aO a b c d e)] (uR E)):
  sZ prog 101 [.ptr (.par 0) 0,.pv (.str s)] [(.par 0,aO a b c d e)] (xW Q) (uR E):=by
 have jJ:=Zsq s blank (by omega) (by decide) (Ky s) (by have:=Zry s;omega);have hlen:=Ky s;have QS:=Zry s;refine cX L101 ?_;generalize hQ:J4 (uR E)=Qp;have oN:∀(n:Int) (τ:AS) a b c d e,E n->τ.b (.par 0)=some (aO a b c d e)->Qp (yM n) τ:=fun n τ a b c d e h1 h2=>by
  rw[<-hQ];refine⟨[.par 0],rfl,fun s hs b hb=>?_,n,rfl,h1,a,b,c,d,e,?_⟩
  .cases rY.1 hs;rw[h2]at hb;cases hb;rfl
  .unfold AS.exp;rw[h2];rfl
 unfold O6 at h4 QQ;cases hl:xP s blank with
 |nil=>rw[hl]at hlen;cases hlen
 |cons l0 r=>
 rw[hl]at jJ h4 QQ hlen;dsimp only at h4 QQ;have n7:r.length<=1000:=by simp at hlen;omega
 show fM _ (.seq _ (.seq _ (.seq _ (.seq _ (.seq _ _))))) _ _ _;refine mH ?_;simp[hold];refine .inl (cQ [] [.str s,.str blank] jJ ?_);simp;have hk:zZ ⟨false,[.str]⟩ nN=true:=rfl;have hw:=Zr6 l0;obtain⟨k,g,ok,T1,hwo⟩:∃(k:Int) (g:PV) (ok:Bool),((eX (.str l0) nN).getD (.agg [.i 0,.dP])=.agg [.i k,g]/\(eX (.str l0) nN).isSome=ok)/\((ok=false/\gT l0=none)\/∃(k':Nat) (g':FuncId),ok=true/\gT l0=some (k',g')/\k=k'/\g=.fn g' [] []):=by
  rw[hw];cases PD:gT l0 with
  |none=>exact⟨0,.dP,false,⟨rfl,rfl⟩,.inl ⟨rfl,rfl⟩⟩
  |some p=>exact⟨p.1,.fn p.2 [] [],true,⟨rfl,rfl⟩,.inr ⟨p.1,p.2,rfl,rfl,rfl,rfl⟩⟩
 refine mH ?_;simp[hold];refine JQ ⟨[(19,.pv (.bool ok)),(5,.ptr (.loc 5 0) 0),(4,.pv (.aF true 1 ((l0::r).map .str))),(0,.ptr (.par 0) 0)],[(.loc 5 0,.cells [.pv (.i k),.pv g]),(.par 0,aO a b c d e)]⟩ ?_ ?_
 .simp[gO,gY];refine⟨?_,?_⟩
  .refine O7 [] (fs:=[]) (xs:=[]) (cs:=[]) rfl rfl Zr2 ?_;rintro r' B ⟨rfl,rfl⟩;simp[gO,gY,hk,T1];exact Sub.mk (by simp) (by simp[aO])
  .refine O7 [] (fs:=[]) (xs:=[]) (cs:=[]) rfl rfl Zr2 ?_;rintro r' B ⟨rfl,rfl⟩;simp[gO,gY,hk,T1];exact Sub.mk (by simp) (by simp[aO])
 simp[hold];rcases hwo with⟨rfl,Jh⟩|⟨k',g',rfl,BN,rfl,rfl⟩
 .rw[Jh]at h4;have hE:=h4 rfl;refine wX [_,_,_,_,_,_,_,_,_] ?_;simp[hold];exact TF (d:=99) [] (xs:=[.bool false,.i 4]) (cs:=[]) rfl rfl (zV 4) rfl (fun x hx=>by rw[hx.1];exact oN 4 _ a b c d e hE rfl) (fun x B hx=>hx.2)
 rw[BN]at h4 QQ;dsimp only at h4 QQ;obtain⟨gZ,VA⟩:=Zj9 BN;have hkw:IntKind.i64.wrap ((k':Int)+1)=k'+1:=wrap64 ⟨by omega,by omega⟩;by_cases Sd:r.length=k'
 .rw[if_pos Sd]at h4;have HK:(r.length:Int)=k':=by omega
  refine mH ?_;simp[hold,hkw,HK];refine cG [.bool true,.i 4] (gM 4) ?_;simp;rw[if_pos Sd]at QQ;refine mH ?_;simp[hold];refine Zi1 (mH ?_);simp[hold,aP];refine Zg0 (ZoT (fun n τ=>∃i l,n=r.length-i/\i<=r.length/\mL (r.take i)=some l/\l.length=i/\τ=UF r k' (.fn g' [] []) (aO a b c d e) i l) ?_ ?_)
  .refine⟨_,UF r k' (.fn g' [] []) (aO a b c d e) 0 [],Sub.trans' (Sub.mk (by simp[AS.cI,HK]) (by simp[AS.cI,aO])) (cI 41 3 1 7 rfl (by decide)),0,[],rfl,by omega,rfl,rfl,rfl⟩
  rintro J hJ n τ ⟨i,l,rfl,hi,oY,qZ,rfl⟩;by_cases aI:i<r.length
  .obtain⟨x,hx⟩:∃x,r[i]?=some x:=⟨r[i],bB aI⟩;have jS:r.take (i+1)=r.take i++[x]:=by rw[mJ,hx];rfl
   have EH:x.size<=1000000:=by
    have h1:x∈xP s blank:=by rw[hl];exact List.mem_cons_of_mem _ (dK hx)
    have:=Zen blank _ s x h1
    omega
   cases iD:lK x with
   |some v=>
    have pW:IntKind.i64.wrap ((i:Int)+1)=(i:Int)+1:=wrap64 ⟨by omega,by omega⟩;have MB:l.length+1<=1000000:=by omega
    refine FR ?_;simp[-getElem?_pos,UF,aI,hx];refine cG [.str x] (Zp0 x EH v iD) ?_;simp[aP,MB,pW];refine⟨r.length-(i+1),UF r k' (.fn g' [] []) (aO a b c d e) (i+1) (l++[v]),by omega,Sub.mk (by simp) (by simp[aO,iP]),hJ _ _ ⟨i+1,l++[v],rfl,by omega,by rw[jS];exact Zew iD oY,by simp[qZ],rfl⟩⟩
   |none=>
    have hE:=h4 (by rw[Zex iD (dK hx)];rfl);refine mH ?_;simp[UF,aI,hold];refine mH ?_;simp[hold];refine Zi1 (Zg0 (mH ?_));simp[↓hx,hold];refine Gc [_,_] ?_;simp[hold];exact TF (d:=99) [] (xs:=[.str x]) (cs:=[]) rfl rfl (Zp2 x EH iD) rfl (fun y hy=>by rw[hy.1];exact oN 4 _ a b c d e hE rfl) (fun x B hx=>hx.2)
  .have e:i=r.length:=by omega
   subst e;rw[nF]at oY;have hg:=QQ g' l (by rw[oY];rfl);refine FR ?_;simp[UF];rcases hg with hg|hg
   .refine FR ?_;simp;refine Zl9 47 [.loc 41 0] [.par 0] rfl rfl rfl rfl (by simp[AS.cD,AV.cD,AV.aY,aJ.cD]) (by simp[AS.cD,AV.cD,AV.aY,aJ.cD];try exact fO (by simp)) hg ?_;rintro r' B ⟨rfl,a',b',c',d',e',rfl,hq⟩;simp[aO];exact Ys (outs:=[.par 0]) ⟨[],rfl,rfl,rfl,⟨⟨_,rfl,rfl⟩,trivial⟩,rfl,a',b',c',d',e',rfl,hq⟩
   .refine Gc [_,_,_,_] ?_;simp[hold];refine⟨rfl,.inl ⟨_,_,rfl,?_⟩⟩;refine ZnC 47 [.loc 41 0] [.par 0] rfl rfl rfl rfl (by simp[AS.cD,AV.cD,AV.aY,aJ.cD]) (by simp[AS.cD,AV.cD,AV.aY,aJ.cD];try exact fO (by simp)) hg ?_;rintro y B ⟨n,rfl,hn,a',b',c',d',e',rfl⟩;refine⟨?_,oN n _ a' b' c' d' e' hn ?_⟩
    .simp[aO]
    .simp[aO]
 .rw[if_neg Sd]at h4;have hE:=h4 rfl;have HK:¬((r.length:Int)=k'):=by omega
  refine wX [_,_,_,_,_,_,_,_,_] ?_;simp[hold,hkw,HK];exact TF (d:=99) [] (xs:=[.bool false,.i 4]) (cs:=[]) rfl rfl (zV 4) rfl (fun x hx=>by rw[hx.1];exact oN 4 _ a b c d e hE rfl) (fun x B hx=>hx.2)
end
def dI (l:List Int)(x:Int):Nat:=(l.filter fun y=>decide (y<x)).length
structure Cut (l:List Int)(x:Int)(i j:Nat):Prop where
 ij:i<=j
 jl:j<=l.length
 lo:∀(k:Nat) (y:Int),k<i->l[k]?=some y->y<x
 hi:∀(k:Nat) (y:Int),j<=k->l[k]?=some y->x<=y
theorem Cut.is {l:List Int}{x:Int}{i:Nat}(h:Cut l x i i):dI l x=i:=by
 unfold dI;have e:l.filter (fun y=>decide (y<x))=l.take i:=by
  conv=>lhs;rw[<-List.take_append_drop i l]
  rw[F2];have h1:(l.take i).filter (fun y=>decide (y<x))=l.take i:=by
   rw[List.filter_eq_self];intro y hy;obtain⟨k,hk⟩:=iJ.1 hy;rw[mG]at hk;split at hk
   .rename_i x5;simpa using h.lo k y x5 hk
   .cases hk
  have h2:(l.drop i).filter (fun y=>decide (y<x))=[]:=by
   rw[List.filter_eq_nil_iff];intro y hy;obtain⟨k,hk⟩:=iJ.1 hy;rw[mS]at hk
   have:=h.hi (i+k) y (by omega) hk
   simp;omega
  rw[h1,h2,uG]
 rw[e,gJ]
 have:=h.jl
 omega
theorem Cut.up {l:List Int}{x:Int}{i j k:Nat}{y:Int}(hs:l.Pairwise (·<·))(h:Cut l x i j)(hk:k<j)(hy:l[k]?=some y)(hx:y<x):Cut l x (k+1) j:=by
 refine⟨by omega,h.jl,fun m z hm hz=>?_,h.hi⟩;by_cases e:m=k
 .subst e;rw[hy]at hz;cases hz;exact hx
 .have xG:=(bZ.1 hy).1;have S7:=(bZ.1 hz).1
  have:=Q2.1 hs m k S7 xG (by omega)
  rw[(bZ.1 hy).2,(bZ.1 hz).2]at this;omega
theorem Cut.dn {l:List Int}{x:Int}{i j k:Nat}{y:Int}(hs:l.Pairwise (·<·))(h:Cut l x i j)(hk:k<j)(qO:i<=k)(hy:l[k]?=some y)(hx:¬y<x):Cut l x i k:=by
 have xH:=h.jl;refine⟨qO,by omega,h.lo,fun m z hm hz=>?_⟩;by_cases e:m=k
 .subst e;rw[hy]at hz;cases hz;omega
 .have xG:=(bZ.1 hy).1;have S7:=(bZ.1 hz).1
  have:=Q2.1 hs k m xG S7 (by omega)
  rw[(bZ.1 hy).2,(bZ.1 hz).2]at this;omega
theorem ZqP (x:Int):aD prog 241 [.i x] (.bool false):=by
 refine cS L241 ?_;simp[L241]
theorem Zpo (x:Int):aD prog 278 [.i x] (.bool false):=by
 refine cS L278 ?_;simp[L278]
theorem Zqf (a b:Int):aD prog 258 [.i a,.i b] (.bool (decide (a<b))):=by
 refine cS L258 ?_;simp[L258];refine cG [.i a] (ZqP a) ?_;simp
theorem LI (i j:Nat):∃m:Nat,m=(i+j) / 2/\((i:Int)+j).fdiv (2^min 1 IntKind.u64.bits)=(m:Int):=by
 refine⟨(i+j) / 2,rfl,?_⟩
 have:(2:Int)^min 1 IntKind.u64.bits=2:=by decide
 rw[this,Int.fdiv_eq_ediv_of_nonneg _ (by omega)];omega
def RU (l:List Int)(x:Int)(i j:Nat):AS:=⟨[(0,.pv (.aF false 1 (l.map iP))),(1,.pv (.i x)),(6,.pv (.i l.length)),(7,.pv (.i i)),(8,.pv (.i j))],[]⟩
theorem LH {i j:Nat}(h:j<=1000000)(hi:i<=j):IntKind.i64.wrap ((i:Int)+j)=(i:Int)+j:=wrap64 ⟨by omega,by omega⟩
theorem ZoM (l:List Int)(x:Int)(hs:l.Pairwise (·<·))(hl:l.length<=1000000):aD prog 233 [.aF false 1 (l.map iP),.i x] (.bL [.i (dI l x),.bool (decide (x∈l))]):=by
 refine T8 L233 ?_;intro R hR;simp[L233];refine eO (fun n τ=>∃i j,n=j-i/\Cut l x i j/\τ=RU l x i j) ?_ ?_
 .refine⟨_,RU l x 0 l.length,Sub.mk (by simp) (by simp),0,l.length,rfl,⟨by omega,by omega,fun k y hk=>by omega,fun k y hk hy=>?_⟩,rfl⟩
  have:=(bZ.1 hy).1
  omega
 .rintro J hJ n τ ⟨i,j,rfl,hc,rfl⟩;have QJ:=hc.ij;have xH:=hc.jl;by_cases h:i<j
  .have hw:=LH (i:=i) (j:=j) (by omega) QJ;obtain⟨m,hm,hF⟩:=LI i j;have hU:IntKind.u64.wrap ((i:Int)+j)=(i:Int)+j:=by rw[IntKind.wrap_u64];omega
   have hW:IntKind.i64.wrap (m:Int)=m:=wrap64 ⟨by omega,by omega⟩;have Uv:IntKind.i64.wrap ((m:Int)+1)=(m:Int)+1:=wrap64 ⟨by omega,by omega⟩;obtain⟨y,hy⟩:∃y,l[m]?=some y:=⟨l[m],bB (by omega)⟩;simp[RU,h,hw,hU,hF,hW,↓hy,iP];refine cG [.i y,.i x] (Zqf y x) ?_;by_cases hx:y<x
   .simp[hx,Uv];refine⟨j-(m+1),RU l x (m+1) j,by omega,Sub.mk (by simp) (by simp),hJ _ _ ⟨m+1,j,rfl,hc.up hs (by omega) hy hx,rfl⟩⟩
   .simp[hx];refine⟨m-i,RU l x i m,by omega,Sub.mk (by simp) (by simp),hJ _ _ ⟨i,m,rfl,hc.dn hs (by omega) (by omega) hy hx,rfl⟩⟩
  .have e:j=i:=by omega
   subst e;have wE:=hc.is;by_cases hb:j<l.length
   .obtain⟨y,hy⟩:∃y,l[j]?=some y:=⟨l[j],bB hb⟩;simp[-getElem?_pos,RU,hb,hy,iP];by_cases hx:y=x
    .have gQ:x∈l:=iJ.2 ⟨j,by rw[hy,hx]⟩;simp[hx,<-hR,wE,gQ]
    .have gQ:x∉l:=fun hm=>by
      obtain⟨k,hk⟩:=iJ.1 hm;rcases Nat.lt_trichotomy k j with q|q|q
      .have:=hc.lo k x q hk;omega
      .subst q;rw[hy]at hk;cases hk;exact hx rfl
      .have xG:=(bZ.1 hk).1
       have:=Q2.1 hs j k hb xG q
       rw[(bZ.1 hy).2,(bZ.1 hk).2]at this;have h2:=hc.hi j y (fG _) hy;omega
     simp[-getElem?_pos,hx];refine cG [.i y] (Zpo y) ?_;simp[<-hR,wE,gQ]
   .have gQ:x∉l:=fun hm=>by
     obtain⟨k,hk⟩:=iJ.1 hm;have xG:=(bZ.1 hk).1
     have:=hc.lo k x (by omega) hk
     omega
    simp[RU,hb,<-hR,wE,gQ]
structure Lt where
 num:Int
 pieces:Int
 limit:Int
 passed:Bool
 deriving DecidableEq
def Lt.pv (x:Lt):PV:=.agg [.i x.num,.i x.pieces,.i x.limit,.bool x.passed]
theorem Zoj (x:Lt)(n:Int)(h:IntKind.i64.wrap (x.num-n)=x.num-n):aD prog 282 [x.pv,.i n] (.i (x.num-n)):=by
 refine cS L282 ?_;simp[L282,Lt.pv,h]
def RV (l:List Lt)(x:Int)(i j:Nat):AS:=⟨[(0,.pv (.aF false 4 (l.map Lt.pv))),(1,.pv (.i x)),(2,.pv (.fn 282 [] [])),(8,.pv (.i l.length)),(9,.pv (.i i)),(10,.pv (.i j))],[]⟩
theorem Zmb (l:List Lt)(x:Int)(hs:(l.map Lt.num).Pairwise (·<·))(hl:l.length<=1000000)(hw:∀y∈l,IntKind.i64.wrap (y.num-x)=y.num-x):
  aD prog 281 [.aF false 4 (l.map Lt.pv),.i x,.fn 282 [] []] (.bL [.i (dI (l.map Lt.num) x),.bool (decide (x∈l.map Lt.num))]):=by
 refine T8 L281 ?_;intro R hR;simp[L281];have hmap:∀(k:Nat) (y:Int),(l.map Lt.num)[k]?=some y->∃z,l[k]?=some z/\z.num=y:=fun k y h=>by
  rw[bW]at h;obtain⟨z,h1,h2⟩:=dZ.1 h;exact⟨z,h1,h2⟩
 have wD:∀(k:Nat) (z:Lt),l[k]?=some z->(l.map Lt.num)[k]?=some z.num:=fun k z h=>by rw[bW,h];rfl
 have yI:(l.map Lt.num).length=l.length:=fV _;refine eO (fun n τ=>∃i j,n=j-i/\Cut (l.map Lt.num) x i j/\τ=RV l x i j) ?_ ?_
 .refine⟨_,RV l x 0 l.length,Sub.mk (by simp) (by simp),0,l.length,rfl,⟨by omega,by omega,fun k y hk=>by omega,fun k y hk hy=>?_⟩,rfl⟩
  have:=(bZ.1 hy).1
  omega
 .rintro J hJ n τ ⟨i,j,rfl,hc,rfl⟩;have QJ:=hc.ij;have xH:=hc.jl;rw[yI]at xH;by_cases h:i<j
  .have G3:=LH (i:=i) (j:=j) (by omega) QJ;obtain⟨m,hm,hF⟩:=LI i j;have hU:IntKind.u64.wrap ((i:Int)+j)=(i:Int)+j:=by rw[IntKind.wrap_u64];omega
   have hW:IntKind.i64.wrap (m:Int)=m:=wrap64 ⟨by omega,by omega⟩;have Uv:IntKind.i64.wrap ((m:Int)+1)=(m:Int)+1:=wrap64 ⟨by omega,by omega⟩;obtain⟨y,hy⟩:∃y,l[m]?=some y:=⟨l[m],bB (by omega)⟩;have hf:=Zoj y x (hw y (dK hy));unfold Lt.pv at hf;simp[RV,h,G3,hU,hF,hW,↓hy,Lt.pv];refine cG [.agg [.i y.num,.i y.pieces,.i y.limit,.bool y.passed],.i x] hf ?_;by_cases hx:y.num<x
   .have rP:y.num-x<0:=by omega
    simp[rP,Uv];refine⟨j-(m+1),RV l x (m+1) j,by omega,Sub.mk (by simp) (by simp),hJ _ _ ⟨m+1,j,rfl,hc.up hs (by omega) (wD m y hy) hx,rfl⟩⟩
   .have rP:¬y.num-x<0:=by omega
    simp[rP];refine⟨m-i,RV l x i m,by omega,Sub.mk (by simp) (by simp),hJ _ _ ⟨i,m,rfl,hc.dn hs (by omega) (by omega) (wD m y hy) hx,rfl⟩⟩
  .have e:j=i:=by omega
   subst e;have wE:=hc.is;by_cases hb:j<l.length
   .obtain⟨y,hy⟩:∃y,l[j]?=some y:=⟨l[j],bB hb⟩;have hf:=Zoj y x (hw y (dK hy));unfold Lt.pv at hf;simp[-getElem?_pos,RV,hb,hy,Lt.pv];refine cG [.agg [.i y.num,.i y.pieces,.i y.limit,.bool y.passed],.i x] hf ?_;by_cases hx:y.num=x
    .have gQ:x∈l.map Lt.num:=iJ.2 ⟨j,by rw[wD j y hy,hx]⟩;have rP:y.num-x=0:=by omega
     simp[-List.mem_map,rP,<-hR,wE,gQ]
    .have gQ:x∉l.map Lt.num:=fun hm=>by
      obtain⟨k,hk⟩:=iJ.1 hm;rcases Nat.lt_trichotomy k j with q|q|q
      .have:=hc.lo k x q hk;omega
      .subst q;rw[wD _ y hy]at hk;cases hk;exact hx rfl
      .have xG:=(bZ.1 hk).1;have To:=(bZ.1 (wD j y hy)).1
       have:=Q2.1 hs j k To xG q
       rw[(bZ.1 (wD j y hy)).2,(bZ.1 hk).2]at this;have h2:=hc.hi j _ (fG _) (wD j y hy);omega
     have rP:¬y.num-x=0:=by omega
     simp[-List.mem_map,rP,<-hR,wE,gQ]
   .have gQ:x∉l.map Lt.num:=fun hm=>by
     obtain⟨k,hk⟩:=iJ.1 hm;have xG:=(bZ.1 hk).1
     have:=hc.lo k x (by omega) hk
     omega
    simp[-List.mem_map,RV,hb,<-hR,wE,gQ]
end
end Go.Proofs.YtlllhbmbnjnoiaaGreatDoor
namespace Go.Proofs
open Go.RowKit
open Tryz
section
open Go.Shelf
def Tryz.ZwY:Go.Shelf.Ren:=⟨fun|189=>166|125=>206|257=>205|128=>261|129=>262|294=>252|295=>253|296=>254|297=>255|298=>256|299=>257|216=>258|300=>259|301=>260|328=>292|329=>293|330=>294|331=>295|332=>296|215=>241|343=>312|n=>n,fun|28=>26|3=>3|46=>277|0=>0|51=>316|53=>307|4=>4|183=>349|182=>348|131=>200|5=>5|9=>9|218=>383|222=>387|228=>394|229=>123|n=>n,fun|n=>n⟩
theorem Tryz.Zxh:Go.Proofs.Lays.n189 prog ZwY:=by repeat' first|kernel_rfl|(intro _;kernel_rfl)|decide|constructor
open Go.Sort Go.RowKit in
theorem Tryz.slices_Sort_int (fK off cap:Nat)(zs:List Int)(w:World)(hH:Holds (Value.int .i64) w fK off zs.toArray)(IB:fK<w.heap.size)(fH:zs.length<4611686018427387904):
  Calls prog 166 #[.slice (some ⟨fK,off,none⟩) zs.length cap] w fun e w'=>
   e=.returned (.tuple #[])/\∃n os,w'=grow (putRow (Value.int .i64) (Sort.ahead w n) fK off (zs.mergeSort fun x y=>decide (x<=y)).toArray) os:=Any.slices_Sort_int Zxh fK off cap zs w hH IB fH
end
end Go.Proofs
namespace Go.Proofs.YtlllhbmbnjnoiaaGreatDoor
open Go.RowKit
open Tryz
section
open Go.RowKit Go.Sort
attribute [local simp] aJ.bG Site.fP
def aN (n:Int):PV:=.i n
def R5 (x:Int):List Int->List Int
 |[]=>[x]
 |y::r=>if x<=y then x::y::r else y::R5 x r
def kR:List Int->List Int
 |[]=>[]
 |x::r=>R5 x (kR r)
theorem ZfV (x:Int):∀l:List Int,(R5 x l).Perm (x::l)
 |[]=>.refl _
 |y::r=>by
  unfold R5;split
  .exact .refl _
  .exact((ZfV x r).cons y).trans (.swap x y r)
theorem Hf:∀l:List Int,(kR l).Perm l
 |[]=>.refl _
 |x::r=>(ZfV x _).trans ((Hf r).cons x)
theorem ZfU (x:Int):∀l:List Int,l.Pairwise (·<=·)->(R5 x l).Pairwise (·<=·)
 |[],_=>by simp[R5]
 |y::r,h=>by
  unfold R5;split
  .rename_i ZX;refine H8.2 ⟨fun z hz=>?_,h⟩;rcases jN.1 hz with rfl|hz
   .exact ZX
   .exact Int.le_trans ZX ((H8.1 h).1 z hz)
  .rename_i ZX;refine H8.2 ⟨fun z hz=>?_,ZfU x r (H8.1 h).2⟩;rcases jN.1 ((ZfV x r).mem_iff.1 hz)with rfl|hz
   .omega
   .exact(H8.1 h).1 z hz
theorem ZcM:∀l:List Int,(kR l).Pairwise (·<=·)
 |[]=>.nil
 |x::r=>ZfU x _ (ZcM r)
theorem Zh7:∀{a b:List Int},a.Perm b->a.Pairwise (·<=·)->b.Pairwise (·<=·)->a=b
 |[],b,h,_,_=>by simpa using h.symm
 |x::a,[],h,_,_=>by simp at h
 |x::a,y::b,h,ha,hb=>by
  have e:x=y:=by
   have h1:x∈y::b:=h.mem_iff.1 (by simp);have h2:y∈x::a:=h.mem_iff.2 (by simp);rcases jN.1 h1 with rfl|h1
   .rfl
   rcases jN.1 h2 with rfl|h2
   .rfl
   have k1:=(H8.1 ha).1 y h2;have k2:=(H8.1 hb).1 x h1;omega
  subst e;rw[Zh7 h.cons_inv (H8.1 ha).2 (H8.1 hb).2]
theorem Hq (l:List Int):(kR l).length=l.length:=(Hf l).length_eq
theorem Zjn (l:List Int):(l.mergeSort fun x y=>decide (x<=y))=kR l:=by
 refine Zh7 ((List.mergeSort_perm l _).trans (Hf l).symm) ?_ (ZcM l)
 have:=List.pairwise_mergeSort (le:=fun x y:Int=>decide (x<=y)) (fun a b c h1 h2=>by simp at *;omega) (fun a b=>by simp;omega) l
 exact this.imp (fun h=>by simpa using h)
theorem Zqq {w:World}{g o:Nat}{cur:Array Value}{e:TypeId}{ss:List Int}(hb:w.heap[g]?=some (.cells cur e (0,0)))(ht:∀(i:Nat) (x:Int),ss[i]?=some x->cur[o+i]?=some (.i x)):Holds (Value.int .i64) w g o ss.toArray:=by
 intro j hj;have X9:j<ss.length:=by simpa using hj
 refine⟨?_,by simp[World.frozen?,hb]⟩;have h1:=ht j _ (bB X9);simp only[World.cell?,hb];simp only[Option.isSome_none,Bool.false_eq_true,if_false];rw[h1];simp[X9]
theorem Zgk {w:World}{g n o:Nat}{os:Array Obj}{cur:Array Value}{e:TypeId}{fr:Nat×Nat}(d:Array Int)(hb:w.heap[g]?=some (.cells cur e fr)):
  (grow (putRow (Value.int .i64) (Sort.ahead w n) g o d) os).heap[g]?=some (.cells (putCells (Value.int .i64) o d cur) e fr):=by
 have hg:g<w.heap.size:=(qE.1 hb).1;rw[heap_grow_old _ _ (by simpa using hg)];simp[putRow,mapBlock,Sort.ahead,Array.getElem?_modify,hb,onCells]
theorem ZgM {w:World}{g n o k:Nat}{os:Array Obj}(d:Array Int)(hk:k<w.heap.size)(dA:k≠g):
  (grow (putRow (Value.int .i64) (Sort.ahead w n) g o d) os).heap[k]?=w.heap[k]?:=by
 rw[heap_grow_old _ _ (by simpa using hk)]
 have:g≠k:=fun e=>dA (by rw[e])
 simp[putRow,mapBlock,Sort.ahead,Array.getElem?_modify,this]
theorem Zuq (e:TypeId)(l:List Int)(h0:l≠[])(hl:l.length<=1000000):cR prog 166 [.vec (.par 0) 1 0 l.length] [(.par 0,.arr e 1 (l.map aN))] (fun r B=>r=.pv (.bL [])/\B=[(.par 0,.arr e 1 ((kR l).map aN))]):=by
 refine⟨⟨_,_,func166,by decide +kernel,rfl⟩,fun w m ρ vs hB ⟨hm,_⟩ fH lG=>?_⟩;obtain⟨v,rfl⟩:∃v,vs=#[v]:=by
  match vs,fH with
  |⟨[v]⟩,_=>exact⟨v,rfl⟩
 have hv:=lG 0 v _ rfl rfl;have tX:=hB.bx (.par 0) _ mT;obtain⟨_,⟨_,hx,_⟩|⟨hr,cs,k1,k2,k3,k4,k5⟩⟩:=tX
 .exact absurd (List.map_eq_nil_iff.1 hx) h0
 have hlen:0<l.length:=List.length_pos_iff.2 h0;have oP:∀(i:Nat) (x:Int),l[i]?=some x->cs[(ρ (.par 0)).o+i]?=some (.i x):=fun i x hi=>by
  obtain⟨_,h2⟩:=k5 i (aN x) (by rw[bW,hi];rfl);obtain⟨d,d1,d2,d3⟩:=h2 0 (aN x) rfl;rw[Nat.mul_one,Nat.add_zero]at d1;rw[d1];cases d3;rfl
 have aI:=(qE.1 k1).1;have main:∀cap,Calls prog 166 #[.slice (some ⟨(ρ (.par 0)).b,(ρ (.par 0)).o,none⟩) l.length cap] w (lE w m ρ [(.par 0,.arr e 1 (l.map aN))] (fun r B=>r=.pv (.bL [])/\B=[(.par 0,.arr e 1 ((kR l).map aN))])):=fun cap=>by
  have T1:cJ ρ w [(Site.par 0,aJ.arr e 1 (l.map aN))]=[(ρ (.par 0)).b]:=by simp[cJ,hr,ins]
  refine(slices_Sort_int (ρ (.par 0)).b (ρ (.par 0)).o cap l w (Zqq k1 oP) aI (by omega)).mono ?_;rintro en w' ⟨rfl,n,os,rfl⟩;rw[Zjn];have hmb:∀b o v,m b o=some v->b≠(ρ (.par 0)).b:=fun b o v hv e'=>by
   subst e'
   have:=hB.off (.par 0) _ mT hr o
   rw[this]at hv;cases hv
  refine⟨.tuple #[],.pv (.bL []),[(.par 0,.arr e 1 ((kR l).map aN))],ρ,m,rfl,⟨rfl,rfl⟩,⟨fun s b hs=>?_,fun s s' b b' _ hs X5 _ _=>?_,fun s b i hs tU o=>?_⟩,Le.refl m,fun b o v hv=>?_,fun i=>rfl,fun s b i hs tU=>?_,fun b o v hv=>.inl hv,?_,⟨rfl,rfl,rfl,?_,fun k hk mA=>?_⟩⟩
  .by_cases es:s=.par 0
   .subst es;rw[mT]at hs;cases hs;refine⟨by omega,.inr ⟨hr,_,Zgk _ k1,by rw[show(putCells (Value.int .i64) (ρ (.par 0)).o (kR l).toArray cs).size=cs.size by simp[putCells]];exact k2,by rw[fV,Hq,<-fV (f:=aN)];exact k3,k4,fun i x hx=>?_⟩⟩;rw[bW]at hx;obtain⟨z,hz,rfl⟩:=dZ.1 hx;refine⟨rfl,fun j c hj=>?_⟩;cases j with
    |succ j=>simp[aN,PV.cells]at hj
    |zero=>
     simp[aN,PV.cells]at hj;subst hj;have hi:i<l.length:=by have:=(bZ.1 hz).1;rw[Hq]at this;exact this
     have EP:(ρ (.par 0)).o+i<cs.size:=(qE.1 (oP i _ (bB hi))).1;refine⟨.int .i64 z,?_,rfl,.int .i64 z⟩;rw[Nat.mul_one,Nat.add_zero];have Je:(kR l)[i]! = z:=by rw[List.getElem!_eq_getElem?_getD,hz];rfl
     have M8:i<(kR l).length:=by rw[Hq];exact hi
     have P5:(kR l)[i]=z:=by rw[bB M8]at hz;simpa using hz
     simp[putCells,EP,Hq,hi,P5]
   .rw[jC es]at hs;simp[List.lookup]at hs
  .have q:∀{s:Site} {b:aJ},List.lookup s [(Site.par 0,aJ.arr e 1 ((kR l).map aN))]=some b->s=.par 0:=fun{s b} h=>by
    by_cases es:s=.par 0
    .exact es
    .rw[jC es]at h;simp[List.lookup]at h
   rw[q hs,q X5]
  .by_cases es:s=.par 0
   .subst es;rw[mT]at hs;cases hs;obtain⟨q1,rfl⟩:=DW rfl tU;exact hB.off (.par 0) _ mT q1 o
   .rw[jC es]at hs;simp[List.lookup]at hs
  .have h1:=hm b o v hv;have dA:=hmb b o v hv;show World.cell? _ _=some v;have h2:w.cell? ⟨b,o,none⟩=some v:=h1;have hb:b<w.heap.size:=by
    unfold World.cell? at h2;simp only at h2;cases hh:w.heap[b]? with
    |none=>rw[hh]at h2;simp at h2
    |some ob=>exact(qE.1 hh).1
   rw[<-h2];unfold World.cell?;rw[ZgM _ hb dA]
  .by_cases es:s=.par 0
   .subst es;rw[mT]at hs;cases hs;obtain⟨q1,rfl⟩:=DW rfl tU
    right;rw[T1];simp
   .rw[jC es]at hs;simp[List.lookup]at hs
  .exact .pv _ _ (.bL #[] [] rfl (fun j d c h=>by simp at h))
  .simp[putRow,mapBlock,Sort.ahead]
  .rw[T1]at mA;exact ZgM _ hk (by simpa using mA)
 generalize hn:l.length=N at hv main;cases hv with
 |vec _ _ _ _ cap g0 g1 g2=>
  have:=main cap
  simpa using this
 |mZ _ _ _ a h=>omega
end
structure Cr where
 lo:Int
 hi:Int
 deriving DecidableEq
structure It where
 dR:Int
 gU:Bool
 val:Cr
structure Ct where
 num:Int
 it:Int
 src:Int
 day:Int
 valid:Int
 diff:Cr
 deriving DecidableEq
structure Bk where
 items:List It
 aA:List Ct
def iX (n lo hi:Int):Bool:=decide (lo<=n)&&decide (n<=hi)
def A1 (n:Int):Bool:=iX n (-100000) 100000
def Cr.okB (r:Cr):Bool:=A1 r.lo&&A1 r.hi&&decide (r.lo<=r.hi)
def It.okB (x:It):Bool:=iX x.dR 0 100&&x.val.okB&&(x.gU||decide (x.val=⟨0,0⟩))
def Bk.item (b:Bk)(i:Int):It:=(b.items[i.toNat]?).getD ⟨0,false,⟨0,0⟩⟩
def Bk.uK (b:Bk)(i:Int):Bool:=iX i 0 ((b.items.length:Int)-1)
def Bk.uX (b:Bk)(c:Ct):Bool:=iX c.num 1 999&&b.uK c.it&&!(b.item c.it).gU&&b.uK c.src&&decide (c.src≠c.it)&&iX c.day 0 1000&&iX c.valid 0 1000&&c.diff.okB
def Bk.xK (b:Bk):Bool:=decide (8<b.items.length)||decide (24<b.aA.length)
def Bk.bad (b:Bk):Bool:=!(b.items.all It.okB)||!(b.aA.all b.uX)
def Bk.zY (b:Bk):Bool:=b.aA.any fun x=>b.aA.any fun y=>(decide (x.num=y.num)&&decide (x≠y))||(decide (y.num<x.num)&&decide (x.day<y.day))
def Bk.fault (b:Bk):Int:=if b.xK=true then 3 else if b.bad=true then 1 else if b.zY=true then 6 else 0
structure Bk.ok (b:Bk):Prop where
 i:b.items.length<=8
 c:b.aA.length<=24
 it:∀x∈b.items,x.okB=true
 ct:∀x∈b.aA,b.uX x=true
 one:∀x∈b.aA,∀y∈b.aA,x.num=y.num->x=y
 day:∀x∈b.aA,∀y∈b.aA,y.num<x.num->y.day<=x.day
theorem Bk.U6 {b:Bk}:b.fault=0↔b.ok:=by
 unfold Bk.fault Bk.xK Bk.bad Bk.zY;constructor
 .intro h;split at h
  .cases h
  .rename_i h1;split at h
   .cases h
   .rename_i h2;split at h
    .cases h
    .rename_i h3;simp only[rV,decide_eq_true_eq,not_or,Nat.not_lt]at h1;simp only[Bool.not_eq_true,Bool.or_eq_false_iff,Bool.not_eq_false',rC]at h2;simp only[Bool.not_eq_true,List.any_eq_false,rV,dJ,decide_eq_true_eq,not_or,not_and,Decidable.not_not,Int.not_lt]at h3;exact⟨h1.1,h1.2,h2.1,h2.2,fun x hx y hy e=>(h3 x hx y hy).1 e,fun x hx y hy e=>(h3 x hx y hy).2 e⟩
 .intro h;rw[if_neg (by simp only[rV,decide_eq_true_eq,not_or,Nat.not_lt];exact⟨h.i,h.c⟩),if_neg (by
   simp only[Bool.not_eq_true,Bool.or_eq_false_iff,Bool.not_eq_false',rC];exact⟨h.it,h.ct⟩),if_neg (by
   simp only[Bool.not_eq_true,List.any_eq_false,rV,dJ,decide_eq_true_eq,not_or,not_and,Decidable.not_not,Int.not_lt];exact fun x hx y hy=>⟨h.one x hx y hy,h.day x hx y hy⟩)]
def Ct.on (c:Ct)(d:Int):Bool:=iX d c.day (c.day+c.valid)
def yX (c o:Ct):Bool:=decide (o.it=c.src)&&decide (o.num<c.num)&&o.on c.day
def Bk.Q3 (b:Bk)(bad held:List Int)(c:Ct):Bool:=((b.item c.src).gU||b.aA.any fun o=>yX c o&&held.contains o.num)&&!bad.contains c.num
def Bk.iG (b:Bk)(bad:List Int):Nat->List Int
 |0=>[]
 |k+1=>b.iG bad k++(if(b.aA.any fun c=>decide (c.num=(k:Int))&&b.Q3 bad (b.iG bad k) c)=true then[(k:Int)]else[])
theorem Hb {b:Bk}{bad:List Int}{k:Nat}:b.iG bad (k+1)=b.iG bad k++(if(b.aA.any fun c=>decide (c.num=(k:Int))&&b.Q3 bad (b.iG bad k) c)=true then[(k:Int)]else[]):=rfl
def Bk.held (b:Bk)(bad:List Int):List Int:=b.iG bad 1000
theorem XC {b:Bk}{bad:List Int}{x:Int}:∀k,x∈b.iG bad k↔∃n:Nat,x=n/\n<k/\(b.aA.any fun c=>decide (c.num=(n:Int))&&b.Q3 bad (b.iG bad n) c)=true
 |0=>⟨fun h=>(by cases h),fun⟨n,_,h,_⟩=>(by omega)⟩
 |k+1=>by
  rw[Hb,sI,XC k];constructor
  .rintro(⟨n,e,h1,h2⟩|h)
   .exact⟨n,e,by omega,h2⟩
   .split at h
    .rename_i hc;simp at h;exact⟨k,h,by omega,hc⟩
    .cases h
  .rintro⟨n,e,h1,h2⟩;by_cases hn:n=k
   .subst hn;right;rw[if_pos h2,e];simp
   .exact .inl ⟨n,e,by omega,h2⟩
theorem Zob {b:Bk}{bad:List Int}{x:Int}{j k:Nat}(h:j<=k)(hx:x∈b.iG bad j):x∈b.iG bad k:=by
 obtain⟨n,rfl,h1,h2⟩:=(XC j).1 hx;exact(XC k).2 ⟨n,rfl,by omega,h2⟩
theorem ZgL {b:Bk}{bad:List Int}{c:Ct}{n k:Nat}(hc:c.num=(n:Int))(hk:n<=k):b.Q3 bad (b.iG bad k) c=b.Q3 bad (b.iG bad n) c:=by
 unfold Bk.Q3;congr 2;rw[qS,oU,oU];constructor
 .rintro⟨o,ho,h⟩;refine⟨o,ho,?_⟩;simp only[dJ,jB]at h ⊢;refine⟨h.1,?_⟩;obtain⟨m,e,h1,h2⟩:=(XC k).1 h.2;have h3:o.num<c.num:=by have:=h.1;unfold yX at this;simp only[dJ,decide_eq_true_eq]at this;exact this.1.2
  exact(XC n).2 ⟨m,e,by omega,h2⟩
 .rintro⟨o,ho,h⟩;refine⟨o,ho,?_⟩;simp only[dJ,jB]at h ⊢;exact⟨h.1,Zob hk h.2⟩
theorem KA {b:Bk}(hb:b.ok){bad:List Int}{x:Int}:x∈b.held bad↔∃c∈b.aA,c.num=x/\b.Q3 bad (b.held bad) c=true:=by
 unfold Bk.held;rw[XC];have hn:∀c∈b.aA,1<=c.num/\c.num<=999:=fun c hc=>by
  have:=hb.ct c hc
  unfold Bk.uX iX at this;simp only[dJ,decide_eq_true_eq]at this;omega
 constructor
 .rintro⟨n,rfl,h1,h2⟩;rw[oU]at h2;obtain⟨c,hc,h3⟩:=h2;simp only[dJ,decide_eq_true_eq]at h3;exact⟨c,hc,h3.1,by rw[ZgL h3.1 (by omega)];exact h3.2⟩
 .rintro⟨c,hc,rfl,h⟩;have h1:=hn c hc;obtain⟨n,yF⟩:∃n:Nat,c.num=n:=⟨c.num.toNat,by omega⟩;refine⟨n,yF,by omega,?_⟩;rw[oU];refine⟨c,hc,?_⟩;simp only[dJ,decide_eq_true_eq];exact⟨yF,by rw[<-ZgL (k:=1000) yF (by omega)];exact h⟩
theorem ZcS {b:Bk}{bad:List Int}:∀k,(b.iG bad k).Pairwise (·<·)/\∀x∈b.iG bad k,x<(k:Int)
 |0=>⟨List.Pairwise.nil,fun x hx=>by cases hx⟩
 |k+1=>by
  obtain⟨h1,h2⟩:=ZcS (b:=b) (bad:=bad) k;rw[Hb];refine⟨?_,fun x hx=>?_⟩
  .rw[List.pairwise_append];refine⟨h1,by split<;>simp,fun x hx y hy=>?_⟩
   have:=h2 x hx
   split at hy
   .simp at hy;omega
   .cases hy
  .rcases sI.1 hx with hx|hx
   .have:=h2 x hx;omega
   .split at hx
    .simp at hx;omega
    .cases hx
def Bk.nums (b:Bk):List Int:=((List.range 1000).filter fun n:Nat=>b.aA.any fun c=>decide (c.num=(n:Int))).map Int.ofNat
theorem s8 {b:Bk}(hb:b.ok){x:Int}:x∈b.nums↔∃c∈b.aA,c.num=x:=by
 unfold Bk.nums;rw[iI];constructor
 .rintro⟨n,h,rfl⟩;rw[iU,oU]at h;obtain⟨_,c,hc,e⟩:=h;exact⟨c,hc,by simpa using e⟩
 .rintro⟨c,hc,rfl⟩
  have:=hb.ct c hc
  unfold Bk.uX iX at this;simp only[dJ,decide_eq_true_eq]at this;refine⟨c.num.toNat,?_,by show((c.num.toNat:Nat):Int)=_;omega⟩;rw[iU,List.mem_range,oU];exact⟨by omega,c,hc,by simp;omega⟩
theorem TH {b:Bk}:b.nums.Pairwise (·<·):=by
 unfold Bk.nums;rw[List.pairwise_map];exact(List.pairwise_lt_range.filter _).imp fun h=>by simpa using h
theorem Yj:∀{a b:List Int},a.Pairwise (·<·)->b.Pairwise (·<·)->(∀x,x∈a↔x∈b)->a=b
 |[],[],_,_,_=>rfl
 |[],y::b,_,_,h=>absurd ((h y).2 (by simp)) (by simp)
 |x::a,[],_,_,h=>absurd ((h x).1 (by simp)) (by simp)
 |x::a,y::b,ha,hb,h=>by
  rw[H8]at ha hb;have exy:x=y:=by
   rcases jN.1 ((h x).1 (by simp))with e|e
   .exact e
   .rcases jN.1 ((h y).2 (by simp))with e'|e'
    .exact e'.symm
    .have h1:=hb.1 x e;have h2:=ha.1 y e';omega
  subst exy;rw[Yj ha.2 hb.2 fun z=>?_];constructor
  .intro hz;rcases jN.1 ((h z).1 (by simp[hz]))with e|e
   .have:=ha.1 z hz;omega
   .exact e
  .intro hz;rcases jN.1 ((h z).2 (by simp[hz]))with e|e
   .have:=hb.1 z hz;omega
   .exact e
section
open Go.RowKit Go.ChangeShapes Go.WideShapes Go.Deep
def Cr.pv (r:Cr):PV:=.agg [.i r.lo,.i r.hi]
def It.pv (x:It):PV:=.agg [.i x.dR,.bool x.gU,.i x.val.lo,.i x.val.hi]
def Ct.pv (c:Ct):PV:=.agg [.i c.num,.i c.it,.i c.src,.i c.day,.i c.valid,.i c.diff.lo,.i c.diff.hi]
def aT (l:List It):PV:=.aF false 4 (l.map It.pv)
def aL (l:List Ct):PV:=.aF false 7 (l.map Ct.pv)
def Bk.pv (b:Bk):PV:=.agg [aT b.items,aL b.aA]
section
variable {H:Type}{enc:TypeId×Value->H}{W:World}{sp:Nat->Bool}{held:Bool}{r:Reach}{base:Nat}
end
end
def ct0:Ct:=⟨0,0,0,0,0,⟨0,0⟩⟩
def Bk.get (b:Bk)(n:Int):Ct:=(b.aA.find? fun c=>decide (c.num=n)).getD ct0
theorem r9 {b:Bk}(hb:b.ok){c:Ct}(hc:c∈b.aA):b.get c.num=c:=by
 unfold Bk.get;cases hf:b.aA.find? (fun x=>decide (x.num=c.num))with
 |none=>
  rw[List.find?_eq_none]at hf
  have:=hf c hc
  simp at this
 |some x=>
  have h1:=List.mem_of_find?_eq_some hf;have h2:=List.find?_some hf;simp only[decide_eq_true_eq]at h2;exact hb.one x h1 c hc h2
theorem U9 {b:Bk}(hb:b.ok){n:Int}(hn:n∈b.nums):b.get n∈b.aA/\(b.get n).num=n:=by
 obtain⟨c,hc,rfl⟩:=(s8 hb).1 hn;rw[r9 hb hc];exact⟨hc,rfl⟩
def Bk.pT (item day below:Int)(c:Ct):Bool:=decide (c.num<below)&&(decide (c.it=item)&&c.on day)
def Bk.qX (b:Bk)(item day below:Int):List Ct:=(b.nums.map b.get).filter (Bk.pT item day below)
theorem AD {b:Bk}(hb:b.ok){item day below:Int}{c:Ct}:c∈b.qX item day below↔c∈b.aA/\Bk.pT item day below c=true:=by
 unfold Bk.qX;rw[iU,iI];constructor
 .rintro⟨⟨n,hn,rfl⟩,h⟩;exact⟨(U9 hb hn).1,h⟩
 .rintro⟨h1,h2⟩;exact⟨⟨c.num,(s8 hb).2 ⟨c,h1,rfl⟩,r9 hb h1⟩,h2⟩
theorem Zi {b:Bk}(hb:b.ok){item day below:Int}{P:Ct->Bool}:(b.qX item day below).any P=b.aA.any fun c=>Bk.pT item day below c&&P c:=by
 rw[qS,oU,oU];constructor
 .rintro⟨c,hc,h⟩;obtain⟨h1,h2⟩:=(AD hb).1 hc;exact⟨c,h1,by rw[h2,h];rfl⟩
 .rintro⟨c,hc,h⟩;rw[dJ]at h;exact⟨c,(AD hb).2 ⟨hc,h.1⟩,h.2⟩
theorem Ml {c o:Ct}:yX c o=Bk.pT c.src c.day c.num o:=by
 unfold yX Bk.pT;cases decide (o.it=c.src)<;>cases decide (o.num<c.num)<;>rfl
theorem Zla {b:Bk}(hb:b.ok){bad:List Int}{n:Int}(hn:n∈b.nums):(b.held bad).contains n=(((b.item (b.get n).src).gU||(b.qX (b.get n).src (b.get n).day n).any fun o=>(b.held bad).contains o.num)&&!bad.contains n):=by
 obtain⟨h1,h2⟩:=U9 hb hn;rw[Zi hb];have e:(b.aA.any fun c=>Bk.pT (b.get n).src (b.get n).day n c&&(b.held bad).contains c.num)=b.aA.any fun o=>yX (b.get n) o&&(b.held bad).contains o.num:=by
  congr 1;funext o;rw[Ml,h2]
 rw[e,qS,jB,KA hb];have hB:b.Q3 bad (b.held bad) (b.get n)=(((b.item (b.get n).src).gU||b.aA.any fun o=>yX (b.get n) o&&(b.held bad).contains o.num)&&!bad.contains n):=by unfold Bk.Q3;rw[h2]
 rw[<-hB];constructor
 .rintro⟨c,hc,e1,e2⟩
  have:b.get n=c:=by rw[<-e1];exact r9 hb hc
  rw[this];exact e2
 .intro h;exact⟨b.get n,h1,h2,h⟩
def Cr.plus (a b:Cr):Cr:=⟨a.lo+b.lo,a.hi+b.hi⟩
def Cr.wider (a:Cr)(n:Int):Cr:=a.plus ⟨-n,n⟩
def Cr.cut (a b:Cr):Cr:=⟨max a.lo b.lo,min a.hi b.hi⟩
def I3:Cr:=⟨-1099511627776,1099511627776⟩
theorem WG {α:Type}(f:α->Cr):∀(l:List α) (e:Cr),e.lo<=(l.foldl (fun r x=>r.cut (f x)) e).lo/\(∀x∈l,(f x).lo<=(l.foldl (fun r x=>r.cut (f x)) e).lo)/\((l.foldl (fun r x=>r.cut (f x)) e).lo=e.lo\/∃x∈l,(l.foldl (fun r x=>r.cut (f x)) e).lo=(f x).lo)
 |[],e=>⟨Int.le_refl _,fun x hx=>(by cases hx),.inl rfl⟩
 |y::l,e=>by
  obtain⟨h1,h2,h3⟩:=WG f l (e.cut (f y));rw[List.foldl_cons];have hm:(e.cut (f y)).lo=max e.lo (f y).lo:=rfl;refine⟨by omega,fun x hx=>?_,?_⟩
  .rcases jN.1 hx with rfl|hx
   .omega
   .exact h2 x hx
  .rcases h3 with h3|⟨x,hx,h3⟩
   .rcases Int.le_total e.lo (f y).lo with h|h
    .right;exact⟨y,by simp,by omega⟩
    .left;omega
   .right;exact⟨x,by simp[hx],h3⟩
theorem WE {α:Type}(f:α->Cr):∀(l:List α) (e:Cr),(l.foldl (fun r x=>r.cut (f x)) e).hi<=e.hi/\(∀x∈l,(l.foldl (fun r x=>r.cut (f x)) e).hi<=(f x).hi)/\((l.foldl (fun r x=>r.cut (f x)) e).hi=e.hi\/∃x∈l,(l.foldl (fun r x=>r.cut (f x)) e).hi=(f x).hi)
 |[],e=>⟨Int.le_refl _,fun x hx=>(by cases hx),.inl rfl⟩
 |y::l,e=>by
  obtain⟨h1,h2,h3⟩:=WE f l (e.cut (f y));rw[List.foldl_cons];have hm:(e.cut (f y)).hi=min e.hi (f y).hi:=rfl;refine⟨by omega,fun x hx=>?_,?_⟩
  .rcases jN.1 hx with rfl|hx
   .omega
   .exact h2 x hx
  .rcases h3 with h3|⟨x,hx,h3⟩
   .rcases Int.le_total e.hi (f y).hi with h|h
    .left;omega
    .right;exact⟨y,by simp,by omega⟩
   .right;exact⟨x,by simp[hx],h3⟩
theorem Cr.ext' {a b:Cr}(h1:a.lo=b.lo)(h2:a.hi=b.hi):a=b:=by
 obtain⟨a1,a2⟩:=a;obtain⟨b1,b2⟩:=b;simp only at h1 h2;subst h1 h2;rfl
theorem ZqE {α:Type}{f:α->Cr}{l l':List α}{e:Cr}(h:∀x,x∈l↔x∈l'):l.foldl (fun r x=>r.cut (f x)) e=l'.foldl (fun r x=>r.cut (f x)) e:=by
 obtain⟨a1,a2,a3⟩:=WG f l e;obtain⟨b1,b2,b3⟩:=WG f l' e;obtain⟨c1,c2,c3⟩:=WE f l e;obtain⟨d1,d2,d3⟩:=WE f l' e;refine Cr.ext' ?_ ?_
 .rcases a3 with a3|⟨x,hx,a3⟩<;>rcases b3 with b3|⟨y,hy,b3⟩
  .omega
  .have:=a2 y ((h y).2 hy);omega
  .have:=b2 x ((h x).1 hx);omega
  .have:=a2 y ((h y).2 hy);have:=b2 x ((h x).1 hx);omega
 .rcases c3 with c3|⟨x,hx,c3⟩<;>rcases d3 with d3|⟨y,hy,d3⟩
  .omega
  .have:=c2 y ((h y).2 hy);omega
  .have:=d2 x ((h x).1 hx);omega
  .have:=c2 y ((h y).2 hy);have:=d2 x ((h x).1 hx);omega
def Bk.kD (b:Bk)(held:List Int)(S:Int->Cr)(item day below:Int):Cr:=
 if(b.item item).gU=true then(b.item item).val else((b.aA.filter fun c=>Bk.pT item day below c&&held.contains c.num).foldl (fun r c=>r.cut ((S c.num).wider ((b.item item).dR*(day-c.day)))) I3)
def Bk.FC (b:Bk)(held:List Int):Nat->Int->Cr
 |0,_=>⟨0,0⟩
 |k+1,n=>if n=(k:Int)then(if held.contains n=true then(b.kD held (b.FC held k) (b.get n).src (b.get n).day n).plus (b.get n).diff else⟨0,0⟩)else b.FC held k n
theorem Zep {b:Bk}{held:List Int}{k:Nat}{n:Int}:b.FC held (k+1) n=if n=(k:Int)then(if held.contains n=true then(b.kD held (b.FC held k) (b.get n).src (b.get n).day n).plus (b.get n).diff else⟨0,0⟩)else b.FC held k n:=rfl
theorem Zdo {b:Bk}{held:List Int}{S S':Int->Cr}{item day below:Int}(h:∀n,n<below->S n=S' n):b.kD held S item day below=b.kD held S' item day below:=by
 unfold Bk.kD;split
 .rfl
 .have key:∀(l:List Ct) (e:Cr),(∀c∈l,c.num<below)->l.foldl (fun r c=>r.cut ((S c.num).wider ((b.item item).dR*(day-c.day)))) e=l.foldl (fun r c=>r.cut ((S' c.num).wider ((b.item item).dR*(day-c.day)))) e:=by
   intro l;induction l with
   |nil=>exact fun _ _=>rfl
   |cons c l ih=>
    intro e hl;rw[List.foldl_cons,List.foldl_cons,h c.num (hl c (by simp)),ih _ fun x hx=>hl x (by simp[hx])]
  refine key _ _ fun c hc=>?_
  rw[iU]at hc
  have:=hc.2
  unfold Bk.pT at this;simp only[dJ,decide_eq_true_eq]at this;exact this.1.1
def Bk.span (b:Bk)(held:List Int)(n:Int):Cr:=b.FC held 1000 n
theorem Zdq {b:Bk}{held:List Int}{n:Int}:∀{k:Nat},n<(k:Int)->∀j,b.FC held (k+j) n=b.FC held k n
 |k,h,0=>rfl
 |k,h,j+1=>by
  rw[<-Nat.add_assoc,Zep,if_neg (by omega)];exact Zdq h j
theorem Ma {b:Bk}{held:List Int}{n:Nat}(hn:n<1000):b.span held n=if held.contains (n:Int)=true then(b.kD held (b.span held) (b.get n).src (b.get n).day n).plus (b.get n).diff else⟨0,0⟩:=by
 have e:b.span held n=b.FC held (n+1) n:=by
  unfold Bk.span;rw[show 1000=n+1+(1000-(n+1)) by omega];exact Zdq (by omega) _
 rw[e,Zep,if_pos rfl];split
 .congr 1;refine Zdo fun m hm=>?_
  unfold Bk.span;rw[show 1000=n+(1000-n) by omega];exact(Zdq hm _).symm
 .rfl
def Bk.contra (b:Bk):Bool:=b.aA.any fun c=>(b.held []).contains c.num&&decide ((b.kD (b.held []) (b.span (b.held [])) c.it c.day 1000).hi<(b.kD (b.held []) (b.span (b.held [])) c.it c.day 1000).lo)
section
attribute [local simp] aJ.bG Site.fP
theorem FV (n lo hi:Int):aD prog 167 [.i n,.i lo,.i hi] (.bool (iX n lo hi)):=by
 refine cS L167 ?_;by_cases h:lo<=n
 all_goals simp[h,L167,iX]
theorem yC (n lo hi:Int):aD prog 116 [.i n,.i lo,.i hi] (.bool (iX n lo hi)):=by
 refine cS L116 ?_;by_cases h:lo<=n
 all_goals simp[h,L116,iX]
theorem CY (n:Int):aD prog 154 [.i n] (.bool (iX n 0 1000)):=by
 refine cS L154 ?_;simp[L154];refine gF (k:=0) rfl rfl (FV n 0 1000) rfl ?_;simp
theorem ZkN (n:Int):aD prog 122 [.i n] (.bool (iX n 1 999)):=by
 refine cS L122 ?_;simp[L122];refine gF (k:=0) rfl rfl (FV n 1 999) rfl ?_;simp
theorem Zms (n:Int):aD prog 251 [.i n] (.bool (A1 n)):=by
 refine cS L251 ?_;simp[L251];refine gF (k:=0) rfl rfl (FV n (-100000) 100000) rfl ?_;simp[A1]
theorem Zkt (r:Cr):aD prog 203 [r.pv] (.bool r.okB):=by
 refine cS L203 ?_;simp[L203,Cr.pv];refine gF (k:=0) rfl rfl (Zms r.lo) rfl ?_;cases h1:A1 r.lo
 .simp[Cr.okB,h1]
 .simp;refine gF (k:=0) rfl rfl (Zms r.hi) rfl ?_;cases h2:A1 r.hi
  .simp[Cr.okB,h1,h2]
  .simp[Cr.okB,h1,h2]
theorem Zqh (x:It):aD prog 163 [x.pv] (.bool x.okB):=by
 obtain⟨d,s,lo,hi⟩:=x;refine cS L163 ?_;simp[L163,It.pv];refine gF (k:=0) rfl rfl (FV d 0 100) rfl ?_;cases h1:iX d 0 100
 .simp[It.okB,h1]
 .simp;refine gF (k:=0) rfl rfl (Zkt ⟨lo,hi⟩) rfl ?_;cases h2:Cr.okB ⟨lo,hi⟩
  .simp[It.okB,h1,h2]
  .cases s
   .simp[It.okB,h1,h2];rw[qS];simp
   .simp[It.okB,h1,h2]
theorem Xw (b:Bk)(n:Int)(h:b.items.length<=1000):aD prog 153 [b.pv,.i n] (.bool (b.uK n)):=by
 have hw:IntKind.i64.wrap ((b.items.length:Int)-1)=(b.items.length:Int)-1:=wrap64 (by omega);refine cS L153 ?_;simp[L153,Bk.pv,aT,hw];refine gF (k:=0) rfl rfl (FV n 0 ((b.items.length:Int)-1)) rfl ?_;simp[Bk.uK]
theorem Dz (c:Ct)(d:Int)(h:IntKind.i64.wrap (c.day+c.valid)=c.day+c.valid):aD prog 156 [c.pv,.i d] (.bool (c.on d)):=by
 refine cS L156 ?_;simp[L156,Ct.pv,h];refine gF (k:=0) rfl rfl (FV d c.day (c.day+c.valid)) rfl ?_;simp[Ct.on]
theorem Zfk (c:Ct)(d:Int)(h:IntKind.i64.wrap (c.day+c.valid)=c.day+c.valid):aD prog 75 [c.pv,.i d] (.bool (c.on d)):=by
 refine cS L75 ?_;simp[L75,Ct.pv,h];refine gF (k:=0) rfl rfl (yC d c.day (c.day+c.valid)) rfl ?_;simp[Ct.on]
theorem ZsU (c o:Ct)(h:IntKind.i64.wrap (o.day+o.valid)=o.day+o.valid):aD prog 140 [c.pv,o.pv] (.bool (yX c o)):=by
 refine cS L140 ?_;cases h1:decide (o.it=c.src)
 .simp[-decide_eq_true_eq,-decide_eq_false_iff_not,L140,Ct.pv,yX,h1]
 .cases h2:decide (o.num<c.num)
  .simp[-decide_eq_true_eq,-decide_eq_false_iff_not,L140,Ct.pv,yX,h1,h2]
  .simp[-decide_eq_true_eq,-decide_eq_false_iff_not,L140,Ct.pv,yX,h1,h2];refine gF (k:=0) rfl rfl (Zfk o c.day h) rfl ?_;simp
theorem Zm6 (r:Cr):aD prog 151 [r.pv] (.bool (iX r.lo (-100000) r.hi&&decide (r.hi<=100000))):=by
 refine cS L151 ?_;simp[L151,Cr.pv];refine gF (k:=0) rfl rfl (yC r.lo (-100000) r.hi) rfl ?_;cases h1:iX r.lo (-100000) r.hi
 .simp
 .simp[h1]
theorem LK (r:Cr):aD prog 287 [r.pv] (.i r.lo):=by
 refine cS L287 ?_;simp[L287,Cr.pv]
theorem ZrO (r:Cr):aD prog 288 [r.pv] (.i r.hi):=by
 refine cS L288 ?_;simp[L288,Cr.pv]
theorem ZrE (r o:Cr)(h1:IntKind.i64.wrap (r.lo+o.lo)=r.lo+o.lo)(h2:IntKind.i64.wrap (r.hi+o.hi)=r.hi+o.hi):aD prog 244 [r.pv,o.pv] (r.plus o).pv:=by
 have a1:=LK r;have a2:=LK o;have a3:=ZrO r;have a4:=ZrO o;refine cS L244 ?_;simp[L244,Cr.pv];refine AF (k:=0) rfl rfl a1 rfl ?_;simp;refine AF (k:=0) rfl rfl a2 rfl ?_;simp[h1];refine AF (k:=0) rfl rfl a3 rfl ?_;simp;refine gF (k:=0) rfl rfl a4 rfl ?_;simp[h2,Cr.plus]
theorem Zr9 (r:Cr)(n:Int)(h0:IntKind.i64.wrap (-n) = -n)(h1:IntKind.i64.wrap (r.lo + -n)=r.lo + -n)(h2:IntKind.i64.wrap (r.hi+n)=r.hi+n):aD prog 247 [r.pv,.i n] (r.wider n).pv:=by
 have a1:=ZrE r ⟨-n,n⟩ h1 h2;refine cS L247 ?_;simp[L247,Cr.pv,h0];refine .inl (cQ [] [r.pv,Cr.pv ⟨-n,n⟩] a1 ?_);simp[aM,Cr.wider,Cr.plus,Cr.pv]
theorem ZiL:aD prog 245 [] I3.pv:=by
 refine cS L245 ?_;simp[L245,I3,Cr.pv]
theorem Zuc (l:List PV)(g:FuncId)(fs cs:List PV)(q:PV->Bool)(hq:∀x∈l,aD prog g (fs++[x]++cs) (.bool (q x)))(hl:l.length<=1000000)(hc:∀x∈l,∃a t b c,x=.agg [.i a,.bool t,.i b,.i c]):
  aD prog 201 [.aF false 4 l,.fn g fs cs] (.bool (l.any q)):=
 wR 250 (SN (row:=true) hq hl (fun x hx=>by obtain⟨a,t,b,c,rfl⟩:=hc x hx;exact⟨_,rfl,rfl⟩))
theorem Zrr (x:PV)(g:FuncId)(fs cs:List PV)(b:Bool)(hx:∃a t b c,x=.agg [.i a,.bool t,.i b,.i c])(hq:aD prog g (fs++[x]++cs) (.bool b)):
  aD prog 202 [x,.ref [.fn g fs cs]] (.bool (!b)):=by
 obtain⟨a,t,b,c,rfl⟩:=hx;refine cS L202 ?_;simp[L202];refine gF (k:=0) rfl rfl hq rfl ?_;simp
theorem Zuh (l:List PV)(g:FuncId)(fs cs:List PV)(q:PV->Bool)(hq:∀x∈l,aD prog g (fs++[x]++cs) (.bool (q x)))(hl:l.length<=1000000)(hc:∀x∈l,∃a t b c,x=.agg [.i a,.bool t,.i b,.i c]):
  aD prog 162 [.aF false 4 l,.fn g fs cs] (.bool (l.all q)):=
 N9 201 202 (Zuc l 202 [] [.ref [.fn g fs cs]] (fun x=>!q x) (fun x hx=>Zrr x g fs cs (q x) (hc x hx) (hq x hx)) hl hc)
theorem Zo3 (l:List PV)(g:FuncId)(fs cs:List PV)(q:PV->Bool)(hq:∀x∈l,aD prog g (fs++[x]++cs) (.bool (q x)))(hl:l.length<=1000000)(hc:∀x∈l,∃a b c d e f h,x=.agg [.i a,.i b,.i c,.i d,.i e,.i f,.i h]):
  aD prog 72 [.aF false 7 l,.fn g fs cs] (.bool (l.any q)):=
 wR 111 (SN (row:=true) hq hl (fun x hx=>by obtain⟨a,b,c,d,e,f,h,rfl⟩:=hc x hx;exact⟨_,rfl,rfl⟩))
theorem Zrt (x:PV)(g:FuncId)(fs cs:List PV)(b:Bool)(hx:∃a b c d e f h,x=.agg [.i a,.i b,.i c,.i d,.i e,.i f,.i h])(hq:aD prog g (fs++[x]++cs) (.bool b)):
  aD prog 204 [x,.ref [.fn g fs cs]] (.bool (!b)):=by
 obtain⟨a,b,c,d,e,f,h,rfl⟩:=hx;refine cS L204 ?_;simp[L204];refine gF (k:=0) rfl rfl hq rfl ?_;simp
theorem Zui (l:List PV)(g:FuncId)(fs cs:List PV)(q:PV->Bool)(hq:∀x∈l,aD prog g (fs++[x]++cs) (.bool (q x)))(hl:l.length<=1000000)(hc:∀x∈l,∃a b c d e f h,x=.agg [.i a,.i b,.i c,.i d,.i e,.i f,.i h]):
  aD prog 164 [.aF false 7 l,.fn g fs cs] (.bool (l.all q)):=
 N9 72 204 (Zo3 l 204 [] [.ref [.fn g fs cs]] (fun x=>!q x) (fun x hx=>Zrt x g fs cs (q x) (hc x hx) (hq x hx)) hl hc)
theorem Zva (b:Bk)(c:Ct)(h:b.items.length<=1000):aD prog 165 [b.pv,c.pv] (.bool (b.uX c)):=by
 have n1:=ZkN c.num;have n2:=Xw b c.it h;have n3:=Xw b c.src h;have n4:=CY c.day;have n5:=CY c.valid;have n6:=Zkt c.diff;refine cS L165 ?_;simp[L165,Bk.pv,aT,aL,Ct.pv];refine gF (k:=0) rfl rfl n1 rfl ?_;cases e1:iX c.num 1 999
 .simp[Bk.uX,e1]
 simp;refine cG [b.pv,.i c.it] n2 ?_;cases e2:b.uK c.it
 .simp[Bk.uX,e1,e2]
 have hi:0<=c.it/\c.it<b.items.length:=by
  unfold Bk.uK iX at e2;simp only[dJ,decide_eq_true_eq]at e2;omega
 obtain⟨x,hx⟩:∃x,b.items[c.it.toNat]?=some x:=⟨b.items[c.it.toNat]'(by omega),bB _⟩;have UK:b.item c.it=x:=by unfold Bk.item;rw[hx];rfl
 have hg:(b.items.map It.pv)[c.it.toNat]?=some (.agg [.i x.dR,.bool x.gU,.i x.val.lo,.i x.val.hi]):=by rw[bW,hx];rfl
 obtain⟨k,hk⟩:∃k:Nat,c.it=k:=⟨c.it.toNat,by omega⟩;rw[hk]at hg hi;simp only[H7]at hg;have sH:k<b.items.length:=by omega
 simp[hk,↓hg];rcases Bool.eq_false_or_eq_true x.gU with e3|e3
 .simp[Bk.uX,e1,e2,UK,e3]
 simp[e3];refine cG [b.pv,.i c.src] n3 ?_;cases e4:b.uK c.src
 .simp[Bk.uX,e1,e2,UK,e3,e4]
 rcases Bool.eq_false_or_eq_true (decide (c.src=(k:Int)))with e5|e5
 .simp[-decide_eq_true_eq,-decide_eq_false_iff_not,Bk.uX,e1,e4,hk,e5]
 have e5':decide (c.src≠(k:Int))=true:=by simp at e5 ⊢;exact e5
 simp[-decide_eq_true_eq,-decide_eq_false_iff_not,e5];refine gF (k:=0) rfl rfl n4 rfl ?_;cases e6:iX c.day 0 1000
 .simp[Bk.uX,e1,e2,UK,e3,e4,e6]
 simp;refine gF (k:=0) rfl rfl n5 rfl ?_;cases e7:iX c.valid 0 1000
 .simp[Bk.uX,e1,e2,UK,e3,e4,e6,e7]
 simp;refine cG [c.diff.pv] n6 ?_;have EW:=e2;rw[hk]at EW UK;simp[-decide_eq_true_eq,-decide_eq_false_iff_not,Bk.uX,e1,EW,UK,e3,e4,e6,e7,hk,e5']
theorem Lc (a b:Int):aD prog 289 [.aF false 1 [.i a,.i b]] (.i (max a b)):=by
 have hm:aD prog 310 [.aF false 1 [.i a,.i b]] (.i (max a b)):=by
  refine cS L310 ?_;simp[L310];have Sy:(if a<b then b else a)=max a b:=by split<;>omega
  refine eO (fun n τ=>(n=1/\τ=⟨[(0,.pv (.aF false 1 [.i a,.i b])),(3,.pv (.i a)),(4,.pv (.i 1))],[]⟩)\/(n=0/\τ=⟨[(0,.pv (.aF false 1 [.i a,.i b])),(3,.pv (.i (max a b))),(4,.pv (.i 2))],[]⟩)) ⟨1,_,Sub.mk (by simp) (by simp),.inl ⟨rfl,rfl⟩⟩ ?_;rintro J hJ n τ (⟨rfl,rfl⟩|⟨rfl,rfl⟩)
  .have aB:=hJ _ _ (.inr ⟨rfl,rfl⟩);have hw:IntKind.i64.wrap 2=2:=rfl;clear hJ;simp[hw];exact⟨_,_,(by omega:0<1),Sub.mk (by simp[Sy]) (by simp),aB⟩
  .simp
 refine cS L289 ?_;simp[L289];refine cG [.aF false 1 [.i a,.i b]] hm ?_;simp
theorem Ztq (a b:Int):aD prog 290 [.aF false 1 [.i a,.i b]] (.i (min a b)):=by
 have hm:aD prog 311 [.aF false 1 [.i a,.i b]] (.i (min a b)):=by
  refine cS L311 ?_;simp[L311];have Sy:(if b<a then b else a)=min a b:=by split<;>omega
  refine eO (fun n τ=>(n=1/\τ=⟨[(0,.pv (.aF false 1 [.i a,.i b])),(3,.pv (.i a)),(4,.pv (.i 1))],[]⟩)\/(n=0/\τ=⟨[(0,.pv (.aF false 1 [.i a,.i b])),(3,.pv (.i (min a b))),(4,.pv (.i 2))],[]⟩)) ⟨1,_,Sub.mk (by simp) (by simp),.inl ⟨rfl,rfl⟩⟩ ?_;rintro J hJ n τ (⟨rfl,rfl⟩|⟨rfl,rfl⟩)
  .have aB:=hJ _ _ (.inr ⟨rfl,rfl⟩);have hw:IntKind.i64.wrap 2=2:=rfl;clear hJ;simp[hw];exact⟨_,_,(by omega:0<1),Sub.mk (by simp[Sy]) (by simp),aB⟩
  .simp
 refine cS L290 ?_;simp[L290];refine cG [.aF false 1 [.i a,.i b]] hm ?_;simp
end
section
attribute [local simp] AS.exp jT aJ.iR AV.map AV.iM rE dO Site.uJ aJ.dC AV.dC AV.gW aU cO AS.lT eZ gG bX oW kA mQ gI q9
attribute [local simp] aJ.bG Site.fP
section
attribute [local simp] aM oE nO iN AS.cD AV.cD AV.aY aJ.cD AS.tidy AS.b8
theorem Zqg (c:Ct)(n:Int):aD prog 73 [c.pv,.ref [.i n]] (.bool (decide (c.num=n))):=by
 refine cS L73 ?_;simp[L73,Ct.pv]
theorem Yl (l:List Ct)(n:Int)(b c d e:PV)(hl:l.length<=1000):cR prog 34 [.ptr (.par 0) 0,.pv (.i n)] [(.par 0,aO (.aF false 7 (l.map Ct.pv)) b c d e)] (fun r B=>r=.pv (.bool (l.any fun x=>decide (x.num=n)))/\B=[(.par 0,aO (.aF false 7 (l.map Ct.pv)) b c d e)]):=by
 refine cB [.par 0] L34 ?_;simp[L34,aO];have IE:=Zo3 (l.map Ct.pv) 73 [] [.ref [.i n]] (fun x=>match x with
  |.agg (.int _ a::_)=>decide (a=n)
  |_=>false) (fun x hx=>by
   obtain⟨y,_,rfl⟩:=iI.1 hx;exact Zqg y n) (by rw[fV];omega) (fun x hx=>by
   obtain⟨y,_,rfl⟩:=iI.1 hx;exact⟨_,_,_,_,_,_,_,rfl⟩)
 rw[List.any_map]at IE;refine .inl (cQ [.loc 3 0] [.aF false 7 (l.map Ct.pv),.fn 73 [] [.ref [.i n]]] IE ?_);simp[Function.comp_def,Ct.pv]
theorem Xq (l:List Lt)(n:Int)(a b d e:PV)(hs:(l.map Lt.num).Pairwise (·<·))(hl:l.length<=1000)(hw:∀y∈l,IntKind.i64.wrap (y.num-n)=y.num-n):cR prog 236 [.ptr (.par 0) 0,.pv (.i n)] [(.par 0,aO a b (.aF false 4 (l.map Lt.pv)) d e)] (fun r B=>r=.pv (.bL [.i (dI (l.map Lt.num) n),.bool (decide (n∈l.map Lt.num))])/\B=[(.par 0,aO a b (.aF false 4 (l.map Lt.pv)) d e)]):=by
 refine cB [.par 0] L236 ?_;simp[L236,aO];refine .inl (cQ [] [.aF false 4 (l.map Lt.pv),.i n,.fn 282 [] []] (Zmb l n hs (by omega) hw) ?_);simp[-List.mem_map];simp
end
end
section
attribute [local simp] aJ.bG Site.fP
def Dx (r o:Cr):AS:=⟨[(4,.ptr (.loc 4 0) 0),(10,.pv (.i (max r.lo o.lo))),(15,.vec (.loc 15 0) 1 0 2)],[(.loc 15 0,.arr 3 1 [.i r.hi,.i o.hi]),(.loc 4 0,.cells [.pv (.i 0),.pv (.i 0)])]⟩
theorem Dw (r o:Cr):aD prog 246 [r.pv,o.pv] (r.cut o).pv:=by
 have a1:=Lc r.lo o.lo;have a2:=Ztq r.hi o.hi;refine cS L246 ?_;simp[L246,Cr.pv];refine JQ (Dx r o) ?_ ?_
 .simp[gO,gY]
  repeat' (with_reducible refine And.intro ?_ ?_)
  all_goals trace_state
  all_goals refine AF (k:=1) (fs:=[]) (xs:=[.aF false 1 [.i r.lo,.i o.lo]]) (cs:=[]) rfl rfl a1 rfl ?_
  all_goals simp[gO,gY]
  all_goals refine Sub.mk ?_ ?_
  all_goals simp
 .simp[gO,gY,Dx];refine gF (k:=1) (fs:=[]) (xs:=[.aF false 1 [.i r.hi,.i o.hi]]) (cs:=[]) rfl rfl a2 rfl ?_;simp[gO,gY,Cr.cut]
end
theorem Sub.cD {σ:AS}(fz:List Site):Sub (aM fz σ) σ:=fun _ _ _ _ ρ _ _ _ hS=>let ⟨m',_,h⟩:=hS.aM fz;⟨ρ,m',h⟩
abbrev kI:KT:=⟨false,[.int .i64]⟩
theorem Zoo {a b:Int}:gR (.i a) (.i b)=decide (a=b):=by
 show((a==b)&&true)=_;rw[Bool.and_true,qS];simp
theorem ZrT {a b:Ct}:gR a.pv b.pv=decide (a=b):=by
 obtain⟨a1,a2,a3,a4,a5,a6,a7⟩:=a;obtain⟨b1,b2,b3,b4,b5,b6,b7⟩:=b;rw[qS];simp[gR,lP,wK,Ct.pv,PV.cells]
def nR {α:Type}(f:α->Int)(g:α->PV)(l:List α):List (PV×PV):=l.map fun c=>(.i (f c),g c)
theorem NY {α:Type}{f:α->Int}{g:α->PV}{l:List α}:zZ kI (nR f g l)=true:=by
 unfold zZ nR;rw[rC];intro p hp;obtain⟨c,_,rfl⟩:=iI.1 hp;rfl
theorem JV {α:Type}{f:α->Int}{g:α->PV}{n:Int}:∀{l:List α},eX (.i n) (nR f g l)=(l.find? fun c=>decide (f c=n)).map g
 |[]=>rfl
 |c::r=>by
  have ih:=JV (f:=f) (g:=g) (n:=n) (l:=r);unfold nR at ih ⊢;rw[iL,eX,Zoo,List.find?_cons];by_cases h:n=f c
  .rw[decide_eq_true h,decide_eq_true h.symm];rfl
  .rw[decide_eq_false h,decide_eq_false (fun e=>h e.symm)];exact ih
theorem Gt {α:Type}{f:α->Int}{g:α->PV}{n:Int}{v:PV}:∀{l:List α},(∀c∈l,f c≠n)->mK (.i n) v (nR f g l)=nR f g l++[(.i n,v)]
 |[],_=>rfl
 |c::r,h=>by
  have ih:=Gt (f:=f) (g:=g) (n:=n) (v:=v) (l:=r) (fun x hx=>h x (by simp[hx]));unfold nR at ih ⊢;rw[iL,mK,Zoo,decide_eq_false (fun e=>h c (by simp) e.symm)];show _::mK _ _ _=_;rw[ih];rfl
def wS (acc:List Ct)(c:Ct):List Ct:=match acc.find? (fun o=>decide (o.num=c.num))with
 |some _=>acc
 |none=>acc++[c]
def Bk.fst (b:Bk)(k:Nat):List Ct:=(b.aA.take k).foldl wS []
def oQ (l:List Ct):List (PV×PV):=nR Ct.num Ct.pv l
theorem Gl {b:Bk}{k:Nat}{c:Ct}(h:b.aA[k]?=some c):b.fst (k+1)=wS (b.fst k) c:=by
 unfold Bk.fst;rw[mJ,h,List.foldl_append];rfl
theorem Zp6 {acc:List Ct}{c x:Ct}(h:x∈wS acc c):x∈acc\/x=c:=by
 unfold wS at h;split at h
 .exact .inl h
 .simpa using h
theorem WQ {b:Bk}:∀k,∀x∈b.fst k,x∈b.aA.take k
 |0,x,h=>by cases h
 |k+1,x,h=>by
  cases hc:b.aA[k]? with
  |none=>
   rw[List.getElem?_eq_none_iff]at hc;unfold Bk.fst at h;rw[fO (by omega)]at h ⊢
   have:=WQ (b:=b) k x (by unfold Bk.fst;rw[fO (by omega)];exact h)
   rwa [fO (by omega)]at this
  |some c=>
   rw[Gl hc]at h;rw[mJ,hc,sI];rcases Zp6 h with h|h
   .exact .inl (WQ k x h)
   .right;simp[h]
theorem Nl {b:Bk}:∀k,(b.fst k).Pairwise (fun x y=>x.num≠y.num)
 |0=>List.Pairwise.nil
 |k+1=>by
  cases hc:b.aA[k]? with
  |none=>
   rw[List.getElem?_eq_none_iff]at hc
   have:=Nl (b:=b) k
   unfold Bk.fst at this ⊢;rw[fO (by omega)]at this ⊢;exact this
  |some c=>
   rw[Gl hc];unfold wS;split
   .exact Nl k
   .rename_i h;rw[List.find?_eq_none]at h;rw[List.pairwise_append];refine⟨Nl k,by simp,fun x hx y hy=>?_⟩;simp at hy;subst hy;simpa using h x hx
def Bk.same (b:Bk)(k:Nat):Prop:=∀c∈b.aA.take k,c∈b.fst k
theorem Zia {b:Bk}{k:Nat}{c:Ct}(h:b.aA[k]?=some c)(hs:b.same k)(hf:∀o,(b.fst k).find? (fun o=>decide (o.num=c.num))=some o->o=c):b.same (k+1):=by
 intro x hx;rw[mJ,h,sI]at hx;rw[Gl h];unfold wS;cases ho:(b.fst k).find? (fun o=>decide (o.num=c.num))with
 |none=>
  rcases hx with hx|hx
  .simp[hs x hx]
  .simp at hx;simp[hx]
 |some o=>
  rcases hx with hx|hx
  .exact hs x hx
  .simp at hx;subst hx
   have:=hf o ho
   subst this;exact List.mem_of_find?_eq_some ho
theorem Zm0 {b:Bk}(h1:∀c∈b.aA,1<=c.num/\c.num<=999)(hs:b.same b.aA.length):kR ((b.fst b.aA.length).map Ct.num)=b.nums/\(∀x∈b.aA,∀y∈b.aA,x.num=y.num->x=y):=by
 have kG:=WQ (b:=b) b.aA.length;unfold Bk.same at hs;rw[nF]at hs kG;have pX:=Nl (b:=b) b.aA.length;refine⟨?_,fun x hx y hy e=>?_⟩
 .refine Yj ?_ TH (fun x=>?_)
  .have h1:=ZcM ((b.fst b.aA.length).map Ct.num);have h2:(kR ((b.fst b.aA.length).map Ct.num)).Nodup:=by
    rw[(Hf _).nodup_iff];exact List.pairwise_map.2 pX
   exact(h1.and h2).imp (fun{a c} h=>by have:=h.2;omega)
  .rw[(Hf _).mem_iff];unfold Bk.nums;simp only[iI,iU,List.mem_range,oU,decide_eq_true_eq];constructor
   .rintro⟨c,hc,rfl⟩;have hb:=h1 c (kG c hc);exact⟨c.num.toNat,⟨by omega,c,kG c hc,by omega⟩,by show((c.num.toNat:Nat):Int)=c.num;omega⟩
   .rintro⟨n,⟨_,c,hc,e⟩,rfl⟩;exact⟨c,hs c hc,e⟩
 .have hp:∀{l:List Ct},l.Pairwise (fun x y=>x.num≠y.num)->∀x∈l,∀y∈l,x.num=y.num->x=y:=by
   intro l hl;induction hl with
   |nil=>intro x hx;cases hx
   |cons h _ ih=>
    intro x hx y hy e;rcases jN.1 hx with e1|X0<;>rcases jN.1 hy with e2|ZW
    .rw[e1,e2]
    .subst e1;exact absurd e (h y ZW)
    .subst e2;exact absurd e.symm (h x X0)
    .exact ih x X0 y ZW e
  exact hp pX x (hs x hx) y (hs y hy) e
theorem Zmv {b:Bk}{x y:Ct}(hx:x∈b.aA)(hy:y∈b.aA)(e:x.num=y.num)(dA:x≠y):b.zY=true:=by
 unfold Bk.zY;rw[oU];refine⟨x,hx,?_⟩;rw[oU];exact⟨y,hy,by simp[e,dA]⟩
theorem Zmw {b:Bk}{x y:Ct}(hx:x∈b.aA)(hy:y∈b.aA)(e:y.num<x.num)(hd:x.day<y.day):b.zY=true:=by
 unfold Bk.zY;rw[oU];refine⟨x,hx,?_⟩;rw[oU];exact⟨y,hy,by simp[e,hd]⟩
theorem Zs7 {b:Bk}(h1:∀x∈b.aA,∀y∈b.aA,x.num=y.num->x=y)(h2:∀x∈b.aA,∀y∈b.aA,y.num<x.num->y.day<=x.day):b.zY=false:=by
 cases h:b.zY
 .rfl
 .unfold Bk.zY at h;rw[oU]at h;obtain⟨x,hx,h⟩:=h;rw[oU]at h;obtain⟨y,hy,h⟩:=h;simp only[rV,dJ,decide_eq_true_eq]at h;rcases h with⟨e,h⟩|⟨e,h⟩
  .exact absurd (h1 x hx y hy e) h
  .have:=h2 x hx y hy e;omega
theorem ZtS {l:List Int}(f:Int->Int)(hs:l.Pairwise (·<·))(h:∀(i:Nat) (x y:Int),l[i]?=some x->l[i+1]?=some y->f x<=f y):∀x∈l,∀y∈l,y<x->f y<=f x:=by
 induction hs with
 |nil=>intro x hx;cases hx
 |@cons a r ha hr ih=>
  have ih':=ih (fun i x y h1 h2=>h (i+1) x y (by simpa using h1) (by simpa using h2));have first:∀x∈r,f a<=f x:=by
   intro x hx;cases r with
   |nil=>cases hx
   |cons c t=>
    have hac:=h 0 a c rfl rfl;rcases jN.1 hx with rfl|rP
    .exact hac
    .have h2:=(H8.1 hr).1 x rP
     have:=ih' x (by simp[rP]) c (by simp) h2
     omega
  intro x hx y hy e;rcases jN.1 hx with e1|X0<;>rcases jN.1 hy with e2|ZW
  .omega
  .have:=ha y ZW;omega
  .rw[e2];exact first x X0
  .exact ih' x X0 y ZW e
structure xD (b:Bk)(es:List (PV×PV)):Prop where
 k:zZ kI es=true
 f:∀n:Int,eX (.i n) es=if n∈b.nums then some (b.get n).pv else none
theorem ZoE {b:Bk}(hb:b.ok)(hs:b.same b.aA.length):xD b (oQ (b.fst b.aA.length)):=by
 refine⟨NY,fun n=>?_⟩;have kG:=WQ (b:=b) b.aA.length;unfold Bk.same at hs;rw[nF]at hs kG;unfold oQ;rw[JV];cases hf:(b.fst b.aA.length).find? (fun c=>decide (c.num=n))with
 |none=>
  rw[if_neg]
  .rfl
  .intro hn;obtain⟨c,hc,e⟩:=(s8 hb).1 hn;rw[List.find?_eq_none]at hf;exact absurd e (by simpa using hf c (hs c hc))
 |some c=>
  have h1:=kG c (List.mem_of_find?_eq_some hf);have h2:=List.find?_some hf;simp only[decide_eq_true_eq]at h2;subst h2;rw[if_pos ((s8 hb).2 ⟨c,h1,rfl⟩),r9 hb h1];rfl
section
attribute [local simp] aJ.bG Site.fP
theorem ZjX {P:Program}{f:FuncId}{xs:List PV}{y:PV}(hc:jM P f)(h:∀(w:World) (m:Mem) (vs:Array Value),vs.size=xs.length->(∀(j:Nat) (d:Value) (c:PV),vs[j]?=some d->xs[j]?=some c->dG m d c)->Calls P f vs w (fun e w'=>(∃v,e=.returned v/\dG m v y)/\w'=w)):aD P f xs y:=by
 refine⟨hc,fun w m ρ vs hB ⟨hm,_⟩ fH lG=>(h w m vs (by simpa using fH) (fun j d c k1 k2=>(lG j d (.pv c) k1 (by rw[bW,k2];rfl)).nG)).mono ?_⟩;rintro e w' ⟨⟨v,rfl,hv⟩,rfl⟩;exact⟨v,.pv y,[],ρ,m,rfl,⟨rfl,rfl⟩,vA.nil _ _ _,Le.refl m,hm,fun _=>rfl,fun s b k hs=>by simp[List.lookup]at hs,fun b o v h=>.inl h,.pv _ _ hv,cW.tI _ _⟩
theorem Zvc (x:Int)(h0:0<=x)(h1:x<=18446744073709551615):aD prog 206 [.int .u64 x] (.i (Lib.bitLen x.toNat)):=by
 refine ZjX ⟨_,_,func206,by decide +kernel,rfl⟩ (fun w m vs fH lG=>?_);obtain⟨v,rfl⟩:∃v,vs=#[v]:=by
  match vs,fH with
  |⟨[v]⟩,_=>exact⟨v,rfl⟩
 have hv:=lG 0 v _ rfl rfl;cases hv;have hD:∀D,_:=fun D=>AnyS.bits_LenInS { Zxh with } D x w h0 h1
 have:=calls_of_every_depth hD
 refine this.mono ?_;rintro e w' ⟨rfl,rfl⟩;exact⟨⟨_,rfl,.int _ _⟩,rfl⟩
theorem Zqi:aD prog 252 [.emp (some true),.i 0,.i 0] (.bL []):=by
 refine cS L252 ?_;have G3:IntKind.i64.wrap 1=1:=rfl;simp[L252,G3];refine eO (fun n τ=>n=0/\τ=⟨[(0,.pv (.emp (some true))),(1,.pv (.i 0)),(2,.pv (.i 0)),(6,.pv (.i 1))],[]⟩) ⟨0,_,Sub.mk (by simp) (by simp),rfl,rfl⟩ ?_;rintro J hJ n τ ⟨rfl,rfl⟩;simp
theorem ZuD (m:Int):aD prog 205 [.emp (some true),.i 0,.i 0,.i m] (.bL []):=by
 refine cS L205 ?_;have G3:IntKind.i64.wrap 0=0:=rfl;simp[L205];refine eO (fun n τ=>n=0/\τ=⟨[(0,.pv (.emp (some true))),(1,.pv (.i 0)),(2,.pv (.i 0))],[]⟩) ⟨0,_,Sub.mk (by simp) (by simp),rfl,rfl⟩ ?_;rintro J hJ n τ ⟨rfl,rfl⟩;simp[G3];refine cG [.emp (some true),.i 0,.i 0] Zqi ?_;simp
theorem Zst:aD prog 166 [.emp (some true)] (.bL []):=by
 refine cS L166 ?_;have G3:IntKind.u64.wrap 0=0:=rfl;simp[L166,G3];refine cG [.int .u64 0] (Zvc 0 (by omega) (by omega)) ?_;simp;refine cG [.emp (some true),.i 0,.i 0,.i (Lib.bitLen (0:Int).toNat)] (ZuD _) ?_;simp
end
section
attribute [local simp] aJ.bG Site.fP
attribute [local simp] AS.exp jT aJ.iR AV.map AV.iM dO Site.uJ aJ.dC AV.dC AV.gW
def aW (b:Bk)(m:Site)(Z:List AV):List AV:=.pv (aT b.items)::.pv (aL b.aA)::.mp m::.pv (.aF false 1 (b.nums.map aN))::Z
def mD:List AV:=List.replicate 1000 (.pv (.bool false))
def Bk.cells (b:Bk):List AV:=[.pv (aT b.items),.pv (aL b.aA)]
def KY (b:Bk)(k:Nat):AS:=⟨[(1,.ptr (.loc 1 0) 0),(4,.ptr (.loc 38 0) 0),(40,.pv (aL b.aA)),(41,.pv (.i b.aA.length)),(42,.pv (.i k))],
 [(.loc 79 0,.arr 3 1 ((b.fst k).map fun c=>aN c.num)),(.loc 38 0,.cells (.pv (aT b.items)::.pv (aL b.aA)::.mp (.loc 36 0)::.vec (.loc 79 0) 1 0 (b.fst k).length::mD)),(.loc 36 0,.map (oQ (b.fst k))),(.loc 1 0,.cells b.cells)]⟩
def rdR (b:Bk)(r:AV)(B:List (Site×aJ)):Prop:=
 (b.fault≠0/\r=.pv (.bL [.eU,.i b.fault])/\B=[])\/
 (b.fault=0/\∃es,xD b es/\r=.bL [.ptr (.ret 0) 0,.pv (.i 0)]/\B=[(.ret 0,.cells (aW b (.ret 1) mD)),(.ret 1,.map es)])
theorem Zqr {d n:Nat}{x:AV}(h:x.has d=false):AV.qT d (List.replicate n x)=false:=by
 induction n with
 |zero=>rfl
 |succ n ih=>rw[List.replicate_succ];simp only[AV.qT,h,ih];rfl
theorem Zo4 {q:Site->Bool}{n:Nat}{x:AV}(h:x.dC q=true):AV.gW q (List.replicate n x)=true:=by
 induction n with
 |zero=>rfl
 |succ n ih=>rw[List.replicate_succ];simp only[AV.gW,h,ih];rfl
theorem Zlw:List.replicate 1000 (AV.pv (.bool false))=mD:=rfl
theorem Zlv (d:Nat):AV.qT d mD=false:=Zqr rfl
theorem Zlx (q:Site->Bool):AV.gW q mD=true:=Zo4 rfl
theorem XO (d:Nat):mD.map (AV.bG d)=mD:=List.map_replicate
theorem Zq9:mD.length=1000:=List.length_replicate
theorem Zp7 {g:Site->Site}{n:Nat}{x:PV}:AV.iM g (List.replicate n (.pv x))=List.replicate n (.pv x):=by
 induction n with
 |zero=>rfl
 |succ n ih=>rw[List.replicate_succ];simp only[AV.iM,AV.map,ih]
theorem Zlu (g:Site->Site):AV.iM g mD=mD:=Zp7
theorem bN {k:Nat}(h:k<=1000000):IntKind.i64.wrap ((k:Int)+1)=((k+1:Nat):Int):=by rw[wrap64 (by omega)];omega
theorem Zd {b:Bk}:∀k,(b.fst k).length<=k
 |0=>fG _
 |k+1=>by
  have ih:=Zd (b:=b) k;cases hc:b.aA[k]? with
  |none=>
   rw[List.getElem?_eq_none_iff]at hc;unfold Bk.fst at ih ⊢;rw[fO (by omega)]at ih ⊢;omega
  |some c=>
   rw[Gl hc];unfold wS;split
   .omega
   .rw[gD];simp;omega
theorem Ze {b:Bk}(h1:∀x∈b.aA,∀y∈b.aA,x.num=y.num->x=y){c:Ct}(hc:c∈b.aA):b.get c.num=c:=by
 unfold Bk.get;cases hf:b.aA.find? (fun x=>decide (x.num=c.num))with
 |none=>
  rw[List.find?_eq_none]at hf
  have:=hf c hc
  simp at this
 |some x=>
  have k1:=List.mem_of_find?_eq_some hf;have k2:=List.find?_some hf;simp only[decide_eq_true_eq]at k2;exact h1 x k1 c hc k2
theorem Zfv {b:Bk}(h1:∀c∈b.aA,1<=c.num/\c.num<=999){x:Int}:x∈b.nums↔∃c∈b.aA,c.num=x:=by
 unfold Bk.nums;simp only[iI,iU,List.mem_range,oU,decide_eq_true_eq];constructor
 .rintro⟨n,⟨_,c,hc,e⟩,rfl⟩;exact⟨c,hc,e⟩
 .rintro⟨c,hc,rfl⟩;have hb:=h1 c hc;exact⟨c.num.toNat,⟨by omega,c,hc,by omega⟩,by show((c.num.toNat:Nat):Int)=c.num;omega⟩
theorem Zqw {b:Bk}(h1:∀c∈b.aA,1<=c.num/\c.num<=999)(h2:∀x∈b.aA,∀y∈b.aA,x.num=y.num->x=y)(hs:b.same b.aA.length){n:Int}(hn:n∈b.nums):eX (.i n) (oQ (b.fst b.aA.length))=some (b.get n).pv/\(b.get n).num=n/\b.get n∈b.aA:=by
 obtain⟨c,hc,rfl⟩:=(Zfv h1).1 hn;rw[Ze h2 hc];refine⟨?_,rfl,hc⟩;have kG:=WQ (b:=b) b.aA.length;unfold Bk.same at hs;rw[nF]at hs kG;unfold oQ;rw[JV];cases hf:(b.fst b.aA.length).find? (fun x=>decide (x.num=c.num))with
 |none=>
  rw[List.find?_eq_none]at hf
  have:=hf c (hs c hc)
  simp at this
 |some x=>
  have k1:=kG x (List.mem_of_find?_eq_some hf);have k2:=List.find?_some hf;simp only[decide_eq_true_eq]at k2;rw[h2 x k1 c hc k2];rfl
def TW (b:Bk)(es:List (PV×PV))(k:Nat):AS:=⟨[(1,.ptr (.loc 1 0) 0),(4,.ptr (.loc 38 0) 0),(91,.pv (.aF false 1 (b.nums.map aN))),(92,.pv (.i b.nums.length)),(93,.pv (.i k))],
 [(.loc 38 0,.cells (aW b (.loc 36 0) mD)),(.loc 36 0,.map es),(.loc 1 0,.cells b.cells)]⟩
theorem Zra {s:Site}{n:Nat}{xs:List PV}:AV.aY s n xs mD=mD:=by
 have:∀k,AV.aY s n xs (List.replicate k (.pv (.bool false)))=List.replicate k (.pv (.bool false)):=fun k=>by
  induction k with
  |zero=>rfl
  |succ k ih=>rw[List.replicate_succ];simp only[AV.aY,AV.cD,ih]
 exact this 1000
theorem Zf6 {b:Bk}(h:b.xK=true):b.fault=3:=by unfold Bk.fault;rw[if_pos h]
theorem Zf7 {b:Bk}(h0:b.xK=false)(h:b.bad=true):b.fault=1:=by unfold Bk.fault;rw[if_neg (by simp[h0]),if_pos h]
theorem Zf5 {b:Bk}(h0:b.xK=false)(h1:b.bad=false)(h:b.zY=true):b.fault=6:=by unfold Bk.fault;rw[if_neg (by simp[h0]),if_neg (by simp[h1]),if_pos h]
theorem Gx {b:Bk}(h0:b.xK=false)(h1:b.bad=false)(h:b.zY=false):b.fault=0:=by unfold Bk.fault;rw[if_neg (by simp[h0]),if_neg (by simp[h1]),if_neg (by simp[h])]
def itQ:PV->Bool
 |.agg [.int _ d,.bool t,.int _ lo,.int _ hi]=>It.okB ⟨d,t,⟨lo,hi⟩⟩
 |_=>false
def ctQ (b:Bk):PV->Bool
 |.agg [.int _ n,.int _ i,.int _ s,.int _ d,.int _ v,.int _ lo,.int _ hi]=>b.uX ⟨n,i,s,d,v,⟨lo,hi⟩⟩
 |_=>false
theorem Ra (b:Bk)(hi:b.items.length<=1000):aD prog 162 [aT b.items,.fn 163 [] []] (.bool (b.items.all It.okB)):=by
 have a1:=Zuh (b.items.map It.pv) 163 [] [] itQ (fun x hx=>by
  obtain⟨y,_,rfl⟩:=iI.1 hx;exact Zqh y) (by rw[fV];omega) (fun x hx=>by
  obtain⟨y,_,rfl⟩:=iI.1 hx;exact⟨_,_,_,_,rfl⟩)
 rw[List.all_map]at a1;exact a1
theorem Wb (b:Bk)(hi:b.items.length<=1000)(hc:b.aA.length<=1000):aD prog 164 [aL b.aA,.fn 165 [b.pv] []] (.bool (b.aA.all b.uX)):=by
 have a1:=Zui (b.aA.map Ct.pv) 165 [b.pv] [] (ctQ b) (fun x hx=>by
  obtain⟨y,_,rfl⟩:=iI.1 hx;exact Zva b y hi) (by rw[fV];omega) (fun x hx=>by
  obtain⟨y,_,rfl⟩:=iI.1 hx;exact⟨_,_,_,_,_,_,_,rfl⟩)
 rw[List.all_map]at a1;exact a1
theorem Fa (b:Bk)(hi:b.items.length<=1000)(hc:b.aA.length<=1000):cR prog 121 [.pv b.pv] [] (rdR b):=by
 have a1:=Ra b hi;have a2:=Wb b hi hc;refine cE L121 ?_;generalize hR:rdR b=R;have vG:∀e:Int,b.fault=e->e≠0->R (.pv (.bL [.eU,.i e])) []:=fun e h h0=>by
  rw[<-hR];exact .inl ⟨by rw[h];exact h0,by rw[h],rfl⟩
 by_cases c1:8<b.items.length
 .have d1:decide ((8:Int)<(b.items.length:Int))=true:=by simp;omega
  have:=vG 3 (Zf6 (by simp[Bk.xK,c1])) (by omega)
  simp[-List.reduceReplicate,-decide_eq_true_eq,-decide_eq_false_iff_not,L121,Bk.pv,aT,aL,d1];exact⟨[],by simpa[aU,rE]using this⟩
 have d1:decide ((8:Int)<(b.items.length:Int))=false:=by simp;omega
 by_cases c2:24<b.aA.length
 .have d2:decide ((24:Int)<(b.aA.length:Int))=true:=by simp;omega
  have:=vG 3 (Zf6 (by simp[Bk.xK,c2])) (by omega)
  simp[-List.reduceReplicate,-decide_eq_true_eq,-decide_eq_false_iff_not,L121,Bk.pv,aT,aL,d1,d2];exact⟨[],by simpa[aU,rE]using this⟩
 have d2:decide ((24:Int)<(b.aA.length:Int))=false:=by simp;omega
 have qP:b.xK=false:=by simp[Bk.xK];omega
 simp[-List.reduceReplicate,-decide_eq_true_eq,-decide_eq_false_iff_not,L121,Bk.pv,aT,aL,d1,d2];refine gF (k:=4) (fs:=[]) (xs:=[aT b.items,.fn 163 [] []]) (cs:=[]) rfl rfl a1 rfl ?_;cases e1:b.items.all It.okB
 .have:=vG 1 (Zf7 qP (by simp only[Bk.bad,e1];rfl)) (by omega)
  simp[-List.reduceReplicate];exact⟨[],by simpa[aU,rE]using this⟩
 simp[-List.reduceReplicate];refine gF (k:=4) (fs:=[]) (xs:=[aL b.aA,.fn 165 [b.pv] []]) (cs:=[]) rfl rfl a2 rfl ?_;cases e2:b.aA.all b.uX
 .have:=vG 1 (Zf7 qP (by simp only[Bk.bad,e1,e2];rfl)) (by omega)
  simp[-List.reduceReplicate];exact⟨[],by simpa[aU,rE]using this⟩
 have lO:b.bad=false:=by simp only[Bk.bad,e1,e2];rfl
 simp[-List.reduceReplicate,Zlw,Zlw,Zlv,Zq9];by_cases dA:b.aA=[]
 .have xF:b.nums=[]:=by unfold Bk.nums;rw[dA];simp
  have X2:b.zY=false:=by unfold Bk.zY;rw[dA];rfl
  have hs:b.same b.aA.length:=by intro c sU;rw[dA]at sU;simp at sU
  have rT:=ZoE (Bk.U6.1 (Gx qP lO X2)) hs;have kZ:oQ (b.fst b.aA.length)=[]:=by unfold Bk.fst;rw[dA];rfl
  rw[kZ]at rT;have x4:b.aA.length=0:=by rw[dA];rfl
  have YO:R (.bL [.ptr (.ret 0) 0,.pv (.i 0)]) [(.ret 0,.cells (aW b (.ret 1) mD)),(.ret 1,.map [])]:=by
   rw[<-hR];exact .inr ⟨Gx qP lO X2,_,rT,rfl,rfl⟩
  refine eO (fun n τ=>n=0/\τ=⟨[(1,.ptr (.loc 1 0) 0),(4,.ptr (.loc 38 0) 0),(41,.pv (.i 0)),(42,.pv (.i 0))],
   [(.loc 38 0,.cells (.pv (aT b.items)::.pv (aL b.aA)::.mp (.loc 36 0)::.pv (.emp (some true))::mD)),(.loc 36 0,.map []),(.loc 1 0,.cells b.cells)]⟩) ⟨0,_,Sub.mk (by simp[x4]) (by simp[Bk.cells,aT,aL]),rfl,rfl⟩ ?_
  rintro J hJ n τ ⟨rfl,rfl⟩;clear hJ;simp;refine cG [.emp (some true)] Zst ?_;simp;refine eO (fun n τ=>n=0/\τ=⟨[(1,.ptr (.loc 1 0) 0),(4,.ptr (.loc 38 0) 0),(92,.pv (.i 0)),(93,.pv (.i 0))],[(.loc 38 0,.cells (aW b (.loc 36 0) mD)),(.loc 36 0,.map []),(.loc 1 0,.cells b.cells)]⟩) ⟨0,_,Sub.trans' (Sub.mk (by simp) (by simp[aW,Bk.cells,xF])) (Sub.aW (s:=.loc 38 0) (i:=3) (ax:=.pv (aT b.items)::.pv (aL b.aA)::.mp (.loc 36 0)::.pv (.emp (some true))::mD) (a:=.pv (.emp (some true))) (.pv (.aF false 1 [])) (by simp) rfl (KM fun m v h=>AB h)),rfl,rfl⟩ ?_;rintro J hJ n τ ⟨rfl,rfl⟩;simp[aW,xF];refine⟨[.loc 38 0,.loc 36 0],?_⟩;simp[aU,rE,Zlx,Zlu];unfold aW at YO;rw[xF]at YO;exact YO
 refine eO (fun n τ=>∃k:Nat,k<=b.aA.length/\n=b.aA.length-k/\b.same k/\τ=KY b k) ⟨b.aA.length,KY b 0,Sub.trans' (Sub.mk (by simp[AS.lY,aL]) (by simp[AS.lY,Bk.cells,aT,aL,Bk.fst,oQ,nR,XO,Zlv]))
  (lY 79 3 1 (s:=.loc 38 0) (cs:=.pv (.aF false 4 (b.items.map It.pv))::.pv (.aF false 7 (b.aA.map Ct.pv))::.mp (.loc 36 0)::.pv (.emp (some true))::mD) 3 (by simp[XO]) rfl (by decide)),0,gV _,rfl,(fun c hc=>by cases hc),rfl⟩ ?_
 rintro J hJ n τ ⟨k,hk,rfl,hs,rfl⟩;by_cases aI:k<b.aA.length
 .obtain⟨c,MG⟩:∃c,b.aA[k]?=some c:=⟨b.aA[k],bB aI⟩;have hg:(b.aA.map Ct.pv)[k]?=some (.agg [.i c.num,.i c.it,.i c.src,.i c.day,.i c.valid,.i c.diff.lo,.i c.diff.hi]):=by rw[bW,MG];rfl
  have hw:=bN (k:=k) (by omega);have o9:=JV (f:=Ct.num) (g:=Ct.pv) (n:=c.num) (l:=b.fst k);have S8:zZ kI (oQ (b.fst k))=true:=NY;have qB:=Zd (b:=b) k;have aG:b.aA.length-(k+1)<b.aA.length-k:=by omega
  have Bs:=Gl MG;cases ho:(b.fst k).find? (fun o=>decide (o.num=c.num))with
  |some o=>
   rw[ho]at o9;have HV:eX (.i c.num) (oQ (b.fst k))=some (.agg [.i o.num,.i o.it,.i o.src,.i o.day,.i o.valid,.i o.diff.lo,.i o.diff.hi]):=o9;have heq:gR (.agg [.i o.num,.i o.it,.i o.src,.i o.day,.i o.valid,.i o.diff.lo,.i o.diff.hi]) (.agg [.i c.num,.i c.it,.i c.src,.i c.day,.i c.valid,.i c.diff.lo,.i c.diff.hi])=decide (o=c):=ZrT;cases e:decide (o=c)
   .rw[e]at heq;have h6:=vG 6 (Zf5 qP lO (Zmv (List.mem_of_mem_take (WQ k o (List.mem_of_find?_eq_some ho))) (dK MG) (by simpa using List.find?_some ho) (by simpa using e))) (by omega);simp[KY,aL,aI,↓hg,S8,HV,heq,-gR,XO,gI];exact⟨[],by simpa[aU,rE]using h6⟩
   .rw[e]at heq;have G4:o=c:=by simpa using e
    have aB:=hJ _ _ ⟨k+1,aI,rfl,Zia MG hs (fun o' h'=>by rw[ho]at h';cases h';exact G4),rfl⟩;unfold KY at aB;rw[Bs]at aB;have QW:wS (b.fst k) c=b.fst k:=by unfold wS;rw[ho]
    rw[QW]at aB;simp[KY,aL,aI,↓hg,S8,HV,heq,-gR,XO,gI,hw];exact⟨_,_,aG,Sub.mk (by simp[aL]) (by simp[aL,Bk.cells]),aB⟩
  |none=>
   rw[ho]at o9;have HV:eX (.i c.num) (oQ (b.fst k))=none:=o9;have aB:=hJ _ _ ⟨k+1,aI,rfl,Zia MG hs (fun o' h'=>by rw[ho]at h';cases h'),rfl⟩;have QW:wS (b.fst k) c=b.fst k++[c]:=by unfold wS;rw[ho]
   have nC:mK (.i c.num) (.agg [.i c.num,.i c.it,.i c.src,.i c.day,.i c.valid,.i c.diff.lo,.i c.diff.hi]) (oQ (b.fst k))=oQ (b.fst k++[c]):=by
    unfold oQ;rw[Gt (fun x hx=>by rw[List.find?_eq_none]at ho;simpa using ho x hx)];unfold nR;rw[mF];rfl
   have sS:(((b.fst k).map fun c=>aN c.num)).length<=1000:=by rw[fV];omega
   have D3:(b.fst k).length+1<=1000000:=by omega
   unfold KY at aB;rw[Bs,QW]at aB;simp[KY,aL,aI,↓hg,S8,HV,nC,XO,gI,hw,aP,D3];exact⟨_,_,aG,Sub.mk (by simp[aL]) (by simp[aL,aN,Bk.cells]),aB⟩
 .have he:k=b.aA.length:=by omega
  subst he;clear hJ;have IA:∀c∈b.aA,1<=c.num/\c.num<=999:=fun c sU=>by
   have:=rC.1 e2 c sU
   unfold Bk.uX iX at this;simp only[dJ,decide_eq_true_eq]at this;omega
  obtain⟨LY,n8⟩:=Zm0 IA hs;have MA:b.nums.length=(b.fst b.aA.length).length:=by rw[<-LY,Hq,fV]
  have hle:=Zd (b:=b) b.aA.length;have QD:zZ kI (oQ (b.fst b.aA.length))=true:=NY;have kJ:=fun n=>Zqw IA n8 hs (n:=n)
  have Sq:b.zY=false->xD b (oQ (b.fst b.aA.length)):=fun h=>ZoE (Bk.U6.1 (Gx qP lO h)) hs
  have YO:b.zY=false->R (.bL [.ptr (.ret 0) 0,.pv (.i 0)]) [(.ret 0,.cells (aW b (.ret 1) mD)),(.ret 1,.map (oQ (b.fst b.aA.length)))]:=fun h=>by
   rw[<-hR];exact .inr ⟨Gx qP lO h,_,Sq h,rfl,rfl⟩
  have Sx:(b.fst b.aA.length).map Ct.num≠[]:=by
   intro e;rw[List.map_eq_nil_iff]at e;unfold Bk.same at hs;rw[nF,e]at hs;cases EP:b.aA with
   |nil=>exact dA EP
   |cons x r=>have:=hs x (by rw[EP];simp);cases this
  have LU:=Zuq 3 ((b.fst b.aA.length).map Ct.num) Sx (by rw[fV];omega);rw[LY,fV,List.map_map,<-MA]at LU;have oL:b.nums.length<=1000:=by omega
  have wA:((b.fst b.aA.length).map fun c=>aN c.num)=(b.fst b.aA.length).map (aN∘Ct.num):=rfl;generalize hES:oQ (b.fst b.aA.length)=es at *;have Ba:(b.fst b.aA.length).length=b.nums.length:=MA.symm;simp[KY,aL,hES,wA,Ba];refine cM [.vec (.par 0) 1 0 b.nums.length] [(.par 0,.arr 3 1 ((b.fst b.aA.length).map (aN∘Ct.num)))] 87 [.loc 79 0] rfl LU (by simp[bX]) ?_;simp[cO,AS.lT,eZ,gG,XO,Bk.cells];have jS:(b.nums.map aN).take b.nums.length=b.nums.map aN:=fO (by rw[fV];exact fG _);refine eO (fun n τ=>∃k:Nat,k<=b.nums.length/\n=b.nums.length-k/\(∀(i:Nat) (x y:Int),i+1<k->b.nums[i]?=some x->b.nums[i+1]?=some y->(b.get x).day<=(b.get y).day)/\τ=TW b es k) ⟨b.nums.length,TW b es 0,Sub.trans' (Sub.mk (by simp[aM,AS.cD,AV.cD,jS]) (by simp[aM,AS.cD,aJ.cD,AV.cD,AV.aY,Zra,aW,Bk.cells,aL,jS])) (Sub.cD [.loc 79 0]),0,gV _,rfl,(fun i x y h=>by omega),rfl⟩ ?_;rintro J hJ n τ ⟨k,hk,rfl,hinv,rfl⟩;by_cases aI:k<b.nums.length
  .obtain⟨x,hx⟩:∃x,b.nums[k]?=some x:=⟨b.nums[k],bB aI⟩;have oM:(b.nums.map aN)[k]?=some (.i x):=by rw[bW,hx];rfl
   have hw:=bN (k:=k) (by omega);have aG:b.nums.length-(k+1)<b.nums.length-k:=by omega
   obtain⟨mI,S3,hxc⟩:=kJ x (dK hx);by_cases hz:k=0
   .subst hz;have aB:=hJ _ _ ⟨1,aI,rfl,(fun i x y h=>by omega),rfl⟩;have G3:IntKind.i64.wrap 1=1:=rfl;simp[TW,aW,aI,↓oM,G3];exact⟨_,_,aG,Sub.mk (by simp) (by simp[aW,Bk.cells]),aB⟩
   .obtain⟨j,CF⟩:∃j,j+1=k:=⟨k-1,by omega⟩;have hj:j<b.nums.length:=by omega
    obtain⟨y,hy⟩:∃y,b.nums[j]?=some y:=⟨b.nums[j],bB _⟩;have HU:(b.nums.map aN)[j]?=some (.i y):=by rw[bW,hy];rfl
    obtain⟨Ud,R8,HC⟩:=kJ y (dK hy);have pW:IntKind.i64.wrap ((k:Int)-1)=(j:Int):=by rw[wrap64 (by omega)];omega
    have hyx:y<x:=by
     have:=Q2.1 (TH (b:=b)) j k hj aI (by omega)
     rw[bB hj]at hy;rw[bB aI]at hx;cases hy;cases hx;exact this
    have HL:decide ((0:Int)<(k:Int))=true:=by simp;omega
    have K7:0<k:=by omega
    have iY:decide ((k:Int)<(b.nums.length:Int))=true:=by simp;omega
    unfold Ct.pv at mI Ud;cases hd:decide ((b.get x).day<(b.get y).day)
    .have aB:=hJ _ _ ⟨k+1,aI,rfl,(fun i x' y' h e1 e2=>by
      rcases Nat.lt_succ_iff_lt_or_eq.1 h with h|h
      .exact hinv i x' y' h e1 e2
      .have:i=j:=by omega
       subst this;rw[CF]at e2;rw[hy]at e1;rw[hx]at e2;cases e1;cases e2;simp at hd;omega),rfl⟩
     simp[-decide_eq_true_eq,-decide_eq_false_iff_not,TW,aW,aI,↓oM,↓HU,pW,K7,QD,mI,Ud,gI,hd,hw];exact⟨_,_,aG,Sub.mk (by simp) (by simp[aW,Bk.cells]),aB⟩
    .have h6:=vG 6 (Zf5 qP lO (Zmw hxc HC (by rw[S3,R8];exact hyx) (by simpa using hd))) (by omega);simp[-decide_eq_true_eq,-decide_eq_false_iff_not,TW,aW,aI,iY,hj,↓oM,↓HU,pW,HL,K7,QD,mI,Ud,gI,hd,hw];exact⟨[],by simpa[aU,rE]using h6⟩
  .have he:k=b.nums.length:=by omega
   subst he;clear hJ;have X2:b.zY=false:=Zs7 n8 (fun x hx y hy e=>by
    have:=ZtS (fun n=>(b.get n).day) TH (fun i x y e1 e2=>hinv i x y (bZ.1 e2).1 e1 e2) x.num ((Zfv IA).2 ⟨x,hx,rfl⟩) y.num ((Zfv IA).2 ⟨y,hy,rfl⟩) e
    rw[Ze n8 hx,Ze n8 hy]at this;exact this)
   have:=YO X2
   simp[TW,aW];refine⟨[.loc 38 0,.loc 36 0],?_⟩;simp[aU,rE,Zlx,Zlu];exact this
end
section
def Cr.sub (a b:Cr):Prop:=b.lo<=a.lo/\a.hi<=b.hi
theorem Zqu {α β:Type}{f:α->Cr}{g:β->Cr}{l:List α}{l':List β}{e:Cr}(h:∀y∈l',∃x∈l,(f x).sub (g y)):(l.foldl (fun r c=>r.cut (f c)) e).sub (l'.foldl (fun r c=>r.cut (g c)) e):=by
 obtain⟨a1,a2,_⟩:=WG f l e;obtain⟨_,_,b3⟩:=WG g l' e;obtain⟨c1,c2,_⟩:=WE f l e;obtain⟨_,_,d3⟩:=WE g l' e;constructor
 .rcases b3 with b3|⟨y,hy,b3⟩
  .omega
  .obtain⟨x,hx,h1,_⟩:=h y hy
   have:=a2 x hx;omega
 .rcases d3 with d3|⟨y,hy,d3⟩
  .omega
  .obtain⟨x,hx,_,h1⟩:=h y hy
   have:=c2 x hx;omega
theorem Cr.sub.wider {a b:Cr}(h:a.sub b)(n:Int):(a.wider n).sub (b.wider n):=by
 unfold Cr.sub at h ⊢;unfold Cr.wider Cr.plus;simp only;omega
theorem Cr.sub.plus {a b:Cr}(h:a.sub b)(d:Cr):(a.plus d).sub (b.plus d):=by
 unfold Cr.sub at h ⊢;unfold Cr.plus;simp only;omega
theorem Cr.sub.refl (a:Cr):a.sub a:=⟨Int.le_refl _,Int.le_refl _⟩
theorem FI {b:Bk}(hb:b.ok){c:Ct}(hc:c∈b.aA):∃n:Nat,c.num=n/\1<=n/\n<1000:=by
 have:=hb.ct c hc
 unfold Bk.uX iX at this;simp only[dJ,decide_eq_true_eq]at this;exact⟨c.num.toNat,by omega,by omega,by omega⟩
theorem ZiE {b b':Bk}(hb:b.ok)(nL:b'.ok)(hi:∀c∈b.aA,b'.item c.src=b.item c.src)(hc:∀c∈b.aA,c∈b'.aA){bad yN:List Int}(lO:∀x∈yN,x∈bad){x:Int}(hx:x∈b.held bad):x∈b'.held yN:=by
 have key:∀n:Nat,(n:Int)∈b.held bad->(n:Int)∈b'.held yN:=by
  intro n;induction n using Nat.strongRecOn with
  |_ n ih=>
  intro hx;obtain⟨c,MH,ES,Cg⟩:=(KA hb).1 hx;refine(KA nL).2 ⟨c,hc c MH,ES,?_⟩;unfold Bk.Q3 at Cg ⊢;rw[dJ,rV]at Cg ⊢;refine⟨?_,?_⟩
  .rcases Cg.1 with h|h
   .left;rw[hi c MH];exact h
   .right;rw[oU]at h ⊢;obtain⟨o,ho,h1⟩:=h;rw[dJ,jB]at h1;refine⟨o,hc o ho,?_⟩;rw[dJ,jB];refine⟨h1.1,?_⟩;have h2:o.num<c.num:=by have:=h1.1;unfold yX at this;simp only[dJ,decide_eq_true_eq]at this;exact this.1.2
    obtain⟨m,hm,_,_⟩:=FI hb ho;have h3:=h1.2;rw[hm]at h3 ⊢;exact ih m (by omega) h3
  .have h:=Cg.2;rw[Bool.not_eq_true',Bool.eq_false_iff]at h ⊢;intro h';rw[jB]at h';exact h (jB.2 (lO _ h'))
 obtain⟨c0,MI,e0,_⟩:=(KA hb).1 hx;obtain⟨n,hn,_,_⟩:=FI hb MI;have e:x=n:=by omega
 rw[e]at hx ⊢;exact key n hx
theorem Hv {b:Bk}{held:List Int}{S:Int->Cr}{item day below:Int}(h:(b.item item).gU=false):b.kD held S item day below=(b.aA.filter fun c=>Bk.pT item day below c&&held.contains c.num).foldl (fun r c=>r.cut ((S c.num).wider ((b.item item).dR*(day-c.day)))) I3:=by
 unfold Bk.kD;rw[if_neg (by rw[h];simp)]
theorem Ziz {b b':Bk}{S S':Int->Cr}{h h':List Int}{item day below:Int}(hi:b'.item item=b.item item)(hc:∀c∈b.aA,c∈b'.aA)(hh:∀x∈h,x∈h')(hS:∀c∈b.aA,c.num<below->c.num∈h->(S' c.num).sub (S c.num)):(b'.kD h' S' item day below).sub (b.kD h S item day below):=by
 cases hs:(b.item item).gU with
 |true=>
  unfold Bk.kD;rw[hi,if_pos hs,if_pos hs];exact Cr.sub.refl _
 |false=>
  rw[Hv hs,Hv (by rw[hi];exact hs),hi];refine Zqu fun c mB=>?_
  rw[iU,dJ,jB]at mB;obtain⟨h1,h2,h3⟩:=mB;have aI:c.num<below:=by unfold Bk.pT at h2;simp only[dJ,decide_eq_true_eq]at h2;exact h2.1
  refine⟨c,?_,(hS c h1 aI h3).wider _⟩;rw[iU,dJ,jB];exact⟨hc c h1,h2,hh _ h3⟩
theorem ZmG {b b':Bk}(hb:b.ok)(nL:b'.ok)(hi:∀c∈b.aA,b'.item c.src=b.item c.src)(hc:∀c∈b.aA,c∈b'.aA):∀c∈b.aA,c.num∈b.held []->(b'.span (b'.held []) c.num).sub (b.span (b.held []) c.num):=by
 have hh:∀x∈b.held [],x∈b'.held []:=fun x hx=>ZiE hb nL hi hc (fun _ h=>h) hx
 have key:∀n:Nat,∀c∈b.aA,c.num=n->c.num∈b.held []->(b'.span (b'.held []) c.num).sub (b.span (b.held []) c.num):=by
  intro n;induction n using Nat.strongRecOn with
  |_ n ih=>
  intro c mB hn hx;obtain⟨n',yF,h1,h2⟩:=FI hb mB
  have:n'=n:=by omega
  subst this;have g1:b.get (n':Int)=c:=by rw[<-hn];exact r9 hb mB
  have g2:b'.get (n':Int)=c:=by rw[<-hn];exact r9 nL (hc c mB)
  rw[hn]at hx ⊢;rw[Ma h2,Ma h2,if_pos (jB.2 hx),if_pos (jB.2 (hh _ hx)),g1,g2];refine Cr.sub.plus (Ziz (hi c mB) hc hh fun o ho aI PQ=>?_) _;obtain⟨m,hm,_,_⟩:=FI hb ho;exact ih m (by omega) o ho hm PQ
 intro c mB;obtain⟨n,hn,_,_⟩:=FI hb mB;exact key n c mB hn
def Cr.lS (r:Cr)(B:Int):Prop:=-B<=r.lo/\r.lo<=B/\-B<=r.hi/\r.hi<=B
theorem Zqv {α:Type}{f:α->Cr}{l:List α}{B:Int}(hB:B<1099511627776)(dA:l≠[])(h:∀x∈l,(f x).lS B):(l.foldl (fun r c=>r.cut (f c)) I3).lS B:=by
 obtain⟨x0,BM⟩:=List.exists_mem_of_ne_nil l dA;obtain⟨_,a2,a3⟩:=WG f l I3;obtain⟨_,c2,c3⟩:=WE f l I3;have h0:=h x0 BM;have h1:=a2 x0 BM;have h2:=c2 x0 BM;have e1:I3.lo = -1099511627776:=rfl;have e2:I3.hi=1099511627776:=rfl;unfold Cr.lS at h0 ⊢;refine⟨by omega,?_,?_,by omega⟩
 .rcases a3 with a3|⟨y,hy,a3⟩
  .omega
  .have:=h y hy;unfold Cr.lS at this;omega
 .rcases c3 with c3|⟨y,hy,c3⟩
  .omega
  .have:=h y hy;unfold Cr.lS at this;omega
theorem wW {b:Bk}(hb:b.ok){c:Ct}(hc:c∈b.aA):1<=c.num/\c.num<=999/\0<=c.it/\c.it<b.items.length/\(b.item c.it).gU=false/\0<=c.src/\c.src<b.items.length/\c.src≠c.it/\0<=c.day/\c.day<=1000/\0<=c.valid/\c.valid<=1000/\c.diff.lS 100000/\c.diff.lo<=c.diff.hi:=by
 have:=hb.ct c hc
 unfold Bk.uX iX Bk.uK iX Cr.okB A1 iX at this;simp only[dJ,decide_eq_true_eq,Bool.not_eq_true']at this;unfold Cr.lS;obtain⟨⟨⟨⟨⟨⟨⟨a1,a2⟩,a3⟩,a4⟩,a5⟩,a6⟩,a7⟩,a8⟩:=this;refine⟨a1.1,a1.2,a2.1,by omega,a3,a4.1,by omega,a5,a6.1,a6.2,a7.1,a7.2,?_,a8.2⟩;omega
theorem ZhA {b:Bk}(hb:b.ok){i:Int}(h0:0<=i)(h1:i<b.items.length):0<=(b.item i).dR/\(b.item i).dR<=100/\(b.item i).val.lS 100000/\(b.item i).val.lo<=(b.item i).val.hi:=by
 have hm:b.item i∈b.items:=by
  unfold Bk.item;rw[bB (by omega)];exact zX _
 have:=hb.it _ hm
 unfold It.okB iX Cr.okB A1 iX at this;simp only[dJ,decide_eq_true_eq]at this;unfold Cr.lS;omega
theorem Zlc {b:Bk}(hb:b.ok){c:Ct}(hc:c∈b.aA){bad:List Int}(h:c.num∈b.held bad):(b.item c.src).gU=true\/∃o∈b.aA,Bk.pT c.src c.day c.num o=true/\o.num∈b.held bad:=by
 obtain⟨c',sU,e,h1⟩:=(KA hb).1 h
 have:c'=c:=hb.one c' sU c hc e
 subst this;unfold Bk.Q3 at h1;rw[dJ,rV]at h1;rcases h1.1 with h2|h2
 .exact .inl h2
 .rw[oU]at h2;obtain⟨o,ho,h3⟩:=h2;rw[dJ,jB,Ml]at h3;exact .inr ⟨o,ho,h3.1,h3.2⟩
theorem Zmp {r:Cr}{A B d:Int}(h:r.lS A)(h0:0<=d)(h1:A+d<=B):(r.wider d).lS B:=by
 unfold Cr.lS at h ⊢;unfold Cr.wider Cr.plus;simp only;omega
theorem Xp {b:Bk}(hb:b.ok){o:Ct}(ho:o∈b.aA){day:Int}(X7:o.on day=true):0<=(b.item o.it).dR*(day-o.day)/\(b.item o.it).dR*(day-o.day)<=100000:=by
 have h1:=wW hb ho;have h2:=ZhA hb h1.2.2.1 h1.2.2.2.1;unfold Ct.on iX at X7;simp only[dJ,decide_eq_true_eq]at X7;have h3:0<=day-o.day:=by omega
 have h4:day-o.day<=1000:=by omega
 exact⟨Int.mul_nonneg h2.1 h3,Int.le_trans (Int.mul_le_mul h2.2.1 h4 h3 (by omega)) (by omega)⟩
theorem ZhB {b:Bk}(hb:b.ok){held:List Int}{S:Int->Cr}{item day below:Int}{A:Int}(h0:0<=item)(h1:item<b.items.length)(hA:100000<=A)(hA2:A+100000<1099511627776)(hex:(b.item item).gU=true\/∃o∈b.aA,Bk.pT item day below o=true/\o.num∈held)(hS:∀c∈b.aA,c.num<below->c.num∈held->(S c.num).lS A):(b.kD held S item day below).lS (A+100000):=by
 cases hs:(b.item item).gU with
 |true=>
  unfold Bk.kD;rw[if_pos hs]
  have:=(ZhA hb h0 h1).2.2.1
  unfold Cr.lS at this ⊢;omega
 |false=>
  rw[Hv hs];obtain⟨o,ho,h2,h3⟩:∃o∈b.aA,Bk.pT item day below o=true/\o.num∈held:=by
   rcases hex with h|h
   .rw[hs]at h;cases h
   .exact h
  refine Zqv (by omega) (fun e=>?_) fun c hc=>?_
  .have:o∈(b.aA.filter fun c=>Bk.pT item day below c&&held.contains c.num):=by
    rw[iU,dJ,jB];exact⟨ho,h2,h3⟩
   rw[e]at this;cases this
  .rw[iU,dJ,jB]at hc;obtain⟨k1,k2,k3⟩:=hc;unfold Bk.pT at k2;simp only[dJ,decide_eq_true_eq]at k2;have hf:=Xp hb k1 k2.2.2;rw[k2.2.1]at hf;exact Zmp (hS c k1 k2.1 k3) hf.1 (by omega)
theorem XL {b:Bk}(hb:b.ok):∀c∈b.aA,c.num∈b.held []->(b.span (b.held []) c.num).lS (300000*(c.num+1)):=by
 have key:∀n:Nat,∀c∈b.aA,c.num=n->c.num∈b.held []->(b.span (b.held []) c.num).lS (300000*(c.num+1)):=by
  intro n;induction n using Nat.strongRecOn with
  |_ n ih=>
  intro c mB hn hx;obtain⟨n',yF,h1,h2⟩:=FI hb mB
  have:n'=n:=by omega
  subst this;have g1:b.get (n':Int)=c:=by rw[<-hn];exact r9 hb mB
  have HZ:=wW hb mB;have Ag:=Zlc hb mB hx;rw[hn]at hx Ag ⊢;rw[Ma h2,if_pos (jB.2 hx),g1];have hi:=ZhB hb (S:=b.span (b.held [])) (day:=c.day) (below:=(n':Int)) (A:=300000*(n':Int)) HZ.2.2.2.2.2.1 HZ.2.2.2.2.2.2.1 (by omega) (by omega) Ag fun o ho aI PQ=>by
   obtain⟨m,hm,_,_⟩:=FI hb ho
   have:=ih m (by omega) o ho hm PQ
   unfold Cr.lS at this ⊢;omega
  have hd:=HZ.2.2.2.2.2.2.2.2.2.2.2.2.1;unfold Cr.lS at hi hd ⊢;unfold Cr.plus;simp only;omega
 intro c mB;obtain⟨n,hn,_,_⟩:=FI hb mB;exact key n c mB hn
structure Cons (P:Program) where
 m:Nat
 S:Type
 X:S->List aJ
 step:S->PV->S×Bool
 good:PV->Prop
 live:S->Prop
 m0:0<m
 len:∀s,(X s).length=m
 cl:∀s,DV m (X s)
 sK:∀s x,live s->good x->FL P 0 [.pv x] (laid 0 (X s)) (fun r B=>r=.pv (.bool (step s x).2)/\B=laid 0 (X (step s x).1))
 goes:∀s x,live s->good x->(step s x).2=true->live (step s x).1
def Cons.run {P:Program}(C:Cons P):C.S->List PV->C.S×Bool
 |s,[]=>(s,true)
 |s,x::r=>match(C.step s x).2 with
  |true=>C.run (C.step s x).1 r
  |false=>((C.step s x).1,false)
theorem Cons.Xe {P:Program}{C:Cons P}:∀(a b:List PV) (s:C.S),C.run s (a++b)=match(C.run s a).2 with
  |true=>C.run (C.run s a).1 b
  |false=>C.run s a
 |[],b,s=>rfl
 |x::a,b,s=>by
  rw[List.cons_append,Cons.run,Cons.run];split
  .exact Cons.Xe a b _
  .rfl
theorem Cons.ZxC {P:Program}{C:Cons P}(s:C.S)(x:PV):C.run s [x]=C.step s x:=by
 rw[Cons.run];split
 .rename_i h;rw[Cons.run];exact Prod.ext rfl h.symm
 .rename_i h;exact Prod.ext rfl h.symm
theorem Zdx {P:Program}{C:Cons P}{c:C.S}{k:Nat}:((laid 0 (C.X c)).filter fun p=>!p.1.fP k).map (fun p=>(p.1,p.2.bG k))=laid 0 (C.X c):=ZeF (C.cl c)
theorem NW {tm:List (Nat×AV)}{X:List aJ}:xS ⟨tm,laid 0 X⟩ X:=by
 have:=SZ (tm:=tm) (X:=X) (r:=[])
 rwa [uG]at this
def fZ (l:List Int):List AV:=(List.range 1000).map fun i:Nat=>.pv (.bool (l.contains (i:Int)))
theorem ZhQ {l:List Int}{n:Nat}(h:n<1000):(fZ l)[n]?=some (.pv (.bool (l.contains (n:Int)))):=by
 unfold fZ;rw[bW,List.getElem?_range h];rfl
theorem FT:mD=fZ []:=by
 refine List.ext_getElem? (fun n=>?_);unfold mD fZ;rw[bW];by_cases h:n<1000
 .rw[List.getElem?_range h,List.getElem?_replicate,if_pos h];rfl
 .rw[List.getElem?_replicate,if_neg h,List.getElem?_eq_none (by rw[List.length_range];omega)];rfl
theorem Zq8 {l:List Int}{n:Nat}(h:n<1000):(fZ l).set n (.pv (.bool true))=fZ (l++[(n:Int)]):=by
 refine List.ext_getElem? (fun k=>?_);by_cases hk:k<1000
 .rw[List.getElem?_set,ZhQ hk,ZhQ hk];by_cases e:n=k
  .subst e;rw[if_pos rfl,if_pos (by unfold fZ;rw[fV,List.length_range];exact h)];simp
  .rw[if_neg e];congr 3;rw[qS,jB,jB,sI];constructor
   .exact .inl
   .rintro(h|h)
    .exact h
    .simp at h;omega
 .rw[List.getElem?_eq_none (by unfold fZ;simp;omega),List.getElem?_eq_none (by unfold fZ;simp;omega)]
theorem ZhP {l:List Int}:(fZ l).length=1000:=by unfold fZ;simp
theorem ZfC {α:Type}{f:α->PV}{d:Nat}:∀l:List α,AV.qT d (l.map fun x=>.pv (f x))=false
 |[]=>rfl
 |x::l=>by rw[iL];simp only[AV.qT,AV.has,ZfC l];rfl
theorem ZfD {α:Type}{f:α->PV}{q:Site->Bool}:∀l:List α,AV.gW q (l.map fun x=>.pv (f x))=true
 |[]=>rfl
 |x::l=>by rw[iL];simp only[AV.gW,AV.dC,ZfD l];rfl
theorem ZfA {α:Type}{f:α->PV}{d:Nat}(l:List α):(l.map fun x=>AV.pv (f x)).map (AV.bG d)=l.map fun x=>.pv (f x):=by
 rw[List.map_map];rfl
theorem ZfB {α:Type}{f:α->PV}{g:Site->Site}:∀l:List α,AV.iM g (l.map fun x=>.pv (f x))=l.map fun x=>.pv (f x)
 |[]=>rfl
 |x::l=>by rw[iL];simp only[AV.iM,AV.map,ZfB l]
theorem ZaR {l:List Int}(d:Nat):AV.qT d (fZ l)=false:=ZfC _
theorem I6 {l:List Int}(q:Site->Bool):AV.gW q (fZ l)=true:=ZfD _
theorem AE {l:List Int}(d:Nat):(fZ l).map (AV.bG d)=fZ l:=ZfA _
theorem V2 {l:List Int}(g:Site->Site):AV.iM g (fZ l)=fZ l:=ZfB _
theorem ZsS {fz outs:List Site}{rs:List nY}{R:AV->List (Site×aJ)->Prop}{σ:AS}(h:aU outs rs R (aY fz σ)):rM rs R σ:=by
 obtain⟨l,h1,h2,h3,h4,h5⟩:=h;exact⟨fz,outs,l,h1,h2,h3,fun s hs b hb=>Zeu h4 s hs b hb,h5⟩
theorem ZhN {P:Program}(fz outs:List Site){f:FuncId}{F:aX}{args:List AV}{B:List (Site×aJ)}{R:AV->List (Site×aJ)->Prop}(hm:P.follows .mixedOrders=true)(hf:fT P f=some F)(hn:args.length<=F.nt)
  (h:eK P F.code (lA (fun σ=>aU outs F.res R (aY fz σ))) ⟨eW 0 args,B⟩):cR P f args B R:=Hz hm hf hn (fun _ h=>ZsS h) (I7 h)
section
attribute [local simp] aJ.bG Site.fP
attribute [local simp] oF aY AS.cD AV.cD AV.aY aJ.cD AS.tidy AS.b8
theorem ZjS (b:Bk)(hi:b.items.length<=1000)(hc:b.aA.length<=1000):aD prog 230 [b.pv] (.i b.fault):=by
 have hr:=Fa b hi hc;refine cS L230 ?_;simp[L230,Bk.pv];refine cL [.pv b.pv] [] 7 [] rfl hr ?_
 rintro r0 B0 (⟨h0,rfl,rfl⟩|⟨h0,es,kZ,rfl,rfl⟩)
 .refine⟨rfl,by simp,?_⟩;simp[AV.map,gG,AS.lT,eZ,cO]
 .refine⟨rfl,by simp[bX,aW,aJ.dC,AV.dC,AV.gW,FT,I6],?_⟩;simp[AV.map,AV.iM,gG,AS.lT,eZ,cO,aJ.iR,aW,FT,V2,h0]
structure WAt (b:Bk)(bad:List Int)(es:List (PV×PV))(X:List aJ)(jw jm:Nat):Prop where
 w:X[jw]?=some (.cells (aW b (.par jm) (fZ bad)))
 m:X[jm]?=some (.map es)
def OK (s:Site)(item day below:Int):AV:=.fn 155 [] [.ptr s 0,.pv (.ref [.i below]),.pv (.ref [.i item]),.pv (.ref [.i day])]
attribute [local simp] AS.exp jT aJ.iR AV.map AV.iM dO Site.uJ aJ.dC AV.dC AV.gW
theorem ZaS {l:List Int}{s:Site}{n:Nat}{xs:List PV}:AV.aY s n xs (fZ l)=fZ l:=by
 have:∀k:List Nat,AV.aY s n xs (k.map fun i:Nat=>.pv (.bool (l.contains (i:Int))))=k.map fun i:Nat=>.pv (.bool (l.contains (i:Int))):=fun k=>by
  induction k with
  |nil=>rfl
  |cons x k ih=>rw[iL];simp only[AV.aY,AV.cD,ih]
 exact this _
def kE (b:Bk)(bad:List Int)(es:List (PV×PV)):List aJ:=[.cells (aW b (.par 1) (fZ bad)),.map es]
theorem AZ (b:Bk)(bad:List Int)(es:List (PV×PV))(item day below:Int):cR prog 114 [.ptr (.par 0) 0,.pv (.i item),.pv (.i day),.pv (.i below)] (laid 0 (kE b bad es)) (fun r B=>r=OK (.ret 0) item day below/\B=(.ret 0,.cells [.ptr (.par 0) 0])::laid 0 (kE b bad es)):=by
 refine ZhN [.loc 5 0,.loc 6 0,.loc 7 0] [.loc 4 0,.par 0,.par 1] mixed L114_ok (tH rfl) ?_;generalize hR:(fun(r:AV) (B:List (Site×aJ))=>r=OK (.ret 0) item day below/\B=(.ret 0,.cells [.ptr (.par 0) 0])::laid 0 (kE b bad es))=R;simp[L114,laid,kE,aW,eA,EV,AE,ZaS];simp[aU,rE,I6,V2,q9];rw[<-hR];refine⟨rfl,?_⟩;simp[laid,kE,aW]
end
attribute [local simp] ZfT ZfS ZfR Zds Zfn Zfo Zes Zdx
attribute [local simp] AV.map AV.iM dO Site.uJ aJ.dC AV.dC AV.gW AS.lT
def lR (l:List Ct):List PV:=l.map Ct.pv
def Bk.W4 (b:Bk)(item day below:Int)(k:Nat):List Ct:=((b.nums.take k).map b.get).filter (Bk.pT item day below)
theorem ZpY {b:Bk}{item day below:Int}{k:Nat}{n:Int}(h:b.nums[k]?=some n):b.W4 item day below (k+1)=b.W4 item day below k++(if Bk.pT item day below (b.get n)=true then[b.get n]else[]):=by
 unfold Bk.W4;rw[mJ,h,mF,F2];congr 1;simp only[Option.toList,iL,List.map_nil,xL,List.filter_nil]
theorem Zs8 {b:Bk}{item day below:Int}(k:Nat):b.qX item day below=b.W4 item day below k++((b.nums.drop k).map b.get).filter (Bk.pT item day below):=by
 unfold Bk.W4 Bk.qX;rw[<-F2,<-mF,List.take_append_drop]
theorem ZpZ {b:Bk}{item day below:Int}:b.W4 item day below b.nums.length=b.qX item day below:=by
 unfold Bk.W4 Bk.qX;rw[nF]
theorem WW {b:Bk}:b.nums.length<=1000:=by
 unfold Bk.nums;rw[fV];exact lC (O1 _ _) (by rw[List.length_range];exact fG _)
theorem Fx {X:List aJ}{j:Nat}{b:aJ}(h:X[j]?=some b):(laid 0 X).lookup (.par j)=some b:=by
 have:=Zr X 0 j
 rw[rX]at this;rw[this,h]
theorem Ey (C:Cons prog)(b:Bk)(hb:b.ok)(bad:List Int)(es:List (PV×PV))(kZ:xD b es)(j0 jw jm:Nat)(hW:∀c,C.live c->WAt b bad es (C.X c) jw jm)(h0:∀c,C.live c->(C.X c)[j0]?=some (.cells [.ptr (.par jw) 0]))
  (item day below:Int) (c:C.S) (hc:C.live c) (hg:∀x∈b.qX item day below,C.good x.pv):
  cR prog 155 [.nJ (.par 0),.ptr (.par j0) 0,.pv (.ref [.i below]),.pv (.ref [.i item]),.pv (.ref [.i day])] (laid 0 (C.X c)) (fun r B=>r=.pv (.bL [])/\B=laid 0 (C.X (C.run c (lR (b.qX item day below))).1)):=by
 have hlen:=WW (b:=b);refine Nr (dM C.m) mixed L155_ok (tH rfl) ?_;generalize hR:(fun(r:AV) (B:List (Site×aJ))=>r=.pv (.bL [])/\B=laid 0 (C.X (C.run c (lR (b.qX item day below))).1))=R;have k0:=Fx (h0 c hc);have kw:=Fx (hW c hc).w;simp[L155,k0,kw,aW];refine eO (fun n τ=>∃(k:Nat) (c':C.S),k<=b.nums.length/\n=b.nums.length-k/\C.run c (lR (b.W4 item day below k))=(c',true)/\C.live c'/\τ=⟨[(0,.nJ (.par 0)),(1,.ptr (.par j0) 0),(2,.pv (.ref [.i below])),(3,.pv (.ref [.i item])),(4,.pv (.ref [.i day])),(12,.pv (.aF false 1 (b.nums.map aN))),(13,.pv (.i b.nums.length)),(14,.pv (.i k))],laid 0 (C.X c')⟩)
  ⟨b.nums.length,⟨[(0,.nJ (.par 0)),(1,.ptr (.par j0) 0),(2,.pv (.ref [.i below])),(3,.pv (.ref [.i item])),(4,.pv (.ref [.i day])),(12,.pv (.aF false 1 (b.nums.map aN))),(13,.pv (.i b.nums.length)),(14,.pv (.i 0))],laid 0 (C.X c)⟩,Sub.mk (by simp) (Hr NW),0,c,gV _,rfl,by simp[Bk.W4,lR,Cons.run],hc,rfl⟩ ?_
 rintro J hJ n τ ⟨k,c',hk,rfl,dF,zM,rfl⟩;have k0:=Fx (h0 c' zM);have kw:=Fx (hW c' zM).w;have km:=Fx (hW c' zM).m;unfold aW at kw;by_cases aI:k<b.nums.length
 .obtain⟨x,hx⟩:∃x,b.nums[k]?=some x:=⟨b.nums[k],bB aI⟩;have K0:=dK hx;have oM:(b.nums.map aN)[k]?=some (.i x):=by rw[bW,hx];rfl
  have hw:=bN (k:=k) (by omega);have aG:b.nums.length-(k+1)<b.nums.length-k:=by omega
  obtain⟨rT,nV⟩:=U9 hb K0;have mI:=kZ.f x;rw[if_pos K0]at mI;have S8:=kZ.k;have iD:=ZpY (item:=item) (day:=day) (below:=below) hx;have jL:=wW hb rT;have X7:=Dz (b.get x) day (by rw[wrap64 (by omega)]);have fU:Bk.pT item day below (b.get x)=true->b.get x∈b.qX item day below:=fun h=>(AD hb).2 ⟨rT,h⟩
  have K5:Bk.pT item day below (b.get x)=false->J (b.nums.length-(k+1)) ⟨[(0,.nJ (.par 0)),(1,.ptr (.par j0) 0),(2,.pv (.ref [.i below])),(3,.pv (.ref [.i item])),(4,.pv (.ref [.i day])),(12,.pv (.aF false 1 (b.nums.map aN))),(13,.pv (.i b.nums.length)),(14,.pv (.i (k+1:Nat)))],laid 0 (C.X c')⟩:=fun h=>by
   rw[if_neg (by simp[h]),uG]at iD;exact hJ _ _ ⟨k+1,c',aI,rfl,by rw[iD];exact dF,zM,rfl⟩
  have hB:Bk.pT item day below (b.get x)=(decide (x<below)&&(decide ((b.get x).it=item)&&(b.get x).on day)):=by unfold Bk.pT;rw[nV]
  generalize b.get x=y at *;obtain⟨yn,yi,ys,yd,yv,⟨yl,yh⟩⟩:=y;simp only at nV;subst nV;unfold Ct.pv at mI X7;simp only at hB;cases e1:decide (yn<below)
  .rw[e1,Bool.false_and]at hB;simp[-decide_eq_true_eq,-decide_eq_false_iff_not,aI,↓oM,k0,kw,km,S8,mI,gI,e1,hw];exact⟨_,_,aG,Sub.mk (by simp) (Hr (by repeat (first|exact NW|exact SZ|refine XG rfl ?_))),K5 hB⟩
  rw[e1,Bool.true_and]at hB;cases e2:decide (yi=item)
  .rw[e2,Bool.false_and]at hB;simp[-decide_eq_true_eq,-decide_eq_false_iff_not,aI,↓oM,k0,kw,km,S8,mI,gI,e1,e2,hw];exact⟨_,_,aG,Sub.mk (by simp) (Hr (by repeat (first|exact NW|exact SZ|refine XG rfl ?_))),K5 hB⟩
  rw[e2,Bool.true_and]at hB;simp[-decide_eq_true_eq,-decide_eq_false_iff_not,aI,↓oM,k0,kw,km,S8,mI,gI,e1,e2];refine cG [.agg [.i yn,.i yi,.i ys,.i yd,.i yv,.i yl,.i yh],.i day] X7 ?_;cases e3:Ct.on ⟨yn,yi,ys,yd,yv,⟨yl,yh⟩⟩ day
  .rw[e3]at hB;simp[-decide_eq_true_eq,-decide_eq_false_iff_not,hw];exact⟨_,_,aG,Sub.mk (by simp) (Hr (by repeat (first|exact NW|exact SZ|refine XG rfl ?_))),K5 hB⟩
  rw[e3]at hB;have MD:=hg _ (fU hB);rw[if_pos hB]at iD;simp[-decide_eq_true_eq,-decide_eq_false_iff_not];refine ZlH 41 C.m (C.X c') rfl C.m0 (C.len c') (by repeat (first|exact NW|exact SZ|refine XG rfl ?_)) (C.cl c') rfl (C.sK c' (Ct.pv ⟨yn,yi,ys,yd,yv,⟨yl,yh⟩⟩) zM MD) ?_;rintro r B ⟨rfl,rfl⟩;refine⟨C.X (C.step c' (Ct.pv ⟨yn,yi,ys,yd,yv,⟨yl,yh⟩⟩)).1,rfl,C.len _,C.cl _,rfl,?_⟩;have kB:C.run c (lR (b.W4 item day below (k+1)))=C.step c' (Ct.pv ⟨yn,yi,ys,yd,yv,⟨yl,yh⟩⟩):=by
   rw[iD,lR,mF,Cons.Xe];rw[show List.map Ct.pv (b.W4 item day below k)=lR (b.W4 item day below k) from rfl,dF];exact Cons.ZxC c' _
  cases hs:(C.step c' (Ct.pv ⟨yn,yi,ys,yd,yv,⟨yl,yh⟩⟩)).2
  .simp;refine Zid (L:=C.X (C.step c' (Ct.pv ⟨yn,yi,ys,yd,yv,⟨yl,yh⟩⟩)).1) rfl rfl (C.len _) (by repeat (first|exact NW|exact SZ|refine XG rfl ?_)) (C.cl _) ?_;rw[<-hR];refine⟨rfl,?_⟩;have eS:C.run c (lR (b.qX item day below))=C.step c' (Ct.pv ⟨yn,yi,ys,yd,yv,⟨yl,yh⟩⟩):=by
    rw[Zs8 (k+1),lR,mF,Cons.Xe];rw[show List.map Ct.pv (b.W4 item day below (k+1))=lR (b.W4 item day below (k+1)) from rfl,kB,hs]
   rw[eS]
  .have aB:=hJ _ _ ⟨k+1,(C.step c' (Ct.pv ⟨yn,yi,ys,yd,yv,⟨yl,yh⟩⟩)).1,aI,rfl,by rw[kB];exact Prod.ext rfl hs,C.goes _ _ zM MD hs,rfl⟩;simp[hw];exact⟨_,_,aG,Sub.mk (by simp) (Hr (by repeat (first|exact NW|exact SZ|refine XG rfl ?_))),aB⟩
 .have he:k=b.nums.length:=by omega
  subst he;simp;refine Zid (L:=C.X c') rfl rfl (C.len _) NW (C.cl _) ?_;rw[<-hR];exact⟨rfl,by rw[ZpZ]at dF;rw[dF]⟩
end
end Go.Proofs.YtlllhbmbnjnoiaaGreatDoor
