import Derived.Test.YthmbecacehfgfaaGreatDoorP0
import Derived.Test.YthmbecacehfgfaaGreatDoorP1
import Derived.Test.YthmbecacehfgfaaGreatDoorProg
import Derived.Shelf.Strings.Builder1
import Derived.Shelf.Strings.Builder2
import Derived.Shelf.Strings.OnBuilder
import Derived.Shelf.Small.Bits
import Derived.Shelf.Utf8.RuneCount
import Derived.Shelf.Strconv.Atoi
import Derived.Shelf.Strconv.Itoa0
import Derived.Shelf.Strconv.Itoa1
import Derived.Shelf.LaysM
import Derived.Shelf.Strconv.Itoa2
import Derived.Shelf.Strconv.Itoa3
import Derived.Shelf.Strconv.AtoiErrFast
import Derived.Shelf.Strconv.ParseIntEmpty
import Derived.Shelf.Strconv.AtoiFail
import Derived.Shelf.Strconv.Clone
import Derived.Shelf.Strconv.SyntaxError
import Derived.Shelf.LaysC
import Derived.Shelf.Strconv.ToError
import Derived.Shelf.Strconv.Lower
import Derived.Shelf.Strconv.ParseUint10
import Derived.Shelf.Strconv.ParseUint10Empty
import Derived.Shelf.Strconv.ParseUint10Any
import Derived.Shelf.Strconv.ParseInt10
import Derived.Shelf.Strconv.AtoiLong
import Derived.Shelf.Strconv.AtoiInnerAll
import Derived.Shelf.Strconv.RangeError
import Derived.Shelf.Strconv.ToErrorRange
import Derived.Shelf.Strconv.AtoiAll
import Derived.Shelf.Strconv.ErrVarAll
import Derived.Shelf.Strings.Search1
import Derived.Shelf.Strings.Search2
import Derived.Shelf.Strings.Search3
import Derived.Shelf.Strings.Count
import Derived.Shelf.Strings.Shaped
import Derived.Shelf.Strings.Prefix
import Derived.Shelf.Strings.Split
import Derived.Shelf.Strings.SplitShaped
import Derived.Shelf.Unicode.Decode
import Derived.Shelf.Strings.RuneCount
import Derived.Shelf.Strings.Explode
import Derived.Shelf.Bits.Mul64
import Derived.Shelf.Unicode.DecodeSlow
import Derived.Shelf.Unicode.DecodeAny
import Derived.Shelf.Slices.Reverse
import Derived.Ground.Names2Prog
import Derived.Shelf.Slices.Clone
import Derived.Shelf.Slices.SearchI
import Derived.Shelf.Slices.Cells
import Derived.Shelf.Slices.Empties
import Derived.Ground.SlgnProg
import Derived.Shelf.SlicesE.Clone
import Derived.RecoverIn
import Derived.Shelf.Sort.Plain
set_option linter.unusedSimpArgs false
set_option linter.unusedVariables false
set_option maxHeartbeats 32000000
set_option maxRecDepth 100000
namespace Go.Proofs.YthmbecacehfgfaaGreatDoor
open Go.RowKit
open Tryz
@[simp]abbrev PV.i(n:Int):PV:=.int .i64 n
@[simp]abbrev _root_.Go.Value.i(n:Int):Go.Value:=.int .i64 n
noncomputable section
def L12:aZ :=⟨2,S [Pe 0] (S [O 1 (.aQ 9 1 [.c (.str ⟨#[99,101,114,116,32,49,32,50,32,48,32,49,48,32,49,48,48,32,45,49,32,49]⟩),.c (.str ⟨#[108,111,116,32,55,32,56,32,53,48,48]⟩),.c (.str ⟨#[116,101,115,116,32,55,32,50,32,50,48,32,53,49,49]⟩),.c (.str ⟨#[116,101,115,116,32,55,32,50,32,50,48,32,53,49,48]⟩)]),Om 0 1] .ret),[.tm 0]⟩
def L18:aZ :=⟨25,S [O 2 (.dV (.c .eU)),Pe 3] (S [O 8 (.build (.agg [E0,E0,E0,E0,E0]) []),Ox 9 5 8,Om 4 9] (S [Pe 5] (.seq (aC [oZ 10 0,OM 12 0] (.block 0 (.loop (S [Ob 13 .lss 12 11] (.seq (Ce 13 0) (.seq (.block 1 (aC [wV 14 1 10 12 1,Om 7 15] (cC [bL 16 5 4,zW 18 7 37 17,Q9 20 33 1 19 33 1 8 16 5]))) (cC [pR 22 12 1 12]))))))) (aC [bL 23 4 5,bL 2 23 24] .ret)))),[.tm 2,.tm 3]⟩
def L21:aZ :=⟨63,aC [Ox 2 5 0,SH 4 0] (aC [qC 10 1 43,mV 9 11 12 0 13 1,Oe 14 9 2,bL 6 12 13,Om 8 14] (.seq (S [Om 15 8,Oo 16 15] (Cd 16 (aC [uF 17 5 2 5 4 5 4] .ret) .skip)) (.seq (S [Om 18 6] (.block 0 (S [O 20 (.x (.eqv false ⟨false,[.str]⟩ (.t 18) (.c (.str ⟨#[99,101,114,116]⟩)))),Om 19 20] (Cd 19 (aC [Ot 21 5 2,zW 22 7 44 21,Oe 24 23 0,Oe 25 23 1,Ns 5 4 24,Om 5 25] .ret) (S [O 27 (.x (.eqv false ⟨false,[.str]⟩ (.t 18) (.c (.str ⟨#[98,97,100]⟩)))),Om 26 27] (Cd 26 (aC [qX 29 7 1 0,Pt 28 5 2,Pl 31 30,Ok 32 45 [.t 28,.t 31],Oe 33 32 0,Oe 34 32 1,Ns 5 4 33,Om 5 34] .ret) (S [O 36 (.x (.eqv false ⟨false,[.str]⟩ (.t 18) (.c (.str ⟨#[108,111,116]⟩)))),Om 35 36] (Cd 35 (aC [Ot 37 5 2,zW 38 7 46 37,Oe 40 39 0,Oe 41 39 1,Ns 5 4 40,Om 5 41] .ret) (S [O 43 (.x (.eqv false ⟨false,[.str]⟩ (.t 18) (.c (.str ⟨#[116,101,115,116]⟩)))),Om 42 43] (Cd 42 (aC [Ot 44 5 2,zW 45 7 47 44,Oe 47 46 0,Oe 48 46 1,Ns 5 4 47,Om 5 48] .ret) (S [O 50 (.x (.eqv false ⟨false,[.str]⟩ (.t 18) (.c (.str ⟨#[112,97,115,115]⟩)))),Om 49 50] (Cd 49 (aC [qX 52 7 1 0,Pt 51 5 2,Pl 54 53,Ok 55 48 [.t 51,.t 54],Oe 56 55 0,Oe 57 55 1,Ns 5 4 56,Om 5 57] .ret) .skip)))))))))))) (aC [Ot 58 5 2,zW 59 7 49 58,Oe 61 60 0,Oe 62 60 1,Ns 5 4 61,Om 5 62] .ret)))),[.cell 4 true 5,.tm 5]⟩
def L23:aZ :=⟨10,S [Pe 4] (aC [qC 5 0 40,Om 7 1,Pb 8 3 1 7,Py 9 3 1 8 6 8,Om 4 9] .ret),[.tm 4]⟩
def L25:aZ :=⟨6,.region [Om 3 0,O 4 (.x (.rG (.t 3) (.c (.str ⟨#[10]⟩)))),Ok 5 26 [.t 1,.t 4]],[]⟩
def L31:aZ :=⟨43,S [Ox 1 2 0,Pe 2,OM 3 0,OM 4 0] (.seq (aC [Q8 10 2 1 67,Om 5 11] (aC [O5 12 5 0] (Cd 13 (S [Om 14 5,Pe 2,OM 3 0,Om 4 14] .ret) .skip))) (aC [Q8 16 2 1 68,mV 15 17 18 0 19 1,bL 6 18 19] (.seq (S [Om 20 7,Oo 21 20] (Cd 21 (S [Pe 2,OM 3 0,OM 4 9] .ret) .skip)) (.seq (aC [x5 22 6,aV 24 2 23 1,xQ 26 25 0] (.block 0 (.loop (S [Ob 28 .lss 27 26] (.seq (Ce 28 0) (.seq (.block 1 (aC [Oi 29 4 25 27,VU 30 4 29 9,Ns 4 9 30] (cC [Om 31 2,aV 32 0 1 1,On 34 33,O 35 (.x (.EM 4 (.t 9) (.t 34))),Ok 36 40 [.t 35],Q9 37 26 1 36 26 1 24 31 2]))) (cC [pR 39 27 1 27]))))))) (aC [bL 40 2 2,On 42 41,bL 2 40 42,OM 4 0] .ret))))),[.tm 2,.tm 3,.tm 4]⟩
def L32:aZ :=⟨10,S [O 2 (.alloc (.agg [E0,E0]))] (aC [yQ 4 0 0,yR 7 4 6,Of 3 (.call (C 69) []),Kp 9 0 1 3 1 1 8 2 2] .ret),[.cell 2 true 2]⟩
def L34:aZ :=⟨20,S [Pe 2] (S [Pe 3] (.seq (aC [oZ 6 0,OM 8 0] (.block 0 (.loop (S [Ob 9 .lss 8 7] (.seq (Ce 9 0) (.seq (.block 1 (aC [Om 10 8,wV 11 1 6 8 1,bL 4 10 12] (cC [bL 13 3 5,zW 15 4 70 14,O 17 (.x (.VQ 5 1 1 (.t 13) (.t 16))),Om 3 17]))) (cC [pR 18 8 1 8]))))))) (aC [kE 19 3 2] .ret))),[.tm 2]⟩
def L37:aZ :=⟨14,S [Ox 2 1 0,O 4 (.alloc Z0)] (aC [Ol 6 1 2,x6 7 6 0,Ot 9 5 8,O 5 (.alloc (.agg [E0,E0,E0,E0,E0])),Ns 5 5 9] (S [O 10 (.yC 73 [] [.t 5,.t 2,.t 4]),N .other] (aC [Ol 11 1 2,zW 12 1 74 11] (S [N (.store 1 (.t 4) (I 0))] .ret)))),[.cell 4 false 1]⟩
def L39:aZ :=⟨8,S [Pe 2] (.seq (S [Om 3 0,O 4 (.yB .sl false (.t 3))] (Cd 4 (S [Pe 2] .ret) .skip)) (S [O 5 (.aQ 76 7 []),Om 6 0,O 7 (.iJ 76 7 56 (.t 5) (.t 6)),Om 2 7] .ret)),[.tm 2]⟩
def L40:aZ :=⟨8,S [Pe 2] (.seq (S [Om 3 0,O 4 (.yB .sl false (.t 3))] (Cd 4 (S [Pe 2] .ret) .skip)) (S [O 5 (.aQ 3 1 []),Om 6 0,O 7 (.iJ 3 1 8 (.t 5) (.t 6)),Om 2 7] .ret)),[.tm 2]⟩
def L51:aZ :=⟨8,aC [tL 2 7 0] (aC [aV 4 0 2 1,Ol 6 1 1,Ob 7 .eql 5 6,Om 3 7] .ret),[.tm 3]⟩
def Y52_0a:bJ :=(cC [V6 17 7 72])
def Y52_0b:bJ :=(.block 4 (.seq (.iZ (.op (Of 74 (.fa 0 (.t 17))) (.op (Of 73 (.load false 1 (.t 12))) (.op (Of 75 (.load false 1 (.t 74))) (.op (Of 76 (.x (.look ⟨false,[.int .i64]⟩ E0 false (.t 73) (.t 75)))) (.op (Of 78 (.load false 1 (.t 14))) (.seq (.alt (Of 77 (.call (C 40) [.t 76])) (.alt (Of 79 (.aQ 3 1 [.t 78])) .done .no) (.alt (Of 79 (.aQ 3 1 [.t 78])) (.alt (Of 77 (.call (C 40) [.t 76])) .done .no) .no)) (.alt (O 80 (.app 3 1 8 (.t 77) (.t 79))) (.op (Om 18 80) .done) .no)))))))) (aC [Ol 81 1 11,AE 82 7 17 81,Om 84 83,ZzC 85 84 1 16 84 84 18 1 16 92 0 84,O 93 (.pick (.t 84) (.t 92) Bf)] (Cd 93 (.region [Om 94 18,Ns 1 16 94]) .skip))))
def Y52_1a:bJ :=(cC [V6 20 7 115])
def Y52_1b:bJ :=(.block 6 (aC [Ol 116 1 12,aV 117 0 20 1,O 119 (.x (.look ⟨false,[.int .i64]⟩ E0 false (.t 116) (.t 118))),Om 21 119] (aC [Ol 120 1 11,AE 121 7 20 120,Om 123 122,ZzC 124 123 1 19 123 123 21 1 19 92 0 123,O 132 (.pick (.t 123) (.t 131) Bf)] (Cd 132 (.region [Om 133 21,Ns 1 19 133]) .skip))))
noncomputable def L52:aZ :=⟨136,S [Ox 3 2 0,Pe 6,OM 7 0] (aC [Ot 23 2 3,bL 24 1 2,Ok 26 89 [.t 23,.t 24,.t 25],mV 22 26 27 0 28 1,Oe 29 22 2,O 9 (.alloc .cR),Om 8 27,Ns 1 9 28,Om 10 29] (.seq (.block 0 (aC [O5 31 10 0,Om 30 32] (Cd 30 (S [Om 33 10,Pe 6,Om 7 33] .ret) (aC [Q6 35 8 0,aV 38 0 37 1,nB 40 1 4 39,aV 42 1 41 1,Om 34 43] (Cd 34 (S [Pe 6,OM 7 0] .ret) .skip))))) (S [O 44 (.yC 90 [] [.t 9]),O 11 (.alloc .dP),Ns 1 11 44] (S [O 45 (.x .G0),O 12 (.alloc .cR),Ns 1 12 45] (.seq (aC [x5 46 8,aV 48 3 47 1,xQ 50 49 0] (.block 1 (.loop (S [Ob 52 .lss 51 50] (.seq (Ce 52 1) (.seq (.block 2 (aC [wV 53 1 49 51 1,O 14 (.alloc Z0),Ns 1 14 54] (aC [yQ 55 8 2,Pl 58 57,ZzY 59 14 58 15,Ns 7 15 60] (.seq (aC [Ol 61 1 11,AE 62 7 15 61,Oo 64 63] (Cd 64 (.exit 2) .skip)) (S [O 16 (.alloc E0)] (.seq (aC [Om 65 8,aV 66 2 15 1,aV 68 3 15 1,Ol 70 1 14,Ok 71 91 [.t 65,.t 67,.t 69,.t 70]] (.block 3 (.vF 136 (.t 71) (fX prog 52 0) Y52_0a Y52_0b [72]))) (.seq (aC [yQ 95 8 0,Pa 98 0 97,Pa 100 2 15,Pl 99 98,VT 101 100 4 99,yR 103 1 102] (Cd 104 (.region [Ol 105 1 14,Pb 106 3 1 105,Ns 1 16 106]) .skip)) (.region [Ol 107 1 12,Ol 108 1 14,Ol 109 1 16,N (.x (.iN ⟨false,[.int .i64]⟩ (.t 107) (.t 108) (.t 109)))])))))))) (cC [pR 110 51 1 51]))))))) (S [O 19 (.alloc E0)] (.seq (aC [bL 111 8 1,Om 113 2,Ok 114 91 [.t 111,.t 112,.t 113,I 1000]] (.block 5 (.vF 136 (.t 114) (fX prog 52 1) Y52_1a Y52_1b [115]))) (S [Ol 134 1 19,Ok 135 40 [.t 134],Om 6 135,OM 7 0] .ret)))))))),[.tm 6,.tm 7]⟩
theorem L52_ok:fV prog 52=some L52:=by kernel_rfl
def L54:aZ :=⟨8,S [O 2 (.dV (.c (.str ⟨#[]⟩)))] (.seq (S [Om 3 0] (.block 0 (S [O 5 (.bin false .eql (.t 3) (.c (.int .u8 (1)))),Om 4 5] (Cd 4 (S [O 2 (.dV (.c (.str ⟨#[97,99,99,101,112,116,101,100]⟩)))] .ret) (S [O 7 (.bin false .eql (.t 3) (.c (.int .u8 (2)))),Om 6 7] (Cd 6 (S [O 2 (.dV (.c (.str ⟨#[114,101,106,101,99,116,101,100]⟩)))] .ret) .skip)))))) (S [O 2 (.dV (.c (.str ⟨#[111,112,101,110]⟩)))] .ret)),[.tm 2]⟩
def L57:aZ :=⟨48,aC [Ox 2 2 0,XT 4 0] (aC [Q8 11 2 2 97,mV 10 12 13 0 14 1,bL 6 13 14] (.seq (aC [O5 15 7 0] (Cd 16 (S [Om 17 7,O 4 (.dV (.c .eU)),Om 5 17] .ret) .skip)) (.seq (aC [oZ 18 1,OM 20 0] (.block 0 (.loop (S [Ob 21 .lss 20 19] (.seq (Ce 21 0) (.seq (.block 1 (aC [Om 22 20,wV 23 1 18 20 1,bL 8 22 24] (.seq (aC [qC 25 9 98,Oo 27 26,Om 28 27,G 29 28 false (M 8),G 30 28 false (.bin false .gtr (.t 29) (I 0)),G 31 28 false (M 30),Pn 32 31 9,Pn 33 31 1,Pn 34 31 8,G 35 31 true (.bin false .sub (.t 34) (I 1)),G 36 31 true (.ia 1 none (.t 33) (.t 35)),Pg 37 31 36,G 38 31 true (.bin false .leq (.t 32) (.t 37)),VV 39 28 31 38 28] (Cd 40 (aC [XT 4 2] .ret) .skip)) (cC [bL 41 6 9,x6 43 41 4,O 45 (.ia 1 (some 1000) (.t 44) (.t 42)),N (.store 1 (.t 45) Bt)])))) (cC [pR 46 20 1 20]))))))) (aC [kE 47 6 4,OM 5 0] .ret)))),[.tm 4,.tm 5]⟩
def L63:aZ :=⟨9,S [Pf 4] (aC [bL 5 0 1,Ok 7 100 [.t 5,.t 6],Oc 8 .geq 7 0,Om 4 8] .ret),[.tm 4]⟩
def L67:aZ :=⟨38,S [Ox 1 2 0,OM 2 0] (S [O 3 (.dV (C 103))] (S [O 4 (.dV (C 104))] (S [O 6 (.yC 107 [] [.t 1]),Om 5 6] (.seq (.block 0 (aC [aV 8 0 1 1,On 10 9,Oc 11 .gtr 10 4,Om 12 11,mM 13 12 1 1 12 1,Xc 15 12 14 12 6 12,Om 18 17,mM 19 18 0 1 18 1,G 21 18 false (M 3),G 22 18 false (.call (C 109) [.t 20,.t 21]),Q7 23 18 22 18,Om 7 24] (Cd 7 (S [OM 2 3] .ret) (aC [aV 26 0 1 1,zW 28 4 109 27,Oo 30 29,Om 31 30,mM 32 31 1 1 31 1,G 34 31 false (M 5),G 35 31 false (.call (C 110) [.t 33,.t 34]),Q7 36 31 35 31,Om 25 37] (Cd 25 (S [OM 2 1] .ret) .skip))))) (S [OM 2 0] .ret))))),[.tm 2]⟩
def L69:aZ :=⟨4,S [Pe 0] (S [O 1 (.build (.agg [Z0,Z0]) [(0,(1,(I 10))),(1,(1,(I 13)))]),Pb 2 207 2 1,O 3 (.aQ 204 1 [.t 2,.c E0]),Om 0 3] .ret),[.tm 0]⟩
def L70:aZ :=⟨47,S [O 4 (.dV (.c (.str ⟨#[]⟩)))] (S [Om 8 1,Oc 9 .add 8 1,O 10 (.bin false .mul (I 11) (.t 9)),Om 5 10] (.seq (aC [Om 11 0,O 12 (.x (.BB 5 (.t 11))),xQ 13 12 0] (.block 0 (.loop (S [Ob 15 .lss 14 13] (.seq (Ce 15 0) (.seq (.block 1 (aC [Om 16 14,wV 17 1 12 14 1,bL 6 16 18] (cC [bL 19 5 6,Oc 21 .add 20 1,Om 22 7,O 23 (.conv .i64 (.t 22)),Oc 24 .add 23 1,Ob 25 .mul 21 24,EH 26 19 25 5]))) (cC [pR 27 14 1 14]))))))) (aC [Hz 28 0,Ok 30 114 [.t 29,I 3],O 31 (.x (.rG (.c (.str ⟨#[123]⟩)) (.t 30))),O 32 (.x (.rG (.t 31) (.c (.str ⟨#[58]⟩)))),Hz 33 0,O 35 (.bin false .sub (I 999) (.t 34)),Ok 36 114 [.t 35,I 3],O 37 (.x (.rG (.t 32) (.t 36))),O 38 (.x (.rG (.t 37) (.c (.str ⟨#[58]⟩)))),Om 39 5,Oc 40 .rem 39 99991,Ok 41 114 [.t 40,I 5],O 42 (.x (.rG (.t 38) (.t 41))),O 43 (.x (.rG (.t 42) (.c (.str ⟨#[125]⟩)))),Om 44 0,O 45 (.x (.rG (.t 43) (.t 44))),O 46 (.x (.rG (.t 45) (.c (.str ⟨#[10]⟩)))),Om 4 46] .ret))),[.tm 4]⟩
def L74:aZ :=⟨48,S [Om 10 1,O 11 (.call (C 116) [.t 10,.c (.str ⟨#[32]⟩)]),Om 4 11] (.seq (.iZ (.op (Pm 14 4) (.op (Pj 15 1 14 0) (.op (Pl 16 15) (.seq (.alt (Of 13 (.call (C 117) [])) (.op (Of 17 (.x (.look ⟨false,[.str]⟩ (.agg [Z0,.dP]) true (.t 13) (.t 16)))) (.op (Om 12 17) (.op (Oe 18 12 0) (.op (Oe 19 12 1) (.alt (Of 5 (.alloc (.agg [Z0,.dP]))) (.alt (Ns 2 5 18) .done .no) .no))))) (.alt (Of 5 (.alloc (.agg [Z0,.dP]))) (.alt (Of 13 (.call (C 117) [])) (.op (Of 17 (.x (.look ⟨false,[.str]⟩ (.agg [Z0,.dP]) true (.t 13) (.t 16)))) (.op (Om 12 17) (.op (Oe 18 12 0) (.op (Oe 19 12 1) (.alt (Ns 2 5 18) .done .no))))) .no) .no)) (.op (Om 6 19) .done)))))) (aC [Om 20 6,qY 21 20 4,G 23 21 true (.len none (.t 22)),F2 24 21 0 5 21,G 26 21 true (.bin false .add (.t 25) (I 1)),G 27 21 true (.bin false .eql (.t 23) (.t 26)),Pp 28 21 27,Ok 29 118 [.t 28,I 4]] (S [Pe 7] (.seq (aC [Om 30 4,O 31 (.J5 1 none (.t 30) (some (I 1)) none none),xQ 32 31 0] (.block 0 (.loop (S [Ob 34 .lss 33 32] (.seq (Ce 34 0) (.seq (.block 1 (aC [wV 35 1 31 33 1,Om 9 36] (cC [bL 37 7 9,Ok 39 119 [.t 38],Q9 40 3 1 39 3 1 8 37 7]))) (cC [pR 42 33 1 33]))))))) (cC [aV 43 1 5 1,bL 45 0 7,O 47 (.call (.t 44) [.t 45,.t 46])]))))),[]⟩
def L75:aZ :=⟨65,S [OM 2 0,Pf 3] (S [Pf 4,OM 5 0] (.seq (aC [Hz 7 0,Oc 9 .gtr 8 0,qY 10 9 0,G 12 10 true (.x (.A5 (.t 11) (I 0))),G 13 10 true (.bin false .eql (.t 12) (.c (.int .u8 (45)))),Pp 14 10 13] (Cd 14 (.region [O 4 (.dV Bt),OM 5 1]) .skip)) (.seq (aC [Hz 15 0,Om 17 5,Ob 18 .eql 16 17,Om 19 18,G 20 19 false (M 0),G 21 19 false (.x (.rE (.t 20))),G 22 19 false (M 5),G 23 19 false (.bin false .sub (.t 21) (.t 22)),G 24 19 false (.bin false .gtr (.t 23) (I 9)),Pq 25 19 24,Xa 26 25 0 5,G 30 26 false (.bin false .eql (.t 29) (.c (.int .u8 (48)))),G 31 26 false (M 30),Pn 32 31 0,G 33 31 true (.x (.rE (.t 32))),G 34 31 true (.bin false .gtr (.t 33) (I 1)),VV 35 26 31 34 26] (Cd 36 (S [OM 2 0,Pf 3] .ret) .skip)) (S [OM 6 0] (.seq (.block 0 (.loop (.seq (aC [bL 37 5 0,O 39 (.x (.rE (.t 38))),Ob 40 .lss 37 39] (Ce 40 0)) (.seq (.block 1 (.seq (aC [bL 43 0 5,O 45 (.x (.A5 (.t 43) (.t 44))),O 46 (.bin false .lss (.t 45) (.c (.int .u8 (48)))),Xa 47 46 0 5,G 51 47 false (.bin false .gtr (.t 50) (.c (.int .u8 (57)))),Pq 52 47 51] (Cd 52 (S [OM 2 0,Pf 3] .ret) .skip)) (cC [Om 53 6,O 54 (.bin false .mul (I 10) (.t 53)),bL 55 0 5,O 57 (.x (.A5 (.t 55) (.t 56))),O 58 (.bin false .sub (.t 57) (.c (.int .u8 (48)))),O 59 (.conv .i64 (.t 58)),EH 60 54 59 6]))) (cC [gR 41 5 1 5]))))) (.seq (S [Om 61 4] (Cd 61 (.region [Om 62 6,O 63 (.neg (.t 62)),Om 6 63]) .skip)) (aC [kE 64 6 2,O 3 (.dV Bt)] .ret))))))),[.tm 2,.tm 3]⟩
def L78:aZ :=⟨9,S [Pe 0] (aC [O 1 (.build (.agg [Z0,.bool false,Z0,Z0]) [(1,(1,Bt))]),O 2 (.build (.agg [Z0,Z0]) [(0,(1,(I (-2)))),(1,(1,(I 2)))]),Zzt 3 1 1 2 2 2 0 1 1 0 1 1 225 1 0] .ret),[.tm 0]⟩
def L82:aZ :=⟨15,S [Pf 6] (aC [bL 7 0 1,Ob 9 .geq 7 8,SD 10 9 0 2 6] .ret),[.tm 6]⟩
def L83:aZ :=⟨22,S [Ox 2 5 0,OM 4 0] (.seq (S [OM 5 0] (.block 0 (.loop (.seq (aC [Om 6 5,aV 7 2 2 1,lW 9 8 6] (Ce 10 0)) (.seq (.block 1 (aC [aV 13 2 2 1,nB 15 5 4 14,aV 17 0 16 1,Om 19 1,Ob 20 .eql 18 19] (Cd 20 (aC [kE 21 5 4] .ret) .skip))) (cC [gR 11 5 1 5])))))) (S [OM 4 (-1)] .ret)),[.tm 4]⟩
def L84:aZ :=⟨66,S [Ox 2 5 0,Ox 3 4 1,OM 4 0,OM 5 0] (S [Pe 6] (.seq (S [OM 7 0] (.block 0 (.loop (.seq (aC [Om 11 7,aV 12 3 2 1,lW 14 13 11] (Ce 15 0)) (.seq (.block 1 (.seq (aC [Pa 18 3 2,Pm 20 7,Pa 24 0 3,H6 19 18 21 4 20,yR 22 0 21,Pl 25 24,Of 26 (.bin false .neq (.t 23) (.t 25)),Zz4 27 26 29 3 2 31 7 5 2 30 1 29 32 4 30 31 33 4 32,G 34 27 false (.call (C 85) [.t 28,.t 33]),Q7 35 27 34 27] (Cd 36 (.exit 1) .skip)) (aC [Pm 37 6,Pa 39 3 2,Pm 41 7,Pa 44 2 3,Pt 38 5 2,H6 40 39 42 4 41,Pt 43 4 42,Pl 45 44,Ok 46 124 [.t 38,.t 43,.t 45],Oo 47 46,Q9 48 4 1 47 4 1 1 37 6] (aC [aV 51 1 3 1,Ok 53 126 [.t 52],zW 54 6 125 53,mV 50 55 56 0 57 1,Oe 58 50 2,bL 8 56 57,Om 10 58] (aC [O5 59 8 3] (Cd 60 (aC [bL 61 8 6,On 63 62,bL 4 61 63] .ret) .skip)))))) (cC [gR 16 7 1 7])))))) (aC [oZ 64 6,OM 4 3,Om 5 65] .ret))),[.tm 4,.tm 5]⟩
def L87:aZ :=⟨8,S [O 2 (.alloc (.agg [E0,E0]))] (aC [O 3 (.build (.agg [Z0,Z0]) [(0,(1,(I 10))),(1,(1,(I 13)))]),Pb 4 244 2 3,O 5 (.aQ 245 1 [.t 4,.c E0]),Om 6 0,Kp 7 0 1 5 1 1 6 2 2] .ret),[.cell 2 true 2]⟩
def Y89_0a:bJ :=(cC [V6 13 7 49])
def Y89_0b:bJ :=(.block 1 (cC [Ol 50 1 12,Om 51 50,G 52 51 false (.load false 1 (.t 11)),mM 53 51 0 13 51 1,ZAm 55 51 52 54 51,Ns 1 12 56]))
noncomputable def L89:aZ :=⟨61,aC [Ox 3 2 0,Kq 6,OM 8 0] (aC [Q8 15 2 3 97,mV 14 16 17 0 18 1,bL 9 17 18] (.seq (aC [O5 19 10 0] (Cd 20 (aC [Om 21 10,Kq 6,Om 8 21] .ret) .skip)) (.seq (aC [Q6 22 9 0,Ot 25 2 24,zW 26 1 131 25,Oo 28 27,Om 29 28,G 30 29 false (M 2),G 31 29 false (.call (C 132) [.t 30]),Q7 32 29 31 29] (Cd 33 (aC [Kq 6,OM 8 2] .ret) .skip)) (aC [qC 34 9 58,O 11 (.alloc .cR),Ns 1 11 35] (aC [Q6 36 9 0,aV 39 0 38 1,nB 41 1 4 40,aV 43 1 42 1,O 12 (.alloc (.bool false)),Ns 1 12 44] (.seq (aC [bL 45 9 1,Om 47 2,Ok 48 91 [.t 45,.t 46,.t 47,I 1000]] (.block 0 (.vF 61 (.t 48) (fX prog 89 0) Y89_0a Y89_0b [49]))) (.seq (S [Ol 57 1 12,Oo 58 57] (Cd 58 (aC [Kq 6,OM 8 10] .ret) .skip)) (S [Pm 59 9,Pm 6 59,Pl 60 11,Om 7 60,OM 8 0] .ret)))))))),[.tm 6,.tm 7,.tm 8]⟩
theorem L89_ok:fV prog 89=some L89:=by kernel_rfl
def L99:aZ :=⟨19,S [OM 4 0] (.seq (aC [oZ 6 0,OM 8 0] (.block 0 (.loop (S [Ob 9 .lss 8 7] (.seq (Ce 9 0) (.seq (.block 1 (aC [kE 10 8 5] (aC [bL 11 1 0,nB 13 5 1 12,Ol 15 1 14,O 16 (.call (.t 11) [.t 15])] (Cd 16 (aC [kE 17 5 4] .ret) .skip)))) (cC [pR 18 8 1 8]))))))) (S [OM 4 (-1)] .ret)),[.tm 4]⟩
def L100:aZ :=⟨19,S [OM 4 0] (.seq (aC [oZ 6 0,OM 8 0] (.block 0 (.loop (S [Ob 9 .lss 8 7] (.seq (Ce 9 0) (.seq (.block 1 (aC [kE 10 8 5] (aC [bL 11 1 0,nB 13 5 1 12,Ol 15 1 14,Ob 16 .eql 11 15] (Cd 16 (aC [kE 17 5 4] .ret) .skip)))) (cC [pR 18 8 1 8]))))))) (S [OM 4 (-1)] .ret)),[.tm 4]⟩
def L103:aZ :=⟨6,S [Pf 2] (aC [oZ 3 0,Oc 5 .leq 4 6,Om 2 5] .ret),[.tm 2]⟩
def L119:aZ :=⟨26,S [OM 2 0] (aC [qC 6 0 167,mV 5 7 8 0 9 1,bL 3 8 9] (aC [Om 10 4,O 11 (.x (.LN false (.t 10))),qY 12 11 3,G 14 12 true (.call (C 65) [.t 13]),Pn 15 12 0,G 16 12 true (.x (.eqv false ⟨false,[.str]⟩ (.t 14) (.t 15))),Pp 17 12 16,qY 18 17 0,G 20 18 true (.call (C 168) [.t 19,.c (.str ⟨#[45]⟩)]),G 21 18 true (.x (.rE (.t 20))),G 22 18 true (.bin false .leq (.t 21) (I 9)),Pp 23 18 22,Ok 24 118 [.t 23,I 4]] (aC [kE 25 3 2] .ret))),[.tm 2]⟩
theorem L119_ok:fV prog 119=some L119:=by kernel_rfl
def L123:aZ :=⟨95,S [Ox 5 2 0,O 10 (.alloc (.agg [Z0,Z0]))] (aC [aV 17 0 5 1,nB 19 2 4 18,Ot 21 4 20,O 11 (.alloc (.agg [Z0,.bool false,Z0,Z0])),Ns 4 11 21] (.seq (aC [aV 22 1 11 1] (Cd 23 (S [Oa 24 2 11,Ot 25 2 24,Ns 2 10 25] .ret) .skip)) (aC [O 26 (.build (.agg [Z0,Z0]) [(0,(1,(I (-1099511627776)))),(1,(1,(I 1099511627776)))]),SG 12 2 26] (.seq (S [OM 13 0] (.block 0 (.loop (.seq (aC [Om 27 13,aV 28 1 5 1,lW 30 29 27] (Ce 31 0)) (.seq (.block 1 (aC [aV 34 1 5 1,nB 36 13 7 35,Ot 38 7 37,V6 14 7 38] (.seq (aC [Pa 39 1 14,Pm 41 2,Pl 40 39,Of 42 (.bin false .neq (.t 40) (.t 41)),Pm 43 42,Gf 44 43 false (.fa 0 (.t 14)),Gf 46 43 false (M 4),Gf 45 43 false (.load false 1 (.t 44)),Gf 47 43 false (.bin false .geq (.t 45) (.t 46)),Of 48 (.pick (.t 43) Bt (.t 47)),Pm 49 48,Gf 51 49 false (M 3),Gf 50 49 false (.load true 7 (.t 14)),Gf 52 49 false (.call (C 170) [.t 50,.t 51]),Gf 53 49 false (.not (.t 52)),Of 54 (.pick (.t 49) Bt (.t 53)),Pm 55 54,Gf 56 55 false (M 1),Gf 57 55 false (.vO (.t 56)),Gf 58 55 false (.fa 2000 (.t 57)),Gf 60 55 false (.fa 0 (.t 14)),Gf 59 55 false (.load false 1 (.t 58)),Gf 61 55 false (.load false 1 (.t 60)),G 62 55 false (.call (C 81) [.t 59,.t 61]),Q7 63 55 62 55] (Cd 64 (.exit 1) .skip)) (aC [aV 65 0 11 1,Om 67 3,aV 68 3 14 1,Ob 70 .sub 67 69,Ob 71 .mul 66 70,Om 15 71] (S [Pm 72 1,Pa 73 0 14,Pz 75 72,Pa 76 0 75,Pl 74 73,Of 77 (.ia 2 (some 1000) (.t 76) (.t 74)),Pt 78 2 77,Of 16 (.alloc (.agg [Z0,Z0])),Ns 2 16 78] (cC [aV 79 0 12 1,aV 81 0 16 1,Om 83 15,Ob 84 .sub 82 83,O 85 (.jB true (.t 80) (.t 84)),aV 86 1 12 1,aV 88 1 16 1,Om 90 15,Ob 91 .add 89 90,O 92 (.jB false (.t 87) (.t 91)),O 93 (.build (.agg [Z0,Z0]) [(0,(1,(.t 85))),(1,(1,(.t 92)))]),Ns 2 12 93])))))) (cC [gR 32 13 1 13])))))) (S [Ot 94 2 12,Ns 2 10 94] .ret))))),[.cell 10 true 2]⟩
def L125:aZ :=⟨73,S [Ox 2 2 0,OM 4 0,OM 5 0,Pf 6] (S [OM 7 0,OM 8 0] (.seq (S [OM 9 0] (.block 0 (.loop (.seq (aC [Om 12 9,aV 13 1 2 1,lW 15 14 12] (Ce 16 0)) (.seq (.block 1 (aC [aV 19 1 2 1,nB 21 9 3 20,Ot 23 3 22,JI 10 3 23] (.seq (aC [oZ 24 1,Om 26 7,aV 27 0 10 1,Ob 29 .add 26 28,Ob 30 .lss 25 29] (Cd 30 (S [Pm 31 7,Pa 32 0 10,Pm 35 1,Of 36 (.len none (.t 35)),Of 4 (.dV (I 3)),Pl 33 32,Ob 34 .add 31 33,Ob 37 .sub 34 36,Om 5 37,O 6 (.dV Bt)] .ret) .skip)) (.seq (aC [kE 38 7 11] (.block 2 (.loop (.seq (aC [bL 39 11 7,aV 41 0 10 1,Ob 43 .add 40 42,Ob 44 .lss 39 43] (Ce 44 2)) (.seq (.block 3 (aC [bL 47 1 11,wV 49 1 47 48 1] (Cd 50 (cC [gR 51 8 1 8]) .skip))) (cC [gR 45 11 1 11])))))) (aC [Om 53 7,aV 54 0 10 1,EH 56 53 55 7] (.seq (aC [Om 57 8,aV 58 1 10 1,Ob 60 .leq 57 59] (Cd 60 (aC [oZ 61 1,Om 63 7,Ob 64 .eql 62 63,OM 4 1,OM 5 0,Om 6 64] .ret) .skip)) (aC [Om 65 8,aV 66 2 10 1,Ob 68 .geq 65 67] (Cd 68 (aC [oZ 69 1,Om 71 7,Ob 72 .eql 70 71,OM 4 2,OM 5 0,Om 6 72] .ret) .skip)))))))) (cC [gR 17 9 1 9])))))) (S [OM 4 0,OM 5 0,Pf 6] .ret))),[.tm 4,.tm 5,.tm 6]⟩
def L137:aZ :=⟨33,S [Ox 3 2 0,O 6 (.alloc (.agg [Z0,Z0])),OM 7 0] (aC [Ot 13 2 3,bL 14 1 2,Ok 16 89 [.t 13,.t 14,.t 15],mV 12 16 17 0 18 1,Oe 19 12 2,bL 8 17 18,Om 10 19] (.seq (aC [O5 20 10 0] (Cd 21 (S [O 22 (.build (.agg [Z0,Z0]) []),Om 23 10,Ns 2 6 22,Om 7 23] .ret) .skip)) (aC [qC 24 8 174,Om 11 25] (.seq (aC [qC 26 11 175] (Cd 27 (S [O 28 (.build (.agg [Z0,Z0]) []),Ns 2 6 28,OM 7 9] .ret) .skip)) (aC [bL 29 11 1,Om 31 2,Ok 32 176 [.t 29,.t 30,.t 31,I 1000],Ns 2 6 32,OM 7 0] .ret))))),[.cell 6 true 2,.tm 7]⟩
def L150:aZ :=⟨5,S [Pf 2] (S [Om 3 0,Ok 4 151 [.t 3,I 0,I 39],Om 2 4] .ret),[.tm 2]⟩
def L155:aZ :=⟨8,aC [tL 2 3 0] (aC [Ol 4 1 1,AE 5 3 2 4,Oo 7 6,Om 3 7] .ret),[.tm 3]⟩
def L163:aZ :=⟨57,aC [Om 6 1,V5 7 1 6 0 1,Ok 9 208 [.t 8,I 1,I 99],VR 10 9 1 1 1 208 4 30,VR 16 15 1 1 2 208 0 1000,Ok 22 118 [.t 21,I 2]] (aC [bL 24 0 1,V5 26 1 25 0 1,Ok 28 209 [.t 24,.t 27],mV 23 28 29 0 30 1,bL 4 29 30] (S [Om 31 5,Oo 32 31,Ok 33 118 [.t 32,I 6]] (.iZ (.op (Pm 34 0) (.op (Pm 35 0) (.op (Pz 36 35) (.op (Pa 37 0 36) (.op (Pa 38 2 37) (.op (Pm 41 4) (.op (Pm 42 1) (.op (Pj 43 1 42 0) (.op (Pm 45 1) (.op (Pj 46 1 45 1) (.op (Pm 48 1) (.op (Pj 49 1 48 2) (.op (Pl 39 38) (.op (Pl 44 43) (.op (Pl 47 46) (.op (Pl 50 49) (.op (Of 51 (.build (.agg [Z0,Z0,Z0,.bool false]) [(0,(1,(.t 44))),(1,(1,(.t 47))),(2,(1,(.t 50)))])) (.seq (.alt (Of 40 (.call (C 41) [.t 39])) (.alt (Of 52 (.aQ 77 4 [.t 51])) .done .no) (.alt (Of 52 (.aQ 77 4 [.t 51])) (.alt (Of 40 (.call (C 41) [.t 39])) .done .no) .no)) (.alt (Ok 53 210 [.t 40,.t 41,.t 52]) (.op (Oz 54 34) (.op (Oa 55 0 54) (.op (Oa 56 2 55) (.alt (Ns 1 56 53) .done .no)))) .no)))))))))))))))))))))),[]⟩
def L164:aZ :=⟨107,aC [Om 11 1,V5 12 1 11 1 1,Ok 14 208 [.t 13,I 2,I 5],VR 15 14 1 1 2 208 0 1000,VR 21 20 1 1 3 208 0 2000,Ok 27 118 [.t 26,I 2]] (aC [bL 29 0 1,V5 31 1 30 0 1,Ok 33 209 [.t 29,.t 32],mV 28 33 34 0 35 1,bL 4 34 35] (S [Om 36 5,Ok 37 118 [.t 36,I 7]] (aC [Q6 38 0 0,aV 41 2 40 1,nB 43 4 4 42,Ot 45 4 44,ZAv 6 4 45] (aC [aV 46 3 6 1,Oo 48 47,qY 49 48 0,ZAp 51 49 4 6 49 55 50,G 53 49 true (.bin false .eql (.t 52) (.c (.int .u8 (3)))),Pp 54 49 53,Ok 55 118 [.t 54,I 8]] (S [OM 7 0] (.seq (aC [Q6 56 0 0,aV 59 3 58 1,xQ 61 60 0] (.block 0 (.loop (S [Ob 63 .lss 62 61] (.seq (Ce 63 0) (.seq (.block 1 (aC [Oi 64 4 60 62,VU 65 4 64 9,Ns 4 9 65] (aC [aV 66 0 9 1,aV 68 0 6 1,Ob 70 .eql 67 69] (Cd 70 (cC [gR 71 7 1 7]) .skip)))) (cC [pR 73 62 1 62]))))))) (aC [Om 74 7,aV 75 1 6 1,Ob 77 .lss 74 76,Ok 78 118 [.t 77,I 3]] (aC [qX 79 1 1 0,qX 82 1 1 1,qX 85 1 1 2,qX 88 1 1 3,nQ 81 80 84 83,nQ 87 86 90 89,O 91 (.build (.agg [Z0,Z0,Z0,Z0]) [(0,(1,(.t 81))),(1,(1,(.t 84))),(2,(1,(.t 87))),(3,(1,(.t 90)))]),Of 10 (.alloc (.agg [Z0,Z0,Z0,Z0])),Ns 4 10 91] (aC [Om 92 0,OJ 93 4 10 24 92,Ok 95 118 [.t 94,I 10]] (cC [Pm 96 0,yQ 97 0 0,yR 100 3 99,Pt 102 4 10,Ok 103 211 [.t 101,.t 102],x6 104 96 0,Oa 106 3 105,Ns 1 106 103])))))))))),[]⟩
@[simp] def L171a:LT:=.alt (Of 32 (.app 3 1 8 (.t 29) (.t 31))) .done .no
@[simp] def L171b:LT:=.alt (Pt 26 2 4) (.alt (Of 29 (.iJ 3 1 8 (.t 27) (.t 28))) L171a .no) (.alt (Of 29 (.iJ 3 1 8 (.t 27) (.t 28))) (.alt (Pt 26 2 4) L171a (.alt (Of 32 (.app 3 1 8 (.t 29) (.t 31))) (.op (Pt 26 2 4) .done) .no)) .no)
@[simp] def L171c:LT:=.alt (Of 29 (.iJ 3 1 8 (.t 27) (.t 28))) (.alt (Of 31 (.aQ 3 1 [.t 30])) L171a .no) (.alt (Of 31 (.aQ 3 1 [.t 30])) (.alt (Of 29 (.iJ 3 1 8 (.t 27) (.t 28))) L171a .no) .no)
@[simp] def L171d:LT:=.alt (Of 27 (.aQ 3 1 [])) (.alt (Of 29 (.iJ 3 1 8 (.t 27) (.t 28))) L171a .no) .no
def L171:aZ :=⟨40,S [Ox 4 2 0,Pe 8] (.seq (aC [OI 11 3 0] (Cd 12 (S [O 13 (.aQ 3 1 []),Om 14 1,O 15 (.iJ 3 1 8 (.t 13) (.t 14)),Pb 16 26 1 15,Om 8 16] .ret) .skip)) (S [Pe 9] (.seq (aC [kE 17 2 10] (.block 0 (.loop (.seq (aC [Om 18 10,aV 19 1 4 1,lW 21 20 18] (Ce 22 0)) (.seq (.block 1 (.iZ (.op (Pm 25 9) (.op (Pm 28 1) (.op (Pm 30 10) (.op (Pm 33 10) (.op (Of 34 (.bin false .add (.t 33) (I 1))) (.op (Pm 35 3) (.op (Of 36 (.bin false .sub (.t 35) (I 1))) (.seq (.alt (Pt 26 2 4) (.alt (Of 27 (.aQ 3 1 [])) L171c (.alt (Of 31 (.aQ 3 1 [.t 30])) L171d .no)) (.alt (Of 27 (.aQ 3 1 [])) (.alt (Pt 26 2 4) L171c (.alt (Of 29 (.iJ 3 1 8 (.t 27) (.t 28))) (.alt (Pt 26 2 4) (.alt (Of 31 (.aQ 3 1 [.t 30])) L171a .no) (.alt (Of 31 (.aQ 3 1 [.t 30])) (.alt (Pt 26 2 4) L171a (.alt (Of 32 (.app 3 1 8 (.t 29) (.t 31))) (.op (Pt 26 2 4) .done) .no)) .no)) (.alt (Of 31 (.aQ 3 1 [.t 30])) L171b .no))) (.alt (Of 31 (.aQ 3 1 [.t 30])) (.alt (Pt 26 2 4) L171d (.alt (Of 27 (.aQ 3 1 [])) L171b .no)) .no))) (.alt (Ok 37 171 [.t 26,.t 32,.t 34,.t 36]) (.alt (Py 38 26 1 24 25 37) (.op (Om 9 38) .done) .no) .no))))))))))) (cC [gR 23 10 1 10])))))) (aC [kE 39 9 8] .ret)))),[.tm 8]⟩
def L177:aZ :=⟨15,S [Pf 6] (aC [bL 7 1 0,Ob 9 .leq 7 8,SD 10 9 0 2 6] .ret),[.tm 6]⟩
def L178:aZ :=⟨9,aC [tL 3 1 1] (aC [Om 5 0,VS 6 226 3 225 5,Oo 8 7,Om 4 8] .ret),[.tm 4]⟩
def L179:aZ :=⟨6,aC [tL 1 3 0] (aC [aV 3 0 1 1,Oc 5 .geq 4 1,Om 2 5] .ret),[.tm 2]⟩
def L196:aZ :=⟨29,S [Ox 3 3 1,Pe 4] (.seq (aC [x5 6 0,aV 8 2 7 1,xQ 10 9 0] (.block 0 (.loop (S [Ob 12 .lss 11 10] (.seq (Ce 12 0) (.seq (.block 1 (aC [kE 13 11 5] (aC [Om 14 0,aV 15 0 3 1,NL 17 5 244 14 16,Oc 19 .eql 18 (-1)] (Cd 19 (cC [Om 20 4,aV 21 0 3 1,Om 23 5,O 24 (.build (.agg [Z0,Z0,Z0]) [(0,(1,(.t 22))),(1,(1,(I (-1)))),(2,(1,(.t 23)))]),Q9 25 262 3 24 262 3 24 20 4]) .skip)))) (cC [pR 27 11 1 11]))))))) (aC [kE 28 4 4] .ret)),[.tm 4]⟩
def L198:aZ :=⟨20,S [Ox 3 3 1,Pe 4] (aC [yQ 5 0 2,Pa 9 2 3,Pa 11 1 3,Pa 16 2 3,nQ 8 7 10 9,Of 13 (.ia 4 none (.t 8) (.t 10)),Pl 12 11,Of 14 (.ia 1 (some 4) (.t 13) (.t 12)),nQ 15 14 17 16,O 18 (.build (.agg [Z0,Z0,Z0]) [(0,(1,(.t 15))),(1,(1,(I (-1)))),(2,(1,(.t 17)))]),Pb 19 262 3 18,Om 4 19] .ret),[.tm 4]⟩
def L216:aZ :=⟨53,S [Ox 4 2 0,Ox 5 7 1,Pf 8] (aC [aV 11 0 4 1,aV 13 2 5 1,Oi 15 4 12 14,aV 16 1 15 1,Om 9 17] (.seq (S [OM 10 0] (.block 0 (.loop (.seq (aC [Om 18 10,aV 19 1 4 1,lW 21 20 18] (Ce 22 0)) (.seq (.block 1 (cC [Pm 25 9,Zz4 26 25 28 1 4 30 10 7 5 29 1 28 31 7 29 30 32 7 31,Gf 33 26 false (.call (C 265) [.t 27,.t 32]),Gf 34 26 false (M 33),Gf 35 34 true (M 3),Gf 36 34 true (.fa 1 (.t 4)),Gf 38 34 true (M 10),Pi 37 34 36,Gf 39 34 true (.ia 7 none (.t 37) (.t 38)),Gf 40 34 true (.fa 0 (.t 39)),Pi 41 34 40,G 42 34 true (.call (C 81) [.t 35,.t 41]),VV 43 26 34 42 26,Om 9 44])) (cC [gR 23 10 1 10])))))) (aC [Om 45 9,qY 46 45 2,F2 48 46 0 5 46,G 50 46 true (.call (C 81) [.t 47,.t 49]),JK 51 46 50 46,Om 8 52] .ret))),[.tm 8]⟩
@[simp] def L219a:LT:=.alt (Of 36 (.call (C 221) [.t 33,.t 35])) .done .no
@[simp] def L219b:LT:=.alt (Pl 23 22) (.alt (Ok 33 176 [.t 26,.t 28,.t 30,.t 32]) L219a .no) (.alt (Ok 33 176 [.t 26,.t 28,.t 30,.t 32]) (.op (Pl 23 22) L219a) .no)
@[simp] def L219c:LT:=.alt (Pl 23 22) (.alt (Pl 25 24) (.alt (Ok 33 176 [.t 26,.t 28,.t 30,.t 32]) L219a .no) (.alt (Ok 33 176 [.t 26,.t 28,.t 30,.t 32]) (.op (Pl 25 24) L219a) .no)) (.alt (Pl 25 24) L219b (.alt (Ok 33 176 [.t 26,.t 28,.t 30,.t 32]) (.op (Pl 23 22) (.op (Pl 25 24) L219a)) .no))
@[simp] def L219d:LT:=.alt (Pl 23 22) (.alt (Ok 33 176 [.t 26,.t 28,.t 30,.t 32]) (.op (Pt 35 2 34) L219a) (.alt (Pt 35 2 34) (.alt (Ok 33 176 [.t 26,.t 28,.t 30,.t 32]) L219a .no) .no)) (.alt (Ok 33 176 [.t 26,.t 28,.t 30,.t 32]) (.op (Pl 23 22) (.op (Pt 35 2 34) L219a)) (.alt (Pt 35 2 34) L219b .no))
@[simp] def L219e:LT:=.alt (Pl 20 2) (.op (Pz 21 20) (.op (Pa 22 2 21) L219b)) (.alt (Ok 33 176 [.t 26,.t 28,.t 30,.t 32]) (.op (Pl 20 2) (.op (Pz 21 20) (.op (Pa 22 2 21) (.op (Pl 23 22) L219a)))) .no)
@[simp] def L219f:LT:=.op (Pl 25 24) (.op (Pt 35 2 34) L219a)
def L219:aZ :=⟨41,.seq (aC [oZ 6 0,Oc 8 .eql 7 0] (Cd 8 .ret .skip)) (.seq (aC [qX 13 0 1 0,Pl 9 1,Pz 10 9,yR 11 2 10,ZzY 15 14 12 5,Ns 7 5 16] (aC [Ol 17 1 2,OJ 18 7 5 220 17] (Cd 19 (.iZ (.op (Pa 24 0 5) (.op (Pa 27 2 5) (.op (Pa 29 3 5) (.op (Pa 31 0 5) (.op (Pa 34 5 5) (.op (Pl 26 2) (.op (Pl 28 27) (.op (Pl 30 29) (.op (Pl 32 31) (.seq (.alt (Pl 20 2) (.op (Pz 21 20) (.op (Pa 22 2 21) (.alt (Pl 23 22) (.alt (Pl 25 24) (.alt (Ok 33 176 [.t 26,.t 28,.t 30,.t 32]) (.op (Pt 35 2 34) L219a) (.alt (Pt 35 2 34) (.alt (Ok 33 176 [.t 26,.t 28,.t 30,.t 32]) L219a .no) .no)) (.alt (Ok 33 176 [.t 26,.t 28,.t 30,.t 32]) L219f (.alt (Pt 35 2 34) (.alt (Pl 25 24) (.alt (Ok 33 176 [.t 26,.t 28,.t 30,.t 32]) L219a .no) (.alt (Ok 33 176 [.t 26,.t 28,.t 30,.t 32]) (.op (Pl 25 24) L219a) .no)) .no))) (.alt (Pl 25 24) L219d (.alt (Ok 33 176 [.t 26,.t 28,.t 30,.t 32]) (.op (Pl 23 22) L219f) (.alt (Pt 35 2 34) L219c .no)))))) (.alt (Pl 25 24) (.alt (Pl 20 2) (.op (Pz 21 20) (.op (Pa 22 2 21) L219d)) (.alt (Ok 33 176 [.t 26,.t 28,.t 30,.t 32]) (.op (Pl 20 2) (.op (Pz 21 20) (.op (Pa 22 2 21) (.op (Pl 23 22) (.op (Pt 35 2 34) L219a))))) (.alt (Pt 35 2 34) L219e .no))) (.alt (Ok 33 176 [.t 26,.t 28,.t 30,.t 32]) (.op (Pl 20 2) (.op (Pz 21 20) (.op (Pa 22 2 21) (.op (Pl 23 22) L219f)))) (.alt (Pt 35 2 34) (.alt (Pl 20 2) (.op (Pz 21 20) (.op (Pa 22 2 21) L219c)) (.alt (Pl 25 24) L219e (.alt (Ok 33 176 [.t 26,.t 28,.t 30,.t 32]) (.op (Pl 20 2) (.op (Pz 21 20) (.op (Pa 22 2 21) (.op (Pl 23 22) (.op (Pl 25 24) L219a))))) .no))) .no)))) (.alt (N (.x (.iN ⟨false,[.int .i64]⟩ (.t 23) (.t 25) (.t 36)))) .done .no)))))))))))) .skip))) (.region [Pm 38 0,Of 39 (.J5 1 none (.t 38) (some (I 1)) none none),Pl 37 3,O 40 (.call (.t 37) [.t 39])])),[]⟩
def L221:aZ :=⟨28,S [Ox 2 2 0,Ox 3 2 1,O 4 (.alloc (.agg [Z0,Z0]))] (S [O 7 (.build (.agg [.dP]) [(0,(1,(C 267)))]),O 8 (.build (.agg [.dP]) [(0,(1,(C 268)))]),O 5 (.alloc (.agg [.dP])),O 6 (.alloc (.agg [.dP])),Ns 1 5 7,Ns 1 6 8] (S [Pa 9 0 5,Pa 13 0 5,Pa 18 0 6,Pa 22 0 6,Pl 10 9,Pt 11 2 2,Pl 14 13,Pt 15 2 3,Pl 19 18,Pt 20 2 2,Pl 23 22,Pt 24 2 3,Of 12 (.call (.t 10) [.t 11]),Of 16 (.call (.t 14) [.t 15]),Of 17 (.bin false .add (.t 12) (.t 16)),Of 21 (.call (.t 19) [.t 20]),O 25 (.call (.t 23) [.t 24]),Ob 26 .add 21 25,O 27 (.build (.agg [Z0,Z0]) [(0,(1,(.t 17))),(1,(1,(.t 26)))]),Ns 2 4 27] .ret)),[.cell 4 true 2]⟩
def L223:aZ :=⟨18,S [Ox 2 2 0,Ox 3 2 1,O 4 (.alloc (.agg [Z0,Z0]))] (.seq (.iZ (.op (Pa 5 0 2) (.op (Pa 7 0 3) (.op (Pa 11 1 2) (.op (Pa 13 1 3) (.op (Pl 6 5) (.op (Pl 8 7) (.op (Pl 12 11) (.op (Pl 14 13) (.seq (.alt (Of 9 (.aQ 3 1 [.t 6,.t 8])) (.alt (Of 10 (.call (C 269) [.t 9])) (.alt (Of 15 (.aQ 3 1 [.t 12,.t 14])) .done .no) (.alt (Of 15 (.aQ 3 1 [.t 12,.t 14])) (.alt (Of 10 (.call (C 269) [.t 9])) .done .no) .no)) (.alt (Of 15 (.aQ 3 1 [.t 12,.t 14])) (.alt (Of 9 (.aQ 3 1 [.t 6,.t 8])) (.alt (Of 10 (.call (C 269) [.t 9])) .done .no) .no) .no)) (.alt (Ok 16 270 [.t 15]) (.op (O 17 (.build (.agg [Z0,Z0]) [(0,(1,(.t 10))),(1,(1,(.t 16)))])) (.alt (Ns 2 4 17) .done .no)) .no))))))))))) .ret),[.cell 4 true 2]⟩
def L235:aZ :=⟨17,S [Pf 4] (aC [qC 5 0 218,qY 7 6 1,G 9 7 true (.call (C 218) [.t 8]),JK 10 7 9 7,Om 12 11,G 13 12 false (M 0),G 14 12 false (M 1),G 15 12 false (.bin false .lss (.t 13) (.t 14)),Pq 16 12 15,Om 4 16] .ret),[.tm 4]⟩
def L254:aZ :=⟨49,S [OM 6 0,Pf 7] (aC [oZ 12 0,Om 8 13] (S [Om 14 8,OM 9 0,Om 10 14] (.seq (.block 0 (.loop (.seq (aC [bL 15 9 10,Ob 17 .lss 15 16] (Ce 17 0)) (.block 1 (aC [bL 18 9 10,ZAg 20 18 19 1 11] (aC [bL 24 2 0,nB 26 11 4 25,Ot 28 4 27,Om 29 1,O 30 (.call (.t 24) [.t 28,.t 29]),Oc 31 .lss 30 0] (Cd 31 (cC [gR 32 11 1 9]) (cC [kE 34 11 10])))))))) (aC [bL 35 9 9,Om 37 8,Ob 38 .lss 36 37,qY 39 38 2,Pn 41 39 0,Ov 42 39 9 39 4 41,G 44 39 true (.load true 4 (.t 43)),Pn 45 39 1,G 46 39 true (.call (.t 40) [.t 44,.t 45]),SC 47 39 46 0 39,bL 6 35 48] .ret)))),[.tm 6,.tm 7]⟩
def L268:aZ :=⟨5,S [Ox 1 2 0,OM 2 0] (aC [aV 3 1 1 1,Om 2 4] .ret),[.tm 2]⟩
end
noncomputable section
def L3:aZ :=⟨79,S [Pf 2] (.seq (aC [qC 10 0 4,Oo 12 11] (Cd 12 (S [Ok 13 5 [],Om 2 13] .ret) .skip)) (aC [qC 15 0 7,Ok 17 6 [.t 16],mV 14 17 18 0 19 1,Oe 20 14 2,FI 3 5 18,bL 4 19 20] (.seq (aC [qC 21 0 8,Om 6 22] (aC [O5 23 6 0] (Cd 24 (aC [bL 25 5 6,Ob 27 .eql 25 26,qY 28 27 4,G 30 28 true (.len none (.t 29)),SC 31 28 30 0 28,JH 33 32 5 3,G 35 33 true (.call (C 10) [.t 34]),G 36 33 true (.build (.agg [E0,E0,E0,E0,E0]) []),FH 37 33 9 35 36 33,Om 39 38,G 40 39 true (.call (C 5) []),Pp 41 39 40,Om 2 41] .ret) .skip))) (aC [qC 43 0 11,mV 42 44 45 0 46 1,FI 7 5 45,Om 8 46] (.seq (aC [Pm 47 5,Of 48 (.bin false .neq (.t 47) (I 0)),Pm 49 48,Gf 50 49 false (M 4),Gf 51 49 false (.len none (.t 50)),Gf 52 49 false (M 8),Gf 53 49 false (.len none (.t 52)),Gf 54 49 false (.bin false .neq (.t 51) (.t 53)),Of 55 (.pick (.t 49) Bt (.t 54)),Pm 56 55,Gf 57 56 false (.load true 5 (.t 3)),Gf 59 56 false (.load true 5 (.t 7)),Gf 58 56 false (.call (C 10) [.t 57]),G 60 56 false (.call (C 9) [.t 58,.t 59]),Q7 61 56 60 56] (Cd 62 (S [Pf 2] .ret) .skip)) (.seq (S [OM 9 0] (.block 0 (.loop (.seq (aC [bL 63 9 8,lW 65 64 63] (Ce 66 0)) (.seq (.block 1 (aC [JJ 69 4 9 1,JJ 73 8 9 1,nQ 72 71 76 75,Ob 77 .neq 72 76] (Cd 77 (S [Pf 2] .ret) .skip))) (cC [gR 67 9 1 9])))))) (S [Ok 78 5 [],Om 2 78] .ret))))))),[.tm 2]⟩
def L5:aZ :=⟨108,S [Pf 0] (aC [Ok 11 12 [],O 12 (.aQ 9 1 [.c (.str ⟨#[116,101,115,116,32,55,32,51,32,50,48,32,54,48,48]⟩),.c (.str ⟨#[98,97,100,32,49]⟩),.c (.str ⟨#[116,101,115,116,32,55,32,50,32,50,48,32,54,48,48]⟩)]),Py 13 9 1 16 11 12,Ok 14 6 [.t 13],mV 10 14 15 0 16 1,Oe 17 10 2,FI 1 5 15,bL 2 16 17] (aC [Ok 19 12 [],Ok 20 13 [.t 19,I 1],mV 18 20 21 0 22 1,bL 4 21 22] (aC [Ok 24 12 [],Ok 25 14 [.t 24],mV 23 25 26 0 27 1,bL 6 26 27] (aC [O 29 (.aQ 9 1 [.c (.str ⟨#[97]⟩)]),Ok 30 15 [.t 29],mV 28 30 31 0 32 1,bL 8 31 32] (aC (.append [OI 33 3 0,qY 35 34 2,G 37 35 true (.len none (.t 36)),Kr 38 35 37 7 35 2 1 0 0,qY 46 45 2,G 48 46 true (.ia 1 none (.t 47) (I 1)),Pg 49 46 48,Kr 50 46 49 0 46 2 1 2 0,qY 58 57 2,G 60 58 true (.ia 1 none (.t 59) (I 3)),Pg 61 58 60,Kr 62 58 61 0 58 2 1 4 10,qY 70 69 2,G 72 70 true (.ia 1 none (.t 71) (I 5)),Pg 73 70 72,Kr 74 70 73 0 70 2 1 6 10,qY 82 81 5,SC 84 82 83 0 82,qY 86 85 4,G 88 86 true (.aQ 3 1 [I 0,I 1]),FH 89 86 16 87 88 86,qY 91 90 7,SC 93 91 92 0 91,qY 95 94 6,G 97 95 true (.x (.eqv false ⟨false,[.str]⟩ (.t 96) (.c (.str ⟨#[108,111,116,32,55,32,116,101,115,116,115,32,50,32,111,112,101,110,10,99,101,114,116,115,32,49,32,104,101,108,100,32,49,32,98,97,100,32,48,10,101,110,100,32,48,10]⟩)))),Pp 98 95 97,qY 99 98 9,SC 101 99 100 0 99] [qY 103 102 8,G 105 103 true (.x (.TW (.t 104))),G 106 103 true (.x (.eqv false ⟨false,[.str]⟩ (.t 105) (.c (.str ⟨#[123,48,48,49,58,57,57,56,58,48,48,49,48,57,125,97,10]⟩)))),Pp 107 103 106,Om 0 107]) .ret))))),[.tm 0]⟩
def L13:aZ :=⟨70,S [Pe 4,OM 5 0] (.seq (aC [qC 13 0 17,Om 6 14] (aC [O5 15 6 0] (Cd 16 (S [Om 17 6,Pe 4,Om 5 17] .ret) .skip))) (aC [qC 19 0 18,mV 18 20 21 0 22 1,bL 7 21 22] (.seq (aC [bL 23 7 1,Ok 25 22 [.t 23,.t 24],Oo 26 25] (Cd 26 (S [Pe 4,OM 5 7] .ret) .skip)) (aC [Q6 27 7 0,Ot 30 5 29,O 31 (.build (.agg [E0,E0,E0,E0,E0]) [(0,(5,(.t 30)))]),Ox 32 5 31,Om 9 32] (aC [bL 33 9 7,x6 35 34 0,aV 37 1 36 1,zW 39 1 23 38,x6 41 33 0,Oa 43 1 42,Ns 1 43 40] (S [Pe 10] (.seq (aC [Q6 44 7 0,aV 47 3 46 1,xQ 49 48 0] (.block 0 (.loop (S [Ob 51 .lss 50 49] (.seq (Ce 51 0) (.seq (.block 1 (aC [Om 52 50,Oi 53 4 48 50,VU 54 4 53 12,Om 11 52,Ns 4 12 54] (aC [Om 55 7,OJ 56 4 12 24 55,qY 58 57 9,ZAp 60 58 4 12 58 24 59,JK 62 58 61 58] (Cd 63 (cC [bL 64 10 11,Q9 66 3 1 65 3 1 8 64 10]) .skip)))) (cC [pR 68 50 1 50]))))))) (aC [kE 69 10 4,OM 5 0] .ret)))))))),[.tm 4,.tm 5]⟩
def L20:aZ :=⟨19,S [Pf 2] (.seq (S [OM 3 0] (.block 0 (.loop (.seq (aC [bL 4 3 0,lW 6 5 4] (Ce 7 0)) (.seq (.block 1 (aC [bL 10 0 3,wV 12 1 10 11 1,O 14 (.x (.rE (.t 13))),Oc 15 .gtr 14 200] (Cd 15 (S [Pf 2] .ret) .skip))) (cC [gR 8 3 1 3])))))) (aC [oZ 16 0,Oc 18 .leq 17 50,Om 2 18] .ret)),[.tm 2]⟩
def L29:aZ :=⟨15,S [Ox 1 1 0,O 2 (.alloc (.agg [E0,E0]))] (aC [Ol 4 1 1,x6 5 4 0,aV 7 0 6 1,Ok 9 39 [.t 8],VS 10 62 1 61 9,Om 3 11] (aC [Ok 12 64 [],Om 13 3,Kp 14 0 1 12 1 1 13 2 2] .ret)),[.cell 2 true 2]⟩
@[simp] def L47a:LT:=.alt (Of 112 (.iJ 70 4 32 (.t 109) (.t 111))) .done .no
def L47:aZ :=⟨118,aC [Ox 2 5 0,SH 4 0] (.seq (aC [Om 13 1,V5 14 1 13 1 1,TJ 16 82 15 2 5,VW 18 17 1 1 2 1 82 0 1000,VW 25 24 1 1 3 1 82 0 2000] (Cd 31 (aC [uF 32 5 2 5 4 5 2] .ret) .skip)) (aC [qX 34 1 1 0,Pt 33 5 2,Pl 36 35,Ok 37 83 [.t 33,.t 36],Om 6 37] (.seq (S [Om 38 6,Oc 39 .lss 38 0] (Cd 39 (aC [uF 40 5 2 5 4 5 7] .ret) .skip)) (.seq (aC [Pa 43 2 2,Pm 45 6,Pt 42 5 2,H6 44 43 46 4 45,Pt 47 4 46,Ok 48 84 [.t 42,.t 47],mV 41 48 49 0 50 1,bL 7 49 50] (aC [O5 51 7 3,Om 53 52,mM 54 53 2 2 53 1,G 56 53 false (M 6),G 57 53 false (.ia 4 none (.t 55) (.t 56)),mM 58 53 3 57 53 1,Pq 60 53 59] (Cd 60 (aC [uF 61 5 2 5 4 5 8] .ret) .skip))) (S [OM 9 0] (.seq (S [OM 10 0] (.block 0 (.loop (.seq (aC [Om 62 10,aV 63 3 2 1,lW 65 64 62] (Ce 66 0)) (.seq (.block 1 (aC [Pa 69 3 2,Pm 71 10,qX 75 1 1 0,H6 70 69 72 4 71,yR 73 0 72,Pl 77 76,Ob 78 .eql 74 77] (Cd 78 (cC [gR 79 9 1 9]) .skip))) (cC [gR 67 10 1 10])))))) (.seq (aC [Om 81 9,aV 82 2 2 1,nB 84 6 4 83,aV 86 1 85 1,Ob 88 .geq 81 87] (Cd 88 (aC [uF 89 5 2 5 4 5 3] .ret) .skip)) (aC [qX 90 1 1 0,qX 93 1 1 1,qX 96 1 1 2,qX 99 1 1 3,nQ 92 91 95 94,nQ 98 97 101 100,O 102 (.build (.agg [Z0,Z0,Z0,Z0]) [(0,(1,(.t 92))),(1,(1,(.t 95))),(2,(1,(.t 98))),(3,(1,(.t 101)))]),Of 11 (.alloc (.agg [Z0,Z0,Z0,Z0])),Ns 4 11 102] (.seq (aC [Ot 103 5 2,OJ 104 4 11 85 103,Oo 106 105] (Cd 106 (aC [uF 107 5 2 5 4 5 10] .ret) .skip)) (aC [Ot 108 5 2,FI 12 5 108] (.seq (.iZ (.op (Pa 110 3 2) (.op (Pl 111 110) (.op (Pt 113 4 11) (.seq (.alt (Of 109 (.aQ 70 4 [])) (.alt (Of 112 (.iJ 70 4 32 (.t 109) (.t 111))) (.alt (Of 114 (.aQ 70 4 [.t 113])) .done .no) (.alt (Of 114 (.aQ 70 4 [.t 113])) L47a .no)) (.alt (Of 114 (.aQ 70 4 [.t 113])) (.alt (Of 109 (.aQ 70 4 [])) L47a .no) .no)) (.alt (Py 115 70 4 32 112 114) (.op (Oa 116 3 12) (.alt (Ns 1 116 115) .done .no)) .no)))))) (aC [uF 117 5 12 5 4 5 0] .ret)))))))))))),[.cell 4 true 5,.tm 5]⟩
@[simp] def L49a:LT:=.alt (Of 36 (.iJ 73 3 40 (.t 33) (.t 35))) (.alt (Of 53 (.aQ 73 3 [.t 52])) .done .no) (.alt (Of 53 (.aQ 73 3 [.t 52])) (.alt (Of 36 (.iJ 73 3 40 (.t 33) (.t 35))) .done .no) .no)
def L49:aZ :=⟨63,aC [Ox 2 5 0,SH 4 0] (.seq (aC [Om 7 1,V5 8 1 7 0 1,TJ 10 82 9 1 40,VW 12 11 1 1 1 1 82 0 40,VW 19 18 1 1 2 1 82 1 3] (Cd 25 (aC [uF 26 5 2 5 4 5 2] .ret) .skip)) (.seq (aC [aV 27 4 2 1,On 29 28,Oc 30 .geq 29 6] (Cd 30 (aC [uF 31 5 2 5 4 5 3] .ret) .skip)) (aC [Ot 32 5 2,FI 6 5 32] (.seq (.iZ (.op (Pa 34 4 2) (.op (Pm 37 1) (.op (Pj 38 1 37 0) (.op (Pm 40 1) (.op (Pj 41 1 40 1) (.op (Pm 43 1) (.op (Pj 44 1 43 2) (.op (Pm 47 1) (.op (Pj 48 1 47 2) (.op (Pl 35 34) (.op (Pl 39 38) (.op (Pl 42 41) (.op (Pl 45 44) (.op (Of 46 (.bin false .neq (.t 45) (I 2))) (.op (Pl 49 48) (.op (Of 50 (.bin false .neq (.t 49) (I 1))) (.seq (.alt (Of 33 (.aQ 73 3 [])) (.alt (Of 36 (.iJ 73 3 40 (.t 33) (.t 35))) (.alt (Of 51 (.aQ 4 1 [.t 46,.t 50])) (.op (Of 52 (.build (.agg [Z0,Z0,E0]) [(0,(1,(.t 39))),(1,(1,(.t 42))),(2,(1,(.t 51)))])) (.alt (Of 53 (.aQ 73 3 [.t 52])) .done .no)) .no) (.alt (Of 51 (.aQ 4 1 [.t 46,.t 50])) (.op (Of 52 (.build (.agg [Z0,Z0,E0]) [(0,(1,(.t 39))),(1,(1,(.t 42))),(2,(1,(.t 51)))])) L49a) .no)) (.alt (Of 51 (.aQ 4 1 [.t 46,.t 50])) (.op (Of 52 (.build (.agg [Z0,Z0,E0]) [(0,(1,(.t 39))),(1,(1,(.t 42))),(2,(1,(.t 51)))])) (.alt (Of 33 (.aQ 73 3 [])) L49a (.alt (Of 53 (.aQ 73 3 [.t 52])) (.alt (Of 33 (.aQ 73 3 [])) (.alt (Of 36 (.iJ 73 3 40 (.t 33) (.t 35))) .done .no) .no) .no))) .no)) (.alt (Py 54 73 3 40 36 53) (.op (Oa 55 4 6) (.alt (Ns 1 55 54) .done .no)) .no))))))))))))))))))) (.seq (aC [aV 56 4 6 1,Ok 58 87 [.t 57],Ok 59 86 [.t 58,I 40],Oo 60 59] (Cd 60 (aC [uF 61 5 2 5 4 5 9] .ret) .skip)) (aC [uF 62 5 6 5 4 5 0] .ret)))))),[.cell 4 true 5,.tm 5]⟩
def L55:aZ :=⟨75,S [Ox 3 4 1,O 4 (.dV (.c (.int .u8 (0))))] (S [Pe 5] (S [Om 14 0,O 15 (.yC 24 [.t 14] []),Om 6 15] (S [O 7 (.dV (.c (.int .u8 (3))))] (S [O 16 (.x .G0),Om 8 16] (.seq (aC [Q6 17 0 0,aV 20 3 19 1,xQ 22 21 0] (.block 0 (.loop (S [Ob 24 .lss 23 22] (.seq (Ce 24 0) (.seq (.block 1 (aC [Oi 25 4 21 23,VU 26 4 25 10,Ns 4 10 26] (.seq (aC [aV 27 0 10 1,aV 29 0 3 1,Ob 31 .neq 28 30] (Cd 31 (.exit 1) .skip)) (aC [aV 32 1 10 1,aV 34 2 10 1,O 36 (.build (.agg [Z0,Z0]) [(0,(1,(.t 33))),(1,(1,(.t 35)))]),SG 11 2 36] (aC [Om 38 8,Ot 39 2 11,O 40 (.x (.look ⟨true,[.int .i64,.int .i64]⟩ (.bool false) true (.t 38) (.t 39))),mV 37 40 41 0 42 1,bL 12 41 42] (.seq (S [Om 43 13,Oo 44 43] (Cd 44 (aC [Om 45 6,AE 46 4 10 45,Om 12 47] (.region [Om 48 8,Ot 49 2 11,Om 50 12,N (.x (.iN ⟨true,[.int .i64,.int .i64]⟩ (.t 48) (.t 49) (.t 50)))])) .skip)) (.seq (S [Om 51 12,Oo 52 51] (Cd 52 (.exit 1) .skip)) (aC [bL 53 5 0,Ot 55 4 10,aV 56 2 3 1,Ok 58 94 [.t 54,.t 55,.t 57],Oo 59 58,Q9 60 4 1 59 4 1 1 53 5] (aC [Q8 63 4 3 96,zW 65 5 95 64,mV 62 66 67 0 68 1,Oe 69 62 2,Om 7 67] (aC [ZAn 70 7 3] (Cd 71 (aC [kE 72 7 4] .ret) .skip))))))))))) (cC [pR 73 23 1 23]))))))) (aC [kE 74 7 4] .ret)))))),[.tm 4]⟩
def Y58_0a:bJ :=(cC [V6 8 7 42])
def Y58_0b:bJ :=(.block 3 (cC [Ol 43 1 7,Om 44 43,G 45 44 false (.load false 1 (.t 3)),mM 46 44 0 8 44 1,ZAm 48 44 45 47 44,Ns 1 7 49]))
noncomputable def L58:aZ :=⟨64,S [O 2 (.dV (.c .cR))] (S [O 9 (.x .G0),O 3 (.alloc .cR),Ns 1 3 9] (.seq (aC [x5 10 0,aV 12 3 11 1,xQ 14 13 0] (.block 0 (.loop (S [Ob 16 .lss 15 14] (.seq (Ce 16 0) (.seq (.block 1 (aC [wV 17 1 13 15 1,Om 5 18] (aC [x5 19 0,aV 21 2 20 1,Xb 23 5 22,V6 6 7 24] (aC [yQ 25 0 0,Pa 28 0 27,Pa 30 2 6,Pl 29 28,VT 31 30 4 29,yR 33 1 32,Of 7 (.alloc (.bool false)),Ns 1 7 34] (.seq (aC [Om 35 0,aV 36 2 6 1,aV 38 3 6 1,Om 40 5,Ok 41 91 [.t 35,.t 37,.t 39,.t 40]] (.block 2 (.vF 64 (.t 41) (fX prog 58 0) Y58_0a Y58_0b [42]))) (cC [Pm 51 5,nQ 50 3 52 7,Pm 53 52,XU 54 53 0 53 5,Gf 56 53 true (.vO (.t 54)),Gf 57 53 true (.fa 4 (.t 56)),Gf 58 53 true (.ia 1 (some 1000) (.t 57) (.t 55)),Pi 59 53 58,Gf 60 53 true (.not (.t 59)),Of 61 (.pick (.t 53) (.t 60) Bf),N (.x (.iN ⟨false,[.int .i64]⟩ (.t 50) (.t 51) (.t 61)))])))))) (cC [pR 62 15 1 15]))))))) (S [Ol 63 1 3,Om 2 63] .ret))),[.tm 2]⟩
theorem L58_ok:fV prog 58=some L58:=by kernel_rfl
def L59:aZ :=⟨42,S [Pe 4] (aC [bL 8 0 1,Ok 10 99 [.t 8,.t 9],Om 5 10] (.seq (S [Om 11 5,Oc 12 .eql 11 (-1)] (Cd 12 (aC [kE 13 0 4] .ret) .skip)) (.seq (aC [gR 14 5 1 6] (.block 0 (.loop (.seq (aC [bL 16 6 0,lW 18 17 16] (Ce 19 0)) (.seq (.block 1 (aC [bL 22 0 6,wV 24 1 22 23 1,Om 7 25] (aC [bL 26 1 7,O 28 (.call (.t 26) [.t 27]),Oo 29 28] (Cd 29 (aC [bL 30 0 5,Om 32 7,Oi 33 1 30 31,Ns 1 33 32] (cC [gR 34 5 1 5])) .skip)))) (cC [gR 20 6 1 6])))))) (aC [bL 36 0 5,O 38 (.J5 1 none (.t 36) (some (.t 37)) none none),N (.x (.clear 1 Z0 (.t 38)))] (aC [bL 39 0 5,O 41 (.J5 1 none (.t 39) none (some (.t 40)) none),Om 4 41] .ret))))),[.tm 4]⟩
def L64:aZ :=⟨9,S [Pe 0] (aC [O 1 (.build (.agg [Z0,.bool false,Z0,Z0]) [(1,(1,Bt))]),O 2 (.build (.agg [Z0,Z0]) [(0,(1,(I (-2)))),(1,(1,(I 2)))]),Zzt 3 1 1 2 2 2 0 1 1 0 1 1 181 1 0] .ret),[.tm 0]⟩
def L68:aZ :=⟨51,S [Ox 1 2 0,O 2 (.dV (.c .eU)),Pf 3] (S [Ot 8 2 1,O 9 (.build (.agg [E0,E0,E0]) [(0,(2,(.t 8)))]),Ox 10 3 9,Om 4 10] (S [Pe 5] (.seq (aC [aV 11 1 1 1,xQ 13 12 0] (.block 0 (.loop (S [Ob 15 .lss 14 13] (.seq (Ce 15 0) (.seq (.block 1 (aC [Om 16 14,Oi 17 3 12 14,Eo 18 3 17 7,Om 6 16,Ns 3 7 18] (cC [bL 19 5 6,Pb 21 3 1 20,aV 22 0 7 1,Ok 24 111 [.t 21,.t 23],Py 25 3 1 8 19 24,Om 5 25]))) (cC [pR 26 14 1 14]))))))) (.seq (.block 2 (.loop (.seq (aC [oZ 27 5,Oc 29 .gtr 28 0] (Ce 29 2)) (.block 3 (.seq (aC [x5 30 4,aV 32 2 31 1,On 34 33,Oc 35 .eql 34 40] (Cd 35 (S [O 2 (.dV (.c .eU)),Pf 3] .ret) .skip)) (aC [Pm 36 4,yQ 37 4 2,Pl 40 39,Of 41 (.call (C 112) []),Of 42 (.aQ 151 4 [.t 41]),Py 43 151 4 32 40 42,x6 44 36 2,Ns 1 45 43] (cC [bL 46 5 4,O 48 (.yC 113 [.t 47] []),Ok 49 59 [.t 46,.t 48],Om 5 49]))))))) (aC [kE 50 4 2,O 3 (.dV Bt)] .ret))))),[.tm 2,.tm 3]⟩
def L79:aZ :=⟨42,aC [tL 1 2 0] (aC [Q8 7 2 1 122,Om 3 8] (.seq (S [OM 4 0] (.block 0 (.loop (.seq (aC [Om 9 4,aV 10 1 1 1,lW 12 11 9] (Ce 13 0)) (.seq (.block 1 (aC [aV 16 1 1 1,nB 18 4 7 17,Ot 20 7 19,V6 5 7 20] (aC [Ot 21 2 1,Om 22 3,aV 23 1 5 1,aV 25 3 5 1,Ok 27 123 [.t 21,.t 22,.t 24,.t 26,I 1000],SG 6 2 27] (aC [yQ 28 3 2000,Pa 32 0 5,nQ 31 30 33 32,Of 34 (.call (C 81) [.t 31,.t 33]),Pm 35 34,Gf 36 35 true (.fa 0 (.t 6)),Gf 38 35 true (.fa 1 (.t 6)),Pi 37 35 36,Pi 39 35 38,G 40 35 true (.bin false .gtr (.t 37) (.t 39)),Pp 41 35 40] (Cd 41 (S [O 2 (.dV Bt)] .ret) .skip))))) (cC [gR 14 4 1 4])))))) (S [Pf 2] .ret))),[.tm 2]⟩
def L80:aZ :=⟨35,S [Ox 1 5 0,O 2 (.alloc (.agg [E0,E0]))] (S [Ok 5 78 [],O 6 (.build (.agg [E0,E0]) [(0,(1,(.t 5)))]),O 3 (.alloc (.agg [E0,E0])),Ns 2 3 6] (.seq (S [OM 4 0] (.block 0 (.loop (.seq (aC [Om 7 4,aV 8 0 1 1,lW 10 9 7] (Ce 11 0)) (.seq (.block 1 (aC [Pa 14 1 1,Pa 16 0 1,Pm 18 4,Pl 15 14,H6 17 16 19 7 18,yR 20 0 19,Ok 22 81 [.t 15,.t 21],Oo 23 22] (Cd 23 (cC [Pa 24 1 3,Pa 26 0 1,Pm 28 4,Pl 25 24,H6 27 26 29 7 28,Pt 30 7 29,Em 31 66 7 30 66 7 56 25 1 3 1]) .skip))) (cC [gR 12 4 1 4])))))) (S [Ot 34 2 3,Ns 2 2 34] .ret))),[.cell 2 true 2]⟩
def L88:aZ :=⟨19,S [OM 4 0] (.seq (aC [oZ 6 0,OM 8 0] (.block 0 (.loop (S [Ob 9 .lss 8 7] (.seq (Ce 9 0) (.seq (.block 1 (aC [kE 10 8 5] (aC [bL 11 1 0,nB 13 5 7 12,AE 15 7 14 11] (Cd 16 (aC [kE 17 5 4] .ret) .skip)))) (cC [pR 18 8 1 8]))))))) (S [OM 4 (-1)] .ret)),[.tm 4]⟩
theorem L88_ok:fV prog 88=some L88:=by kernel_rfl
@[simp] def L94a:LT:=.alt (Ok 16 137 [.t 11,.t 13,.t 15]) (.op (Om 9 16) (.op (Oe 17 9 0) (.op (Oe 18 9 1) (.alt (Ns 2 7 17) .done .no)))) .no
@[simp] def L94b:LT:=.alt (Ok 16 137 [.t 11,.t 13,.t 15]) (.op (Om 9 16) (.op (Oe 17 9 0) (.op (Oe 18 9 1) (.alt (Of 7 (.alloc (.agg [Z0,Z0]))) (.alt (Ns 2 7 17) .done .no) .no)))) (.alt (Of 7 (.alloc (.agg [Z0,Z0]))) L94a .no)
@[simp] def L94c:LT:=.alt (Ok 11 29 [.t 10]) (.op (Pl 15 14) L94a) (.alt (Pl 15 14) (.alt (Ok 11 29 [.t 10]) L94a .no) .no)
@[simp] def L94d:LT:=.alt (Ok 11 29 [.t 10]) (.op (Pl 13 12) L94a) (.alt (Pl 13 12) (.alt (Ok 11 29 [.t 10]) L94a .no) .no)
@[simp] def L94e:LT:=.alt (Ok 11 29 [.t 10]) L94b (.alt (Of 7 (.alloc (.agg [Z0,Z0]))) (.alt (Ok 11 29 [.t 10]) L94a .no) .no)
def L94:aZ :=⟨26,S [Ox 4 4 1,Pf 6] (.seq (.iZ (.op (Pm 10 0) (.op (Pa 12 1 4) (.op (Pa 14 2 4) (.seq (.alt (Ok 11 29 [.t 10]) (.op (Pl 13 12) (.op (Pl 15 14) L94b)) (.alt (Pl 13 12) (.alt (Ok 11 29 [.t 10]) (.op (Pl 15 14) L94b) (.alt (Pl 15 14) L94e (.alt (Of 7 (.alloc (.agg [Z0,Z0]))) L94c .no))) (.alt (Pl 15 14) (.alt (Ok 11 29 [.t 10]) (.op (Pl 13 12) L94b) (.alt (Pl 13 12) L94e (.alt (Of 7 (.alloc (.agg [Z0,Z0]))) L94d .no))) (.alt (Of 7 (.alloc (.agg [Z0,Z0]))) (.alt (Ok 11 29 [.t 10]) (.op (Pl 13 12) (.op (Pl 15 14) L94a)) (.alt (Pl 13 12) L94c (.alt (Pl 15 14) L94d .no))) .no)))) (.op (Om 8 18) .done)))))) (aC [aV 19 3 4 1,aV 21 0 7 1,Ob 23 .add 20 22,Om 24 2,Ob 25 .geq 23 24,Om 6 25] .ret)),[.tm 6]⟩
def L95:aZ :=⟨71,S [Ox 2 2 0,O 4 (.dV (.c (.int .u8 (0)))),OM 5 0,OM 6 0] (.seq (aC [Q8 14 2 2 138,Om 7 15] (aC [O5 16 7 0] (Cd 17 (S [Om 18 7,O 4 (.dV (.c (.int .u8 (0)))),OM 5 0,Om 6 18] .ret) .skip))) (S [OM 8 0,OM 9 0] (.seq .skip (.seq (aC [aV 19 1 2 1,xQ 21 20 0] (.block 0 (.loop (S [Ob 23 .lss 22 21] (.seq (Ce 23 0) (.seq (.block 1 (aC [Oi 24 3 20 22,Ot 25 3 24,JI 11 3 25] (.seq (aC [oZ 26 1,Om 28 8,aV 29 0 11 1,Ob 31 .add 28 30,Ob 32 .lss 27 31] (Cd 32 (S [Pm 33 8,Pa 34 0 11,Pm 37 1,Of 38 (.len none (.t 37)),Of 4 (.dV (.c (.int .u8 (3)))),Pl 35 34,Ob 36 .add 33 35,Ob 39 .sub 36 38,Om 5 39,OM 6 0] .ret) .skip)) (.seq (aC [bL 40 1 8,Om 42 8,aV 43 0 11 1,Ob 45 .add 42 44,O 46 (.J5 1 none (.t 40) (some (.t 41)) (some (.t 45)) none),xQ 47 46 0] (.block 2 (.loop (S [Ob 49 .lss 48 47] (.seq (Ce 49 2) (.seq (.block 3 (aC [wV 50 1 46 48 1,Om 13 51] (S [Om 52 13] (Cd 52 (cC [gR 53 9 1 9]) .skip)))) (cC [pR 55 48 1 48]))))))) (aC [Om 56 8,aV 57 0 11 1,EH 59 56 58 8] (aC [Ot 60 3 11,zW 61 9 139 60,Om 4 62] (aC [ZAn 63 4 3] (Cd 64 (.exit 0) .skip)))))))) (cC [pR 65 22 1 22]))))))) (.seq (aC [oZ 66 1,Om 68 8,Ob 69 .gtr 67 68] (Cd 69 (S [O 4 (.dV (.c (.int .u8 (0)))),OM 5 0,OM 6 2] .ret) .skip)) (aC [kE 70 4 4,OM 5 0,OM 6 0] .ret)))))),[.tm 4,.tm 5,.tm 6]⟩
def L98:aZ :=⟨5,S [Pf 2] (S [Om 3 0,Ok 4 145 [.t 3,I 1,I 999],Om 2 4] .ret),[.tm 2]⟩
def L111:aZ :=⟨48,S [Pe 4] (.seq (S [Om 9 1,Oc 10 .lss 9 0] (Cd 10 (.region [O 11 (.x (.sB 9 (.c (.str ⟨#[99,97,110,110,111,116,32,98,101,32,110,101,103,97,116,105,118,101]⟩)))),N (.x (.B3 (.t 11)))]) .skip)) (aC [oZ 13 0,O 15 (.conv .u64 (.t 14)),Om 16 1,O 17 (.conv .u64 (.t 16)),Ok 18 156 [.t 15,.t 17],mV 12 18 19 0 20 1,bL 5 19 20] (.seq (S [Om 21 5,O 22 (.bin false .gtr (.t 21) (.c (.int .u64 (0)))),Om 23 22,G 24 23 false (M 6),G 25 23 false (.bin false .gtr (.t 24) (.c (.int .u64 (9223372036854775807)))),Pq 26 23 25] (Cd 26 (.region [O 27 (.x (.sB 9 (.c (.str ⟨#[116,104,101,32,114,101,115,117,108,116,32,111,102,32,40,108,101,110,40,120,41,32,42,32,99,111,117,110,116,41,32,111,118,101,114,102,108,111,119,115]⟩)))),N (.x (.B3 (.t 27)))]) .skip)) (S [Om 28 6,O 29 (.conv .i64 (.t 28)),O 30 (.UD 3 1 8 Z0 (.t 29) (.t 29)),Om 7 30] (aC [bL 31 7 0,O 33 (.x (.copy 1 (.t 31) (.t 32))),Om 8 33] (.seq (.block 0 (.loop (.seq (aC [bL 34 8 7,lW 36 35 34] (Ce 37 0)) (.block 1 (cC [bL 38 8 7,Om 40 8,O 41 (.J5 1 none (.t 39) (some (.t 40)) none none),bL 42 7 8,O 44 (.J5 1 none (.t 42) none (some (.t 43)) none),O 45 (.x (.copy 1 (.t 41) (.t 44))),EH 46 38 45 8]))))) (aC [kE 47 7 4] .ret))))))),[.tm 4]⟩
def L112:aZ :=⟨9,S [O 0 (.alloc (.agg [Z0,Z0,Z0,Z0]))] (.seq (S [OM 2 0] (.block 0 (.loop (S [Oc 3 .lss 2 4] (.seq (Ce 3 0) (.seq (.block 1 (aC [kE 4 2 1] (.region [Om 5 1,O 6 (.ia 1 (some 4) (.t 0) (.t 5)),N (.store 1 (.t 6) (I (-1)))]))) (cC [pR 7 2 1 2]))))))) (S [Ot 8 4 0,Ns 4 0 8] .ret)),[.cell 0 true 4]⟩
def L121:aZ :=⟨13,aC [tL 1 2 0] (aC [aV 3 0 1 1,aV 5 1 1 1,Ok 7 120 [.t 4,I (-100000),.t 6],F1 8 7 1 1,G 11 8 true (.bin false .leq (.t 10) (I 100000)),Pp 12 8 11,Om 2 12] .ret),[.tm 2]⟩
@[simp] def L124a:LT:=.alt (Ok 19 123 [.t 12,.t 14,.t 16,.t 18,I 1000]) (.op (Of 20 (.NC false 0 1 (.t 19))) .done) .no
def L124:aZ :=⟨24,S [Ox 3 5 0,Ox 4 4 1,Pf 6] (aC [Q8 8 5 3 80,O 7 (.alloc (.agg [E0,E0])),Ns 2 7 9] (.seq (.iZ (.op (Pa 10 3 4) (.op (Pa 15 1 4) (.op (Pa 17 2 4) (.op (Pm 22 2) (.op (Pt 12 2 7) (.op (Pt 13 2 7) (.op (Pl 16 15) (.op (Pl 18 17) (.seq (.alt (Pl 11 10) (.alt (Of 14 (.call (C 122) [.t 13])) L124a .no) (.alt (Of 14 (.call (C 122) [.t 13])) (.alt (Pl 11 10) L124a (.alt (Ok 19 123 [.t 12,.t 14,.t 16,.t 18,I 1000]) (.op (Of 20 (.NC false 0 1 (.t 19))) (.op (Pl 11 10) .done)) .no)) .no)) (.op (Ob 21 .add 11 20) (.op (Ob 23 .geq 21 22) (.op (Om 6 23) .done))))))))))))) .ret)),[.tm 6]⟩
def L129:aZ :=⟨25,S [Ox 2 2 0,OM 4 0] (S [OM 5 0] (.seq (S [OM 6 0] (.block 0 (.loop (.seq (aC [bL 7 6 1,lW 9 8 7] (Ce 10 0)) (.seq (.block 1 (cC [Pm 13 5,Pa 14 1 2,JJ 16 1 6 1,Pl 15 14,VT 19 18 3 15,yR 21 0 20,EH 23 13 22 5])) (cC [gR 11 6 1 6])))))) (aC [kE 24 5 4] .ret))),[.tm 4]⟩
def L131:aZ :=⟨11,S [Ox 2 2 0,Pf 4] (aC [Om 5 1,aV 6 0 2 1,On 8 7,Oc 9 .sub 8 1,Ok 10 145 [.t 5,I 0,.t 9],Om 4 10] .ret),[.tm 4]⟩
def L132:aZ :=⟨5,S [Pf 2] (S [Om 3 0,Ok 4 145 [.t 3,I 0,I 1000],Om 2 4] .ret),[.tm 2]⟩
def L135:aZ :=⟨18,S [OM 2 0] (S [OM 3 0] (.seq (aC [oZ 6 0,OM 8 0] (.block 0 (.loop (S [Ob 9 .lss 8 7] (.seq (Ce 9 0) (.seq (.block 1 (aC [wV 10 1 6 8 1,Om 5 11] (aC [bL 12 5 3,Ob 14 .neq 12 13] (Cd 14 (aC [kE 15 5 2] .ret) .skip)))) (cC [pR 16 8 1 8]))))))) (aC [kE 17 3 2] .ret))),[.tm 2]⟩
def L141:aZ :=⟨21,aC [tL 1 4 0] (aC [aV 3 0 1 1,Ok 5 145 [.t 4,I 0,I 100],Om 6 5,Ph 7 6 2 1,G 8 6 true (.load true 2 (.t 7)),SE 9 6 182 8 6,F1 11 10 1 1,Pn 14 11 13,G 15 14 false (.fa 2 (.t 1)),G 16 14 false (.load true 2 (.t 15)),G 17 14 false (.build (.agg [Z0,Z0]) []),G 18 14 false (.x (.eqv false ⟨true,[.int .i64,.int .i64]⟩ (.t 16) (.t 17))),G 19 11 true (.pick (.t 14) Bt (.t 18)),Pp 20 11 19,Om 2 20] .ret),[.tm 2]⟩
def L145:aZ :=⟨15,S [Pf 6] (aC [bL 7 1 0,Ob 9 .leq 7 8,SD 10 9 0 2 6] .ret),[.tm 6]⟩
def L157:aZ :=⟨11,S [Ox 1 3 0,OM 2 0] (.seq (.block 0 (aC [aV 4 2 1 1,Oc 6 .eql 5 (-1),Om 3 6] (Cd 3 (S [OM 2 0] .ret) (aC [aV 8 1 1 1,Oc 10 .eql 9 (-1),Om 7 10] (Cd 7 (S [OM 2 1] .ret) .skip))))) (S [OM 2 2] .ret)),[.tm 2]⟩
def L159:aZ :=⟨5,S [Pe 0] (S [O 1 (.build (.agg [.dP]) [(0,(1,(C 196)))]),O 2 (.build (.agg [.dP]) [(0,(1,(C 197)))]),O 3 (.build (.agg [.dP]) [(0,(1,(C 198)))]),O 4 (.aQ 269 1 [.t 1,.t 2,.t 3]),Om 0 4] .ret),[.tm 0]⟩
def L166:aZ :=⟨68,aC [Om 7 1,V5 8 1 7 0 1,Ok 10 208 [.t 9,I 1,I 40],VR 11 10 1 1 1 208 0 40,VR 17 16 1 1 2 208 1 3,Ok 23 118 [.t 22,I 2]] (aC [Q6 24 0 0,aV 27 4 26 1,On 29 28,Oc 30 .lss 29 6,Ok 31 118 [.t 30,I 3]] (aC [Pm 32 0,yQ 33 0 0,Pa 36 4 35,qX 38 1 1 0,qX 41 1 1 1,qX 44 1 1 2,qX 48 1 1 2,nQ 37 36 40 39,nQ 43 42 46 45,Of 47 (.bin false .neq (.t 46) (I 2)),Pl 50 49,Of 51 (.bin false .neq (.t 50) (I 1)),Of 52 (.aQ 4 1 [.t 47,.t 51]),Of 53 (.build (.agg [Z0,Z0,E0]) [(0,(1,(.t 40))),(1,(1,(.t 43))),(2,(1,(.t 52)))]),Ok 54 212 [.t 37,.t 53],x6 55 32 0,Oa 57 4 56,Ns 1 57 54] (aC [qC 59 0 32,Ok 61 31 [.t 60],mV 58 61 62 0 63 1,Oe 64 58 2,bL 4 62 63,Om 6 64] (cC [OI 65 6 0,Ok 67 118 [.t 66,I 9]])))),[]⟩
def L169:aZ :=⟨48,S [Ox 2 2 0,Pe 4] (S [Pe 5] (.seq (S [OM 6 1] (.block 0 (.loop (.seq (S [Om 9 6,Oc 10 .leq 9 999] (Ce 10 0)) (.seq (.block 1 (S [Pf 7] (.seq (S [OM 8 0] (.block 2 (.loop (.seq (aC [Om 13 8,aV 14 1 2 1,lW 16 15 13] (Ce 17 2)) (.seq (.block 3 (cC [Pm 20 7,Pm 21 20,Gf 22 21 false (.fa 1 (.t 2)),Gf 24 21 false (M 8),Gf 28 21 false (M 6),Gf 23 21 false (.load false 1 (.t 22)),Gf 25 21 false (.ia 7 none (.t 23) (.t 24)),Gf 26 21 false (.fa 0 (.t 25)),Gf 27 21 false (.load false 1 (.t 26)),Gf 29 21 false (.bin false .eql (.t 27) (.t 28)),Gf 30 21 false (M 29),Gf 32 30 true (.fa 1 (.t 2)),Gf 34 30 true (M 8),XU 37 30 1 30 5,Gf 31 30 true (.load true 2 (.t 2)),Pi 33 30 32,Gf 35 30 true (.ia 7 none (.t 33) (.t 34)),Gf 36 30 true (.load true 7 (.t 35)),G 39 30 true (.call (C 216) [.t 31,.t 36,.t 37,.t 38]),VV 40 21 30 39 21,Om 7 41])) (cC [gR 18 8 1 8])))))) (S [Om 42 7] (Cd 42 (cC [bL 43 5 6,Q9 45 3 1 44 3 1 8 43 5]) .skip))))) (cC [gR 11 6 1 6])))))) (aC [kE 47 5 4] .ret))),[.tm 4]⟩
def L170:aZ :=⟨14,S [Ox 2 7 0,Pf 4] (aC [Om 5 1,aV 6 3 2 1,aV 8 3 2 1,aV 10 4 2 1,Ob 12 .add 9 11,Ok 13 120 [.t 5,.t 7,.t 12],Om 4 13] .ret),[.tm 4]⟩
def L173:aZ :=⟨20,S [OM 4 0] (aC [qC 7 0 218,Om 5 8] (aC [qC 9 1 218,Om 6 10] (.seq (S [Om 11 5] (Cd 11 (.seq (S [Om 12 6] (Cd 12 (S [OM 4 0] .ret) .skip)) (S [OM 4 (-1)] .ret)) .skip)) (.seq (S [Om 13 6] (Cd 13 (S [OM 4 1] .ret) .skip)) (.seq (aC [bL 14 0 1,Ob 16 .lss 14 15] (Cd 16 (S [OM 4 (-1)] .ret) .skip)) (.seq (aC [bL 17 0 1,Ob 19 .gtr 17 18] (Cd 19 (S [OM 4 1] .ret) .skip)) (S [OM 4 0] .ret))))))),[.tm 4]⟩
def L181:aZ :=⟨8,aC [tL 2 4 0] (aC [Ol 4 1 1,AE 5 4 2 4,Oo 7 6,Om 3 7] .ret),[.tm 3]⟩
def Y197_0a:bJ :=(.region [Om 5 15])
def Y197_0b:bJ :=(.block 1 (aC [Of 20 (.fa 2 (.t 3)),Of 22 (M 5),Of 26 (.fa 0 (.t 3)),Kk 16 1 2 2,Km 19 1 18 21 1 20,Of 23 (.ia 4 none (.t 19) (.t 21)),Of 24 (.ia 1 (some 4) (.t 23) (.t 22)),Km 25 1 24 27 1 26,Ob 28 .neq 25 27] (Cd 28 (cC [Ol 29 1 4,Om 30 5,aV 31 2 3 1,O 33 (.build (.agg [Z0,Z0,Z0]) [(0,(1,(I (-1)))),(1,(1,(.t 30))),(2,(1,(.t 32)))]),O 34 (.aQ 262 3 [.t 33]),O 35 (.app 262 3 24 (.t 29) (.t 34)),Ns 1 4 35]) .skip)))
noncomputable def L197:aZ :=⟨50,S [Ox 2 1 0,Ox 3 3 1,O 4 (.alloc E0)] (.seq (aC [Pa 10 0 3,Pa 12 2 3,Pl 6 2,Pz 7 6,Pa 8 0 7,Pt 9 2 8,nQ 11 10 13 12,Ok 14 245 [.t 9,.t 11,.t 13]] (.block 0 (.vF 50 (.t 14) (fX prog 197 0) Y197_0a Y197_0b [15]))) (.seq (aC [Ol 36 1 2,aV 37 0 3 1,aV 39 2 3 1,Ok 41 244 [.t 36,.t 38,.t 40],Oc 42 .neq 41 (-1)] (Cd 42 (cC [Ol 43 1 4,aV 44 0 3 1,O 46 (.build (.agg [Z0,Z0,Z0]) [(0,(1,(.t 45))),(1,(1,(I (-1)))),(2,(1,(I (-1))))]),Pb 47 262 3 46,Py 48 262 3 24 43 47,Ns 1 4 48]) .skip)) (S [Ol 49 1 4,Ns 1 4 49] .ret))),[.cell 4 false 1]⟩
theorem L197_ok:fV prog 197=some L197:=by kernel_rfl
def L224:aZ :=⟨11,S [Ox 2 2 0,O 4 (.alloc (.agg [Z0,Z0]))] (S [Ot 5 2 2,Om 6 1,O 7 (.neg (.t 6)),Om 8 1,O 9 (.build (.agg [Z0,Z0]) [(0,(1,(.t 7))),(1,(1,(.t 8)))]),Ok 10 221 [.t 5,.t 9],Ns 2 4 10] .ret),[.cell 4 true 2]⟩
def L229:aZ :=⟨49,aC [gR 8 1 1 6] (.block 0 (.loop (.seq (aC [bL 10 6 2,Ob 12 .lss 10 11] (Ce 12 0)) (.seq (.block 1 (aC [kE 15 6 7] (.block 2 (.loop (.seq (aC [Pm 16 7,Pm 17 1,Of 18 (.bin false .gtr (.t 16) (.t 17)),Pm 19 18,XU 20 19 0 19 7,Gf 22 19 true (.ia 1 none (.t 20) (.t 21)),XU 24 19 0 19 7,Gf 26 19 true (.bin false .sub (.t 25) (I 1)),Gf 27 19 true (.ia 1 none (.t 24) (.t 26)),Pi 23 19 22,Pi 28 19 27,FH 29 19 235 23 28 19] (Ce 30 2)) (.seq (.block 3 (cC [Pm 33 0,Pm 34 7,Pm 35 0,Pm 36 7,Of 37 (.bin false .sub (.t 36) (I 1)),Pm 38 0,Pm 39 7,Of 40 (.bin false .sub (.t 39) (I 1)),Of 41 (.ia 1 none (.t 38) (.t 40)),JJ 43 0 7 1,nQ 42 41 46 45,Oi 47 1 33 34,Ns 1 47 42,Oi 48 1 35 37,Ns 1 48 46])) (.region [Om 31 7,Oc 32 .sub 31 1,Om 7 32]))))))) (cC [gR 13 6 1 6]))))),[]⟩
def L245:aZ :=⟨8,S [Ox 3 2 0,Ox 4 1 1,Ox 5 1 2,O 6 (.dV (.c .dP))] (S [O 7 (.yC 279 [] [.t 3,.t 4,.t 5]),Om 6 7] .ret),[.tm 6]⟩
def L255:aZ :=⟨9,S [Ox 2 4 0,OM 4 0] (aC [aV 5 0 2 1,Om 7 1,Ob 8 .sub 6 7,Om 4 8] .ret),[.tm 4]⟩
def L266:aZ :=⟨15,S [Pf 6] (aC [bL 7 0 1,Ob 9 .geq 7 8,SD 10 9 0 2 6] .ret),[.tm 6]⟩
def L267:aZ :=⟨5,S [Ox 1 2 0,OM 2 0] (aC [aV 3 0 1 1,Om 2 4] .ret),[.tm 2]⟩
def L270:aZ :=⟨5,S [OM 2 0] (aC [qC 3 0 292,Om 2 4] .ret),[.tm 2]⟩
def L292:aZ :=⟨25,S [OM 2 0] (.seq (aC [oZ 5 0,Oc 7 .lss 6 1] (Cd 7 (.region [O 8 (.x (.sB 9 (.c (.str ⟨#[115,108,105,99,101,115,46,77,105,110,58,32,101,109,112,116,121,32,108,105,115,116]⟩)))),N (.x (.B3 (.t 8)))]) .skip)) (aC [Om 9 0,V5 10 1 9 0 1,Om 3 11] (.seq (S [OM 4 1] (.block 0 (.loop (.seq (aC [bL 12 4 0,lW 14 13 12] (Ce 15 0)) (.seq (.block 1 (cC [bL 18 3 0,nB 20 4 1 19,Ol 22 1 21,O 23 (.jB false (.t 18) (.t 22)),Om 3 23])) (cC [gR 16 4 1 4])))))) (aC [kE 24 3 2] .ret)))),[.tm 2]⟩
end
noncomputable section
noncomputable def P4:List ((Nat×List Nat)×(bJ×bJ×(Code×Code))):=[((136,[72]),(Y52_0a,Y52_0b,fX prog 52 0)),((136,[115]),(Y52_1a,Y52_1b,fX prog 52 1)),((64,[42]),(Y58_0a,Y58_0b,fX prog 58 0)),((61,[49]),(Y89_0a,Y89_0b,fX prog 89 0)),((79,[47]),(Y176_0a,Y176_0b,fX prog 176 0)),((50,[15]),(Y197_0a,Y197_0b,fX prog 197 0))]
theorem L52_tab:kQ (pE P4) L52.code:=by repeat' (first|exact trivial|rfl|apply And.intro)
theorem L58_tab:kQ (pE P4) L58.code:=by repeat' (first|exact trivial|rfl|apply And.intro)
theorem L89_tab:kQ (pE P4) L89.code:=by repeat' (first|exact trivial|rfl|apply And.intro)
theorem L176_tab:kQ (pE P4) L176.code:=by repeat' (first|exact trivial|rfl|apply And.intro)
theorem L197_tab:kQ (pE P4) L197.code:=by repeat' (first|exact trivial|rfl|apply And.intro)
theorem mixed:prog.follows .mixedOrders=true:=by kernel_rfl
end
theorem cS (F:aZ){f:FuncId}{args:List AV}{B:List (Site×aL)}{R:AV->List (Site×aL)->Prop}(h:eL prog F.code (lA (A8 F.res R)) ⟨eW 0 args,B⟩)(hf:fV prog f=some F:=by kernel_rfl)(hn:args.length<=F.nt:=by exact tG rfl):cN prog f args B R:=Ou mixed hf hn h
theorem cB (o:List Site)(F:aZ){f:FuncId}{args:List AV}{B:List (Site×aL)}{R:AV->List (Site×aL)->Prop}(h:eL prog F.code (lA (aT o F.res R)) ⟨eW 0 args,B⟩)(hf:fV prog f=some F:=by kernel_rfl)(hn:args.length<=F.nt:=by exact tG rfl):cN prog f args B R:=Oq o mixed hf hn h
theorem cF (o:List Site)(F:aZ){f:FuncId}{args:List AV}{B:List (Site×aL)}{R:AV->List (Site×aL)->Prop}(h:eL prog F.code (lA (oH o F.res R)) ⟨eW 0 args,B⟩)(hf:fV prog f=some F:=by kernel_rfl)(hn:args.length<=F.nt:=by exact tG rfl):cN prog f args B R:=Oj o mixed hf hn h
theorem V1 (F:aZ){f:FuncId}{args:List AV}{B:List (Site×aL)}{Q:AV->List (Site×aL)->Prop}(h:∀R,Q=R->eL prog F.code (lA (A8 F.res R)) ⟨eW 0 args,B⟩)(hf:fV prog f=some F:=by kernel_rfl)(hn:args.length<=F.nt:=by exact tG rfl):cN prog f args B Q:=cS F (h _ rfl) hf hn
theorem O2 (o:List Site)(F:aZ){f:FuncId}{args:List AV}{B:List (Site×aL)}{Q:AV->List (Site×aL)->Prop}(h:∀R,Q=R->eL prog F.code (lA (aT o F.res R)) ⟨eW 0 args,B⟩)(hf:fV prog f=some F:=by kernel_rfl)(hn:args.length<=F.nt:=by exact tG rfl):cN prog f args B Q:=cB o F (h _ rfl) hf hn
theorem O1 (o:List Site)(F:aZ){f:FuncId}{args:List AV}{B:List (Site×aL)}{Q:AV->List (Site×aL)->Prop}(h:∀R,Q=R->eL prog F.code (lA (oH o F.res R)) ⟨eW 0 args,B⟩)(hf:fV prog f=some F:=by kernel_rfl)(hn:args.length<=F.nt:=by exact tG rfl):cN prog f args B Q:=cF o F (h _ rfl) hf hn
theorem cG (xs:List PV){σ:AS}{f:bD}{args:List bD}{d:Nat}{K:AV->AS->Prop}{g:FuncId}{y:PV}(hc:aD prog g xs y)(hK:K (.pv y) σ){X:Prop}(h1:(σ.o f).snap σ 0=some (.fn g [] []):=by rfl)(h2:jI (AV.snap σ 0) (args.map σ.o)=some xs:=by rfl)(hy:y.flat=true:=by rfl):yV prog f args d K σ\/X:=gG (k:=0) (fs:=[]) (xs:=xs) (cs:=[]) h1 h2 (by simpa using hc) hy hK
theorem cP (fz:List Site)(xs:List PV){σ:AS}{f:bD}{args:List bD}{d:Nat}{K:AV->AS->Prop}{g:FuncId}{y:PV}(h1:(aM fz σ).o f=.pv (.fn g [] []))(h2:(aM fz σ).tN args=some xs)(hc:cN prog g (xs.map .pv) [] (fun r B=>r=.pv y/\B=[]))(hK:K (.pv y) ((aM fz σ).bI d)):yV prog f args d K σ:=Zaj fz (fs:=[]) (xs:=xs) (cs:=[]) h1 h2 (by simpa using hc) hK
theorem cQ (fz:List Site)(xs:List PV){σ:AS}{f:bD}{args:List bD}{d:Nat}{K:AV->AS->Prop}{g:FuncId}{y:PV}(hc:cN prog g (xs.map .pv) [] (fun r B=>r=.pv y/\B=[]))(hK:K (.pv y) ((aM fz σ).bI d))(h1:(aM fz σ).o f=.pv (.fn g [] []):=by rfl)(h2:(aM fz σ).tN args=some xs:=by rfl):yV prog f args d K σ:=cP fz xs h1 h2 hc hK
theorem cL (gF:List AV)(B:List (Site×aL))(d:Nat)(aF:List Site){σ:AS}{f:bD}{args:List bD}{d0:Nat}{K:AV->AS->Prop}{g:FuncId}{fs cs:List AV}{R:AV->List (Site×aL)->Prop}(hB:oV σ aF 0 aF=some B)(hC:cN prog g gF B R)(hK:∀r B',R r B'->r.dC (bX aF)=true/\(∀p∈B',bX aF p.1=true/\p.2.dC (bX aF)=true)/\K (r.map (gH aF d)) (((cK aF σ).bI d).lY (eY aF d B')))(h1:mT (σ.o f)=some (g,fs,cs):=by rfl)(h2:DZ aF=true:=by rfl)(h3:aF.all (fun s=>!s.fP d)=true:=by rfl)(h4:AV.hZ (fun x=>aF.contains x) (fs++args.map σ.o++cs)=true:=by rfl)(ha:AV.iR (kB aF) (fs++args.map σ.o++cs)=gF:=by rfl):yV prog f args d0 K σ\/(FZ prog f args K σ\/GA prog f args K σ):=xM (gF:=gF) (B:=B) d aF h1 h2 h3 hB h4 ha hC hK
theorem cM (gF:List AV)(B:List (Site×aL))(d:Nat)(aF:List Site){σ:AS}{f:bD}{args:List bD}{d0:Nat}{K:AV->AS->Prop}{g:FuncId}{fs cs:List AV}{a:AV}{b:List (Site×aL)}(hB:oV σ aF 0 aF=some B)(hC:cN prog g gF B (fun r B=>r=a/\B=b))(hp:∀p∈b,bX aF p.1=true/\p.2.dC (bX aF)=true)(hK:K (a.map (gH aF d)) (((cK aF σ).bI d).lY (eY aF d b)))(ho:a.dC (bX aF)=true:=by rfl)(h1:mT (σ.o f)=some (g,fs,cs):=by rfl)(h2:DZ aF=true:=by rfl)(h3:aF.all (fun s=>!s.fP d)=true:=by rfl)(h4:AV.hZ (fun x=>aF.contains x) (fs++args.map σ.o++cs)=true:=by rfl)(ha:AV.iR (kB aF) (fs++args.map σ.o++cs)=gF:=by rfl):yV prog f args d0 K σ\/(FZ prog f args K σ\/GA prog f args K σ):=cL gF B d aF hB hC (fun r B' h=>by obtain⟨rfl,rfl⟩:=h;exact⟨ho,hp,hK⟩) h1 h2 h3 h4 ha
section
attribute [local simp] aL.bI Site.fP
theorem Zoc {l:List PV}{q:PV->Bool}{k:Nat}{x:PV}(hx:l[k]?=some x)(hb:q x=true)(hinv:∀(j:Nat) (y:PV),j<k->l[j]?=some y->q y=false):l.findIdx? q=some k:=by
 obtain⟨aI,e⟩:=bZ.1 hx;rw[JL];refine⟨aI,by rw[e];exact hb,fun j hj=>?_⟩
 have:=hinv j l[j] hj (aX (by omega))
 simp[this]
theorem Zoa {l:List PV}{q:PV->Bool}(hinv:∀(j:Nat) (y:PV),j<l.length->l[j]?=some y->q y=false):l.findIdx? q=none:=by
 rw[List.findIdx?_eq_none_iff];intro x hx;obtain⟨j,hj⟩:=iM.1 hx;exact hinv j x (bZ.1 hj).1 hj
def lIx (row:Bool)(n:Nat):aZ:=⟨19,(.seq (.region [⟨(some 4),none,(.dV (.c (.i 0))),true⟩]) (.seq (.seq (.region [⟨(some 6),none,(.dV (.t 0)),true⟩,⟨(some 7),none,(.len none (.t 6)),true⟩,⟨(some 8),none,(.dV (.c (.i 0))),true⟩]) (.block 0 (.loop (.seq (.region [⟨(some 9),none,(.bin false .lss (.t 8) (.t 7)),true⟩]) (.seq (.cond (.t 9) .skip (.exit 0)) (.seq (.block 1 (.seq (.region [⟨(some 10),none,(.dV (.t 8)),true⟩,⟨(some 5),none,(.dV (.t 10)),true⟩]) (.seq (.region [⟨(some 11),none,(.dV (.t 1)),true⟩,⟨(some 12),none,(.dV (.t 0)),true⟩,⟨(some 13),none,(.dV (.t 5)),true⟩,⟨(some 14),none,(.ia n none (.t 12) (.t 13)),true⟩,⟨(some 15),none,(.load row n (.t 14)),true⟩,⟨(some 16),none,(.call (.t 11) [(.t 15)]),true⟩]) (.cond (.t 16) (.seq (.region [⟨(some 17),none,(.dV (.t 5)),true⟩,⟨(some 4),none,(.dV (.t 17)),true⟩]) .ret) .skip)))) (.region [⟨(some 18),none,(.bin false .add (.t 8) (.c (.i 1))),true⟩,⟨(some 8),none,(.dV (.t 18)),true⟩]))))))) (.seq (.region [⟨(some 4),none,(.dV (.c (.i (-1)))),true⟩]) .ret))),[(.tm 4)]⟩
def elB:Bool->Nat->PV->Prop
 |true,n,x=>∃cs,x=.agg cs/\cs.length=n
 |false,n,x=>n=1/\((∃b m ys,x=.aE b m ys)\/∃s,x=.str s)
theorem SU {f:FuncId}{row:Bool}{n:Nat}{l:List PV}{g:FuncId}{fs cs:List PV}{q:PV->Bool}(hq:∀x∈l,aD prog g (fs++[x]++cs) (.bool (q x)))(hl:l.length<=1000000)(hc:∀x∈l,elB row n x)(hL:fV prog f=some (lIx row n):=by kernel_rfl):
  aD prog f [.aE false n l,.fn g fs cs] (.i (match l.findIdx? q with|some i=>i|none=>-1)):=by
 refine Ou mixed hL (tG rfl) ?_;simp[lIx];refine dY (fun m τ=>∃k:Nat,k<=l.length/\m=l.length-k/\(∀j x,j<k->l[j]?=some x->q x=false)/\τ=⟨[(0,.pv (.aE false n l)),(1,.pv (.fn g fs cs)),(7,.pv (.i l.length)),(8,.pv (.i k))],[]⟩)
  ⟨l.length,_,Sub.mk (by simp) (by simp),0,by omega,rfl,(fun j x hj=>by omega),rfl⟩ ?_
 rintro J hJ m τ ⟨k,hk,rfl,hinv,rfl⟩;by_cases aI:k<l.length
 .have hx:l[k]?=some l[k]:=aX aI;have hm:=zX aI;generalize l[k]=x at hx hm;have hg:=hq _ hm;have hw:IntKind.i64.wrap ((k:Int)+1)=((k+1:Nat):Int):=by rw[IntKind.wrap_i64];omega
  have HR:=hc x hm;clear hc hL;cases row with
  |true=>
   obtain⟨ys,rfl,rfl⟩:=HR;simp[aI,↓hx,aP];refine gG (k:=0) rfl rfl hg rfl ?_;cases hb:q _
   .simp[hw];exact⟨_,_,(by omega:l.length-(k+1)<l.length-k),Sub.mk (by simp) (by simp),hJ _ _ ⟨k+1,by omega,rfl,fun j x hj CM=>by
     rcases Nat.lt_succ_iff_lt_or_eq.1 hj with h|h
     .exact hinv j x h CM
     .subst h;rw[hx]at CM;cases CM;exact hb,rfl⟩⟩
   .simp[Zoc hx hb hinv]
  |false=>
   obtain⟨rfl,⟨b,m,ys,rfl⟩|⟨s,rfl⟩⟩:=HR
   all_goals
    simp[aI,↓hx];refine gG (k:=0) rfl rfl hg rfl ?_;cases hb:q _
    .simp[hw];exact⟨_,_,(by omega:l.length-(k+1)<l.length-k),Sub.mk (by simp) (by simp),hJ _ _ ⟨k+1,by omega,rfl,fun j x hj CM=>by
      rcases Nat.lt_succ_iff_lt_or_eq.1 hj with h|h
      .exact hinv j x h CM
      .subst h;rw[hx]at CM;cases CM;exact hb,rfl⟩⟩
    .simp[Zoc hx hb hinv]
 .have he:k=l.length:=by omega
  subst he;simp[Zoa hinv]
def lCn (fi:FuncId):aZ:=⟨9,(.seq (.region [⟨(some 4),none,(.dV (.c (.bool false))),true⟩]) (.seq (.region [⟨(some 5),none,(.dV (.t 0)),true⟩,⟨(some 6),none,(.dV (.t 1)),true⟩,⟨(some 7),none,(.call (.c (.fn fi [] [])) [(.t 5),(.t 6)]),true⟩,⟨(some 8),none,(.bin false .geq (.t 7) (.c (.i 0))),true⟩,⟨(some 4),none,(.dV (.t 8)),true⟩]) .ret)),[(.tm 4)]⟩
theorem wS {f:FuncId}(fi:FuncId){n:Nat}{l:List PV}{g:FuncId}{fs cs:List PV}{q:PV->Bool}(hi:aD prog fi [.aE false n l,.fn g fs cs] (.i (match l.findIdx? q with|some i=>i|none=>-1)))(hL:fV prog f=some (lCn fi):=by kernel_rfl):aD prog f [.aE false n l,.fn g fs cs] (.bool (l.any q)):=by
 refine Ou mixed hL (tG rfl) ?_;simp[lCn];refine gG (k:=0) rfl rfl hi rfl ?_;cases hf:l.findIdx? q with
 |none=>
  have:l.any q=false:=by rw[List.any_eq_false];intro x hx;simpa using List.findIdx?_eq_none_iff.1 hf x hx
  simp[this]
 |some i=>
  have:l.any q=true:=by
   obtain⟨hi,h1,_⟩:=JL.1 hf;exact oT.2 ⟨_,zX hi,h1⟩
  simp[this]
def lAl (fc f1:FuncId):aZ:=⟨9,(.seq (.region [⟨(some 3),none,(.box 1 (.t 1)),true⟩,⟨(some 4),none,(.dV (.c (.bool false))),true⟩]) (.seq (.region [⟨(some 5),none,(.dV (.t 0)),true⟩,⟨(some 6),none,(.yC f1 [] [(.t 3)]),true⟩,⟨(some 7),none,(.call (.c (.fn fc [] [])) [(.t 5),(.t 6)]),true⟩,⟨(some 8),none,(.not (.t 7)),true⟩,⟨(some 4),none,(.dV (.t 8)),true⟩]) .ret)),[(.tm 4)]⟩
theorem O4 {f:FuncId}(fc f1:FuncId){n:Nat}{l:List PV}{g:FuncId}{fs cs:List PV}{q:PV->Bool}(ha:aD prog fc [.aE false n l,.fn f1 [] [.ref [.fn g fs cs]]] (.bool (l.any fun x=>!q x)))(hL:fV prog f=some (lAl fc f1):=by kernel_rfl):aD prog f [.aE false n l,.fn g fs cs] (.bool (l.all q)):=by
 refine Ou mixed hL (tG rfl) ?_;simp[lAl];refine gG (k:=4) rfl rfl ha rfl ?_;simp[List.not_any_eq_all_not]
end
def P3 (w:World)(m:Mem)(ρ:Site->Loc)(B:List (Site×aL))(Rp:PV->List (Site×aL)->Prop)(e:Ending)(w':World):Prop:=
 ∃v,e=.panicked [{ v,recovered:=false }]/\lD w m ρ B (fun r B'=>∃x,r=.pv x/\Rp x B') (.returned v) w'
def v8 (P:Program)(f:FuncId)(bU:List AV)(B:List (Site×aL))(Rp:PV->List (Site×aL)->Prop):Prop:=
 jP P f/\∀(w:World) (m:Mem) (ρ:Site->Loc) (vs:Array Value),vA ρ m w B->(Le m w.mem/\nL m w/\(B.map (·.1)).Nodup)->vs.size=bU.length->(∀(j:Nat) (d:Value) (c:AV),vs[j]?=some d->bU[j]?=some c->bN ρ m d c)->
  Calls P f vs w (P3 w m ρ B Rp)
theorem v8.mono {P:Program}{f:FuncId}{bU:List AV}{B:List (Site×aL)}{R R':PV->List (Site×aL)->Prop}(h:v8 P f bU B R)(hp:∀r B',R r B'->R' r B'):v8 P f bU B R':=
 ⟨h.1,fun w m ρ vs h1 h2 h3 h4=>(h.2 w m ρ vs h1 h2 h3 h4).mono fun e w' ⟨v,k0,v',r,B',bW,m',k1,⟨x,k2,k3⟩,k4⟩=>⟨v,k0,v',r,B',bW,m',k1,⟨x,k2,hp _ _ k3⟩,k4⟩⟩
def X2 (P:Program)(f:bD)(args:List bD)(Qp:PV->AS->Prop)(σ:AS):Prop:=
 ∃(d:Nat) (fz aF:List Site) (g:FuncId) (fs cs:List AV) (B:List (Site×aL)),
  ((aM fz σ).o f=.fn g fs cs\/∃tE iK,(aM fz σ).o f=.pv (.fn g tE iK)/\fs=tE.map .pv/\cs=iK.map .pv)/\aF.Nodup/\aF.all (fun s=>!s.fP d)=true/\oV (aM fz σ) aF 0 aF=some B/\
  AV.hZ (fun x=>aF.contains x) (fs++args.map (aM fz σ).o++cs)=true/\
  v8 P g (AV.iR (kB aF) (fs++args.map (aM fz σ).o++cs)) B (fun x B'=>(∀p∈B',bX aF p.1=true/\p.2.dC (bX aF)=true)/\Qp x (((cK aF (aM fz σ)).bI d).lY (eY aF d B')))
def vU (P:Program)(o:LO)(Qp:PV->AS->Prop)(σ:AS):Prop:=o.g=none/\((∃f args,o.op=.call f args/\X2 P f args Qp σ)\/∃y t a,o.op=.x (.B3 y)/\σ.o y=.pv (.iface t a)/\Qp (.iface t a) σ)
def K0 (P:Program):List LO->(AS->Prop)->(PV->AS->Prop)->AS->Prop
 |[],K,_,σ=>K σ
 |o::r,K,Qp,σ=>pL P o (K0 P r K Qp) σ\/vU P o Qp σ
def fO (P:Program):bJ->(rY->AS->Prop)->(PV->AS->Prop)->AS->Prop
 |.region ops,Q,Qp,σ=>K0 P ops (Q .normal) Qp σ
 |.seq a b,Q,Qp,σ=>fO P a (iU (fO P b Q Qp) Q) Qp σ
 |.cond c a b,Q,Qp,σ=>match σ.o c with
  |.pv (.bool t)=>if t=true then fO P a Q Qp σ else fO P b Q Qp σ
  |_=>False
 |.block id c,Q,Qp,σ=>fO P c (j6 id Q) Qp σ
 |.loop c,Q,Qp,σ=>∃(I:Nat->AS->Prop) (n:Nat) (τ:AS),Sub τ σ/\I n τ/\∀n τ,I n τ->fO P c (iU (fun zA=>∃k S0,k<n/\Sub S0 zA/\I k S0) Q) Qp τ
 |l,Q,_,σ=>uE P l Q σ
theorem Zny {P:Program}{Qp:PV->AS->Prop}:∀{l:List LO} {K:AS->Prop} {σ:AS},oJ P l K σ->(∀(o:LO) (K K':AS->Prop) σ,(∀τ,K τ->K' τ)->pL P o K σ->pL P o K' σ)->K0 P l K Qp σ
 |[],K,σ,h,_=>h
 |o::r,K,σ,h,hm=>.inl (hm o _ _ σ (fun τ h=>Zny h hm) h)
section
variable {P:Program}{N:Nat}{w0:World}{m0:Env w0}{pl:List Nat}{σ:AS}{ρ:Site->Loc}{m:Mem}{act:Act}{w:World}{o:Oper}{lo:LO}{ops:Array Oper}{Qp:PV->AS->Prop}
def FT (N:Nat)(w0:World)(m0:Env w0)(pl:List Nat)(Qp:PV->AS->Prop)(ch:List PanicEntry)(act:Act)(w:World):Prop:=
 ∃v x τ ρ m bH,ch=[{ v,recovered:=false }]/\bH.defers=act.defers/\(m0.strict=true->bH=act)/\Qp x τ/\Sat N w0 m0 pl τ ρ m bH w/\bN ρ m v (.pv x)
theorem ZqP {ro:Option Nat}{f:bD}{args:List bD}(hl:bC P o.op=.call f args)(h:X2 P f args Qp σ)(hS:Sat N w0 m0 pl σ ρ m act w){nx:Act->World->Prop}{Q:Exit->Act->World->Prop}
  (hQ:∀ch w',FT N w0 m0 pl Qp ch act w'->Q (.panic ch) act w'):o.wpIn (FF ro) 1 P act w nx Q:=by
 obtain⟨c,fo,ho,hc,hf,ha⟩:=Np hl;obtain⟨d,fz,aF,g,fs,cs,B,pZ,pW,sP,hB,eS,hC⟩:=h;obtain⟨m1,_,hF⟩:=hS.aM fz;generalize aM fz σ=lK at pZ hB eS hC hF;obtain⟨q1,q2⟩:=KL ha;obtain⟨oD,gA,tZ,yF⟩:=BO hF pW sP hB;have r4:∃vf vc:Array Value,act.eval fo=.func (.func g) vf vc/\vf.size=fs.length/\vc.size=cs.length/\(∀(j:Nat) (d:Value) (c:AV),vf[j]?=some d->fs[j]?=some c->bN ρ m1 d c)/\(∀(j:Nat) (d:Value) (c:AV),vc[j]?=some d->cs[j]?=some c->bN ρ m1 d c):=by
  have h1:=hF.aW hf;rcases pZ with pZ|⟨tE,iK,pZ,rfl,rfl⟩
  .rw[pZ]at h1;exact Me h1
  .rw[pZ]at h1;obtain⟨vf,vc,e1,e2,e3,e4,e5⟩:=Fj h1.nJ;refine⟨vf,vc,e1,by simpa using e2,by simpa using e3,fun j d c k1 k2=>?_,fun j d c k1 k2=>?_⟩
   .rw[bR]at k2;obtain⟨x,k3,rfl⟩:=eA.1 k2;exact .pv _ _ (e4 j d x k1 k3)
   .rw[bR]at k2;obtain⟨x,k3,rfl⟩:=eA.1 k2;exact .pv _ _ (e5 j d x k1 k3)
 obtain⟨vf,vc,hv,f1,f2,f3,f4⟩:=r4;have fG:(c.args.map act.eval).size=(args.map lK.o).length:=by simp;simpa using q1
 obtain⟨b1,b2⟩:=ZhR (ρ:=ρ) (m:=m1) (va:=c.args.map act.eval) (xs:=args.map lK.o) f1 fG f2 f3 (fun j u y hu hy=>by
  rw[Array.getElem?_map]at hu;obtain⟨x,k1,rfl⟩:=eA.1 hu;obtain⟨y',k2,k3⟩:=q2 j x (by simpa using k1);rw[bR,k2]at hy;cases hy;exact hF.aW k3) f4
 unfold Oper.wpIn;refine⟨fun _ _=>trivial,?_⟩;rw[Oper.semAt_eq _ _ _ (fun c' e=>by rw[ho]at e;cases e),F0 ho hc hv hC.1,Oper.uponIn_enter];refine⟨FF.one,Fo ?_⟩;refine(hC.2 w m1 oD _ tZ ⟨hF.mem,hF.uB,Oh hB⟩ (by rw[KH];exact b1) (fun j u y hu hy=>by
  rw[KG]at hy;obtain⟨a,k1,rfl⟩:=eA.1 hy;exact(b2 j u a hu k1).map gA (W5 eS k1))).mono ?_
 rintro e w' ⟨v,rfl,h⟩;obtain⟨v',r,B',bW,m',e1,⟨x,rfl,hx,hq⟩,Ak⟩:=h;cases e1;obtain⟨v2,r2,B2,OL,m2,e2,hK,k1,k2,_⟩:=yF (fun r B'=>∃x,r=.pv x/\Qp x (((cK aF lK).bI d).lY (eY aF d B'))) (.returned v) w' ⟨v,.pv x,B',bW,m',rfl,⟨rfl,hx,x,rfl,hq⟩,Ak⟩;cases e2;obtain⟨y,rfl,Sr⟩:=hK;exact hQ _ _ ⟨v,y,_,OL,m2,act,rfl,rfl,fun _=>rfl,Sr,k1,k2⟩
theorem Zfv {fn:Func}{tm:Array Value}{R:Ending->World->Prop}{ch:List PanicEntry}:∀(ds:List Nat) {w:World},ds.Nodup->(∀D∈ds,(w0.heap.size<=D\/D∈pl)/\w.heap[D]?=some (.deferred (some [])))->act.defers=[]->Sat N w0 m0 pl σ ρ m act w->
  ∃w2,Sat N w0 m0 pl σ ρ m act w2/\(LeavesIn (FF none) 1 P fn tm R [] (.panicking ch) w2->LeavesInM (FF none) 1 P fn tm R (ds.map WL) (.panicking ch) w)
 |[],w,_,_,_,hS=>⟨w,hS,fun h=>h⟩
 |D::r,w,hn,hd,ha,hS=>by
  obtain⟨d1,d2⟩:=hd D (by simp);have yG:=List.nodup_cons.1 hn;have wJ:Sat N w0 m0 pl σ ρ m act (w.putObj D (.deferred none)):=hS.write (k:=D) (fun s b hs hr=>(hS.bx s b hs).Xg hr d2) (fun o=>by
   cases hv:m D o with
   |none=>rfl
   |some v=>
    have:=hS.mem D o v hv
    simp[World.mem,World.cell?,d2]at this) d1 (.inr ha) (Hw _ _ _)
  obtain⟨w2,k1,k2⟩:=Zfv (ch:=ch) (tm:=tm) r yG.2 (fun D' DE=>by
   refine⟨(hd D' (by simp[DE])).1,?_⟩;have cZ:D'≠D:=fun e=>yG.1 (by rw[<-e];exact DE)
   rw[World.putObj_heap_other cZ];exact(hd D' (by simp[DE])).2) ha wJ
  exact⟨w2,k1,fun h=>⟨by simp,.inl ⟨D,_,rfl,run_takeDeferred d2,k2 h⟩⟩⟩
theorem ZkC {lt:Bool}(hl:qJ P N ops lt o=some lo){f:bD}{args:List bD}(h:lo.op=.call f args):bC P o.op=.call f args:=by
 obtain⟨e0,e1,e2,e3,e4⟩:=EF hl;rw[e2]at h;rcases Nz (ops:=ops) (l:=bC P o.op)with⟨mL,_⟩|⟨e,n,b,x,y,H0,mL⟩
 .rw[mL]at h;exact h
 .rw[mL]at h;cases h
theorem ZrB {lt:Bool}(hl:qJ P N ops lt o=some lo){y:bD}(h:lo.op=.x (.B3 y)):bC P o.op=.x (.B3 y):=by
 obtain⟨e0,e1,e2,e3,e4⟩:=EF hl;rw[e2]at h;rcases Nz (ops:=ops) (l:=bC P o.op)with⟨mL,_⟩|⟨e,n,b,x,y,H0,mL⟩
 .rw[mL]at h;exact h
 .rw[mL]at h;cases h
theorem ZnU {op:Op}{y:bD}(h:bC P op=.x (.B3 y)):∃x,op=.panic x/\aW x=some y:=by
 unfold bC at h;split at h
 .rename_i z hz;cases h;unfold X6 at hz;split at hz
  .rename_i z' hx;cases hz;exfalso;unfold pM at hx;split at hx<;>(repeat' (first|(cases hx;done)|split at hx))
  .rename_i hx;clear hx;unfold nV at hz;split at hz<;>(repeat' (first|(cases hz;done)|split at hz));rename_i e;cases hz;exact⟨_,rfl,e⟩
 .exact absurd h Ziq
theorem ZuE {ro:Option Nat}{y:bD}{t:TypeId}{x:PV}(hl:bC P o.op=.x (.B3 y))(he:σ.o y=.pv (.iface t x))(hq:Qp (.iface t x) σ)(hS:Sat N w0 m0 pl σ ρ m act w){nx:Act->World->Prop}{Q:Exit->Act->World->Prop}
  (hQ:∀ch w',FT N w0 m0 pl Qp ch act w'->Q (.panic ch) act w'):o.wpIn (FF ro) 1 P act w nx Q:=by
 obtain⟨z,ho,hz⟩:=ZnU hl;have h1:=hS.aW hz;rw[he]at h1;obtain⟨v,e⟩:∃v,act.eval z=.iface t v:=by
  have h2:=h1.nJ;generalize act.eval z=u at h2;cases h2 with|iface _ v _ _=>exact⟨v,rfl⟩
 unfold Oper.wpIn;refine⟨fun _ _=>trivial,?_⟩;rw[Oper.semAt_eq _ _ _ (fun c' e=>by rw[ho]at e;cases e)];have hr:(execOp act.eval o).run P w=.halt (.panic (.iface t v)) w:=by
  unfold execOp;simp only[ho,e];rfl
 rw[hr,Oper.uponIn_panic];rw[e]at h1;exact hQ _ _ ⟨_,_,σ,ρ,m,act,rfl,rfl,fun _=>rfl,hq,hS,h1⟩
theorem ZlN {lt:Bool}(hl:qJ P N ops lt o=some lo)(h:lo.g=none)(t:Nat->Option Bool):o.guard=none:=by
 obtain⟨e0,e1,e2,e3,e4⟩:=EF hl;rcases e4 with⟨hg,_⟩|⟨j,want,t,_,UZ,_⟩
 .exact hg
 .rw[h]at UZ;cases UZ
theorem ZrH {ro:Option Nat}{lt:Bool}{Q:Exit->Act->World->Prop}(hl:qJ P N ops lt o=some lo)(h:vU P lo Qp σ)(hS:Sat N w0 m0 pl σ ρ m act w){nx:Act->World->Prop}
  (U8:∀ch bH w',FT N w0 m0 pl Qp ch bH w'->Q (.panic ch) bH w'):Region.wanted o (yielded ops act.tmps)=true/\o.wpIn (FF ro) 1 P act w nx Q:=by
 obtain⟨hg,h⟩:=h;have hw:=ZlN hl hg (fun _=>none);refine⟨by simp[Region.wanted,hw],?_⟩;rcases h with⟨f,args,hop,hp⟩|⟨y,t,a,hop,he,hq⟩
 .exact ZqP (ZkC hl hop) hp hS (fun ch w' k=>U8 ch act w' k)
 .exact ZuE (ZrB hl hop) he hq hS (fun ch w' k=>U8 ch act w' k)
theorem XR {ro:Option Nat}{K:AS->Prop}{Q:Exit->Act->World->Prop}(kY:FW ops=true)(U8:∀ch bH w',FT N w0 m0 pl Qp ch bH w'->Q (.panic ch) bH w'):∀(l:List (Nat×Bool)) (qI:List LO) {σ:AS} {ρ:Site->Loc} {m:Mem} {act:Act} {w:World},rJ P ops l=true->kW P N ops (l.map fun p=>(B8 P ops p.1,ops.getD p.1 default))=some qI->
  K0 P qI K Qp σ->Sat N w0 m0 pl σ ρ m act w->(∀bH w',F9 N w0 m0 pl K bH w'->Q .normal bH w')->WG ro P ops Q (R8 P ops) (xO P) l act w
 |[],qI,σ,ρ,m,act,w,hk,hl,h,hS,hQ=>by
  simp[kW]at hl;subst hl;exact hQ _ _ ⟨σ,ρ,m,h,hS⟩
 |(i,b)::r,qI,σ,ρ,m,act,w,hk,hl,h,hS,hQ=>by
  simp only[iQ]at hl;unfold kW at hl;split at hl
  .rename_i a l h1 h2;cases hl;cases b with
   |false=>
    simp only[rJ,dK]at hk;cases ho:ops[i]? with
    |none=>rw[ho]at hk;simp at hk
    |some o=>
     rw[ho]at hk;have hg:ops.getD i default=o:=by simp[Array.getD_eq_getD_getElem?,ho]
     rw[hg]at h1;have iB:=hk.1;simp only[rR]at iB;rcases h with h|⟨_,⟨f,args,hop,_⟩|⟨y,t,a,hop,_⟩⟩
     .cases bQ:xO P o with
      |true=>
       obtain⟨v,k1,⟨τ,bW,m',k2,k3⟩,_⟩:=KE (G:=fun _=>True) h1 h hS (.inl bQ);exact⟨o,v,fun _=>True,fun _ _ _ _=>trivial,fun _ _=>trivial,trivial,ho,k1,XR kY U8 r l hk.2 h2 k2 k3 hQ⟩
      |false=>
       have HW:(bC P o.op).FN=true:=by
        rcases iB with iB|iB
        .rw[bQ]at iB;cases iB
        .exact iB
       obtain⟨v,k1,⟨τ,bW,m',k2,k3⟩,_⟩:=KE (G:=fW σ ρ m w) h1 h hS (.inr ⟨HW,fun _ h=>h⟩);exact⟨o,v,fW σ ρ m w,fun _ _ hs hx=>fW.Xi hS hs hx,(fun e=>by rw[bQ]at e;cases e),.refl hS,ho,k1,XR kY U8 r l hk.2 h2 k2 k3 hQ⟩
     .have hc:=ZkC h1 hop;unfold xO at iB;rw[hc]at iB;rcases iB with iB|iB<;>cases iB
     .have hc:=ZrB h1 hop;unfold xO at iB;rw[hc]at iB;rcases iB with iB|iB<;>cases iB
   |true=>
    simp only[rJ,dK]at hk;cases ho:ops[i]? with
    |none=>rw[ho]at hk;simp at hk
    |some o=>
     have hg:ops.getD i default=o:=by simp[Array.getD_eq_getD_getElem?,ho]
     rw[hg]at h1;show wpOpIn (FF ro) 1 P ops Q i _ act w;unfold wpOpIn;simp only[ho];rcases h with h|h
     .rcases Gm h1 h hS with⟨q1,q2⟩|⟨q1,q2⟩
      .rw[if_pos q1];cases bQ:xO P o with
       |true=>
        obtain⟨v,k1,⟨τ,bW,m',k2,k3⟩,_⟩:=KE (G:=fun _=>True) h1 h hS (.inl bQ);rcases k1 with⟨_,k1⟩|⟨k1,_⟩
        .unfold Oper.wpIn;refine⟨fun _ _=>trivial,?_⟩;rw[Oper.semAt_eq _ _ _ (XN kY ho),k1 w trivial,Oper.uponIn_value];exact⟨fun _=>Ext.tH _,XR kY U8 r l hk.2 h2 k2 k3 hQ⟩
        .rw[k1]at q1;cases q1
       |false=>
        have K9:iV (R8 P ops) ops i=true->o.op.vQ=true\/((bC P o.op).NM=true/\B8 P ops i=false)\/(sU ops (bC P o.op)).JO=true:=fun sN=>by
         unfold iV at sN;rw[ho]at sN;unfold R8 at sN;unfold xO at bQ;simp only[bQ,Bool.or_false,rR]at sN;rcases sN with(h'|h')|h'
         .exact .inl h'
         .simp only[dK,Bool.not_eq_true']at h';exact .inr (.inl h')
         .exact .inr (.inr h')
        exact Oper.wpIn_mono (fun bH w' ⟨⟨τ,bW,m',k2,k3⟩,k4⟩=>⟨fun sN=>k4 (K9 sN),XR kY U8 r l hk.2 h2 k2 k3 hQ⟩) (Mi h1 q2 hS)
      .rw[if_neg (by rw[q1];simp)];exact⟨fun _ _=>trivial,fun _=>Ext.tH _,XR kY U8 r l hk.2 h2 q2 (hS.oU (EF h1).2.2.2.1 WE) hQ⟩
     .obtain⟨q1,q2⟩:=ZrH (ro:=ro) (Q:=Q) h1 h hS U8;rw[if_pos q1];exact q2
  .cases hl
theorem Zfo {ro:Option Nat}{K:AS->Prop}{Q:Exit->Act->World->Prop}(U8:∀ch bH w',FT N w0 m0 pl Qp ch bH w'->Q (.panic ch) bH w'):∀(l:List Oper) (qI:List LO) {σ:AS} {ρ:Site->Loc} {m:Mem} {act:Act} {w:World},kW P N ops (l.map fun o=>(true,o))=some qI->K0 P qI K Qp σ->Sat N w0 m0 pl σ ρ m act w->(∀bH w',F9 N w0 m0 pl K bH w'->Q .normal bH w')->wpListIn (FF ro) 1 P ops Q l act w
 |[],qI,σ,ρ,m,act,w,hl,h,hS,hQ=>by
  simp[kW]at hl;subst hl;exact hQ _ _ ⟨σ,ρ,m,h,hS⟩
 |o::r,qI,σ,ρ,m,act,w,hl,h,hS,hQ=>by
  rw[iQ]at hl;unfold kW at hl;split at hl
  .rename_i a l h1 h2;cases hl;rcases h with h|h
   .exact ZfF h1 h hS (fun bH w' ⟨τ,bW,m',k1,k2⟩=>Zfo U8 r l h2 k1 k2 hQ)
   .unfold wpListIn;obtain⟨q1,q2⟩:=ZrH (ro:=ro) (Q:=Q) h1 h hS U8;rw[if_pos q1];exact q2
  .cases hl
theorem ZlL {ro:Option Nat}{K:AS->Prop}{Q:Exit->Act->World->Prop}{id:Nat}{draw:Bool}{qI:List LO}(hm:P.follows .mixedOrders=true)(hl:BN P N ops draw=some qI)(h:K0 P qI K Qp σ)(hS:Sat N w0 m0 pl σ ρ m act w)(hQ:∀bH w',F9 N w0 m0 pl K bH w'->Q .normal bH w')
  (U8:∀ch bH w',FT N w0 m0 pl Qp ch bH w'->Q (.panic ch) bH w') (hp:draw=true->∀c (a:Act) (d:Tmp) (v:Value) w,Q (.panic c) (a.put (some d) v) w->Q (.panic c) a w):(Code.region id ops draw).wpIn (FF ro) 1 P Q act w:=by
 unfold BN at hl;split at hl
 .rename_i hd;subst hd;dsimp only at hl;split at hl
  .rename_i hc;simp only[dK,decide_eq_true_eq]at hc;obtain⟨⟨⟨⟨c1,Eg⟩,c2⟩,c3⟩,c4⟩:=hc;have Vj:Sat N w0 m0 pl σ ρ m act w.drew:=hS.ext (Ext.dr w);exact Zdl _ _ _ hm (hp rfl) c1 Eg c2 c3 (XR Eg U8 _ qI c4 hl h Vj hQ)
  .cases hl
 .rename_i hd
  have:draw=false:=by simpa using hd
  subst this;exact wpIn_region_list (Zfo U8 _ qI hl h hS hQ)
def P1 (N:Nat)(w0:World)(m0:Env w0)(pl:List Nat)(Q:rY->AS->Prop)(Qp:PV->AS->Prop):Exit->Act->World->Prop
 |.panic ch,a,w=>FT N w0 m0 pl Qp ch a w
 |e,a,w=>nZ N w0 m0 pl Q e a w
theorem P1.of {Q:rY->AS->Prop}{e:Exit}{a:Act}{w:World}(h:nZ N w0 m0 pl Q e a w):P1 N w0 m0 pl Q Qp e a w:=by
 cases e with
 |panic ch=>exact h.elim
 |_=>exact h
def nT:Code->Bool
 |.region _ _ d=>!d
 |.seq a b=>nT a&&nT b
 |.cond _ a b=>nT a&&nT b
 |.block _ c=>nT c
 |.loop c=>nT c
 |.scope c=>nT c
 |_=>true
theorem ZkH {a b:Code}(h:nT (.seq a b)=true):nT a=true/\nT b=true:=by simpa[nT]using h
theorem Zil {c:Operand}{a b:Code}(h:nT (.cond c a b)=true):nT a=true/\nT b=true:=by simpa[nT]using h
theorem ZgV {ro:Option Nat}(MD:Fm ro w0 pl)(hm:P.follows .mixedOrders=true):∀(c:Code) (l:bJ) (Q:rY->AS->Prop) {σ:AS} {ρ:Site->Loc} {m:Mem} {act:Act} {w:World},(m0.strict=true->kH c=true)->(m0.strict=true->nT c=true)->dQ P N c=some l->fO P l Q Qp σ->Sat N w0 m0 pl σ ρ m act w->c.wpIn (FF ro) 1 P (P1 N w0 m0 pl Q Qp) act w:=by
 intro c;induction c with
 |skip=>
  intro l Q σ ρ m act w bQ C7 hl h hS;simp[dQ]at hl;subst hl;exact wpIn_skip ⟨σ,ρ,m,h,hS⟩
 |region id ops draw=>
  intro l Q σ ρ m act w bQ C7 hl h hS;simp only[dQ]at hl;split at hl
  .rename_i qI k1;cases hl;exact ZlL hm k1 h hS (fun _ _ k=>k) (fun _ _ _ k=>k) (fun hd _ _ _ _ _ ⟨v,x,τ,ρ,m,a',q1,q2,_,q3⟩=>⟨v,x,τ,ρ,m,a',q1,q2.trans rfl,fun e=>by have:=C7 e;rw[hd]at this;simp[nT]at this,q3⟩)
  .split at hl
   .rename_i hd;subst hd;simp only[eA]at hl;obtain⟨T',k1,rfl⟩:=hl;exact wpIn_mono (Zna (Q:=nZ N w0 m0 pl Q) hm k1 h hS (fun _ _ k=>k) (fun _ _ _ _ _ h=>h)) (fun _ _ _ h=>P1.of h)
   .cases hl
 |seq a b S9 p4=>
  intro l Q σ ρ m act w bQ C7 hl h hS;simp only[dQ]at hl;split at hl
  .rename_i x y h1 h2;cases hl;refine wpIn_seq (wpIn_mono (S9 x _ (fun e=>(Mv (bQ e)).1) (fun e=>(ZkH (C7 e)).1) h1 h hS) (fun e bH w' hq=>?_));cases e with
   |normal=>
    obtain⟨τ,bW,m',k1,k2⟩:=hq;exact p4 y Q (fun e=>(Mv (bQ e)).2) (fun e=>(ZkH (C7 e)).2) h2 k1 k2
   |exit id=>exact hq
   |ret=>exact hq
   |goto l=>exact hq.elim
   |panic ch=>exact hq
   |outgrown=>exact hq.elim
  .cases hl
 |cond c a b S9 p4=>
  intro l Q σ ρ m act w bQ C7 hl h hS;simp only[dQ]at hl;split at hl
  .rename_i c' x y h0 h1 h2;cases hl;unfold fO at h;split at h
   .rename_i t ht;have hc:=hS.aW h0;rw[ht]at hc;refine wpIn_cond hc.NR ?_;cases t
    .exact p4 y Q (fun e=>(Nv (bQ e)).2) (fun e=>(Zil (C7 e)).2) h2 (by simpa using h) hS
    .exact S9 x Q (fun e=>(Nv (bQ e)).1) (fun e=>(Zil (C7 e)).1) h1 (by simpa using h) hS
   .exact h.elim
  .cases hl
 |block id c ih=>
  intro l Q σ ρ m act w bQ C7 hl h hS;simp only[dQ,eA]at hl;obtain⟨x,k1,rfl⟩:=hl;refine wpIn_block (wpIn_mono (ih x _ bQ C7 k1 h hS) (fun e bH w' hq=>?_));cases e with
  |exit LZ=>
   obtain⟨τ,bW,m',q1,q2⟩:=hq;by_cases he:LZ=id
   .subst he;simp only[j6,if_true]at q1;simp only[Exit.inBlock,if_true];exact⟨τ,bW,m',q1,q2⟩
   .simp only[j6,he,if_false]at q1;simp only[Exit.inBlock,he,if_false];exact⟨τ,bW,m',q1,q2⟩
  |normal=>exact hq
  |ret=>exact hq
  |goto l=>exact hq.elim
  |panic ch=>exact hq
  |outgrown=>exact hq.elim
 |loop c ih=>
  intro l Q σ ρ m act w bQ C7 hl h hS;simp only[dQ,eA]at hl;obtain⟨x,k1,rfl⟩:=hl;obtain⟨I,n,τ,kJ,hI,aB⟩:=h;obtain⟨oW,m1,wJ⟩:=kJ _ _ _ _ _ _ _ _ hS;refine wpIn_loop_ghost (fun n act w=>∃τ ρ m,I n τ/\Sat N w0 m0 pl τ ρ m act w) n ⟨τ,oW,m1,hI,wJ⟩ ?_;intro n act w ⟨τ,ρ,m,hI,hS⟩;refine wpIn_mono (ih x _ bQ C7 k1 (aB n τ hI) hS) (fun e bH w' hq=>?_);cases e with
  |normal=>
   obtain⟨zA,bW,m',⟨k,S0,q1,q2,q3⟩,q4⟩:=hq;obtain⟨OL,m2,q5⟩:=q2 _ _ _ _ _ _ _ _ q4;exact⟨k,q1,S0,OL,m2,q3,q5⟩
  |exit id=>exact hq
  |ret=>exact hq
  |goto l=>exact hq.elim
  |panic ch=>exact hq
  |outgrown=>exact hq.elim
 |scope c ih=>
  intro l Q σ ρ m act w bQ C7 hl h hS;refine ZbW (wpIn_mono (ih l Q bQ C7 hl h hS) (fun e bH w' hq=>?_));cases e<;>first|exact hq|exact hq.elim
 |label l0=>
  intro l Q σ ρ m act w bQ C7 hl h hS;simp[dQ]at hl;subst hl;exact wpIn_label ⟨σ,ρ,m,h,hS⟩
 |exit id=>
  intro l Q σ ρ m act w bQ C7 hl h hS;simp[dQ]at hl;subst hl;exact wpIn_exit ⟨σ,ρ,m,h,hS⟩
 |ret=>
  intro l Q σ ρ m act w bQ C7 hl h hS;simp[dQ]at hl;subst hl;exact wpIn_ret ⟨σ,ρ,m,h,hS⟩
 |rangeFunc g ps a b=>
  intro l Q σ ρ m act w bQ C7 hl h hS;simp only[dQ]at hl;split at hl
  .rename_i g' la lb k1 k2 k3;cases hl;exact wpIn_mono (Zh9 MD k1 h hS (ZnK bQ)) (fun _ _ _ h=>P1.of h)
  .cases hl
 |_=>intro l Q σ ρ m act w bQ C7 hl h hS;simp[dQ]at hl
def J9 (Rp:PV->List (Site×aL)->Prop)(x:PV)(σ:AS):Prop:=∃outs:List Site,outs.all dO=true/\(∀s∈outs,∀b,σ.b s=some b->b.dC dO=true)/\Rp x (σ.exp outs outs)
end
section
variable {P:Program}{σ:AS}{Q:rY->AS->Prop}{Qp:PV->AS->Prop}{K:AS->Prop}
theorem Zs2 {l:List LO}(h:oJ P l K σ):K0 P l K Qp σ:=Zny h fun _ _ _ _ hk h=>OE hk h
theorem NZ:∀{c:bJ} {Q:rY->AS->Prop} {σ:AS},uE P c Q σ->fO P c Q Qp σ
 |.skip,_,_,h=>h
 |.region _,_,_,h=>Zs2 h
 |.iZ _,_,_,h=>h
 |.seq a b,Q,σ,h=>NZ (c:=a) (KF (c:=a) h fun e τ k=>by
   cases e with
   |normal=>exact NZ (c:=b) k
   |exit id=>exact k
   |ret=>exact k)
 |.cond c a b,Q,σ,h=>by
  unfold uE at h;split at h
  .rename_i t ht;show(match σ.o c with
    |.pv (.bool t)=>if t=true then fO P a Q Qp σ else fO P b Q Qp σ
    |_=>False)
   rw[ht];cases t
   .simp only[Bool.false_eq_true,if_false]at h ⊢;exact NZ (c:=b) h
   .simp only[if_true]at h ⊢;exact NZ (c:=a) h
  .exact h.elim
 |.block id c,_,_,h=>NZ (c:=c) h
 |.loop c,_,_,⟨I,n,τ,h1,h2,h3⟩=>⟨I,n,τ,h1,h2,fun n τ k=>NZ (c:=c) (h3 n τ k)⟩
 |.exit _,_,_,h=>h
 |.ret,_,_,h=>h
 |.vF _ _ _ _ _ _,_,_,h=>h
theorem mH {a b:bJ}(h:eL P a (iU (fO P b Q Qp) Q) σ):fO P (.seq a b) Q Qp σ:=NZ (c:=a) (I8 h)
theorem Zhg {o:LO}{post:List LO}:∀{pre:List LO} {σ:AS},oJ P pre (vU P o Qp) σ->K0 P (pre++o::post) K Qp σ
 |[],_,h=>.inr h
 |a::r,σ,h=>.inl (OE (fun τ k=>Zhg (pre:=r) k) h)
theorem Gc {o:LO}{post:List LO}(pre:List LO)(h:B5 P pre (vU P o Qp) σ):fO P (.region (pre++o::post)) Q Qp σ:=Zhg (Lv h)
theorem wZ {o:LO}{post:List LO}{c:bJ}(pre:List LO)(h:B5 P pre (vU P o Qp) σ):fO P (.seq (.region (pre++o::post)) c) Q Qp σ:=Zhg (Lv h)
theorem ZpN (d:Nat)(aF:List Site){f:bD}{args:List bD}{g:FuncId}{fs cs:List AV}{B:List (Site×aL)}{gF:List AV}{R:PV->List (Site×aL)->Prop}(h1:mT (σ.o f)=some (g,fs,cs))(h2:DZ aF=true)(h3:aF.all (fun s=>!s.fP d)=true)
  (hB:oV σ aF 0 aF=some B) (h4:AV.hZ (fun x=>aF.contains x) (fs++args.map σ.o++cs)=true) (ha:AV.iR (kB aF) (fs++args.map σ.o++cs)=gF) (hC:v8 P g gF B R)
  (hK:∀x B',R x B'->(∀p∈B',bX aF p.1=true/\p.2.dC (bX aF)=true)/\Qp x (((cK aF σ).bI d).lY (eY aF d B'))):X2 P f args Qp σ:=by
 refine⟨d,[],aF,g,fs,cs,B,?_,SZ h2,h3,hB,h4,?_⟩
 .unfold mT at h1;split at h1
  .rename_i e;cases h1;exact .inl e
  .rename_i tE iK e;cases h1;exact .inr ⟨tE,iK,e,rfl,rfl⟩
  .cases h1
 .have:(fs++args.map (aM [] σ).o++cs)=fs++args.map σ.o++cs:=rfl
  rw[this,ha];exact hC.mono hK
theorem ZiW {a b:bJ}(h:fO P a (iU (fO P b Q Qp) Q) Qp σ):fO P (.seq a b) Q Qp σ:=h
theorem ZgW {id:Nat}{c:bJ}(h:fO P c (j6 id Q) Qp σ):fO P (.block id c) Q Qp σ:=h
theorem ZoN {c:bJ}(I:Nat->AS->Prop)(h0:∃n τ,Sub τ σ/\I n τ)(round:∀J:Nat->AS->Prop,(∀k τ,I k τ->J k τ)->∀n τ,I n τ->fO P c (iU (again J n) Q) Qp τ):fO P (.loop c) Q Qp σ:=
 let ⟨n,τ,h1,h2⟩:=h0;⟨I,n,τ,h1,h2,fun n τ h=>round I (fun _ _ h=>h) n τ h⟩
theorem Znw (d:Nat)(fz aF:List Site){f:bD}{args:List bD}{g:FuncId}{fs cs:List AV}{B:List (Site×aL)}{gF:List AV}{R:PV->List (Site×aL)->Prop}(h1:mT ((aM fz σ).o f)=some (g,fs,cs))(h2:DZ aF=true)(h3:aF.all (fun s=>!s.fP d)=true)
  (hB:oV (aM fz σ) aF 0 aF=some B) (h4:AV.hZ (fun x=>aF.contains x) (fs++args.map (aM fz σ).o++cs)=true) (ha:AV.iR (kB aF) (fs++args.map (aM fz σ).o++cs)=gF) (hC:v8 P g gF B R)
  (hK:∀x B',R x B'->(∀p∈B',bX aF p.1=true/\p.2.dC (bX aF)=true)/\Qp x (((cK aF (aM fz σ)).bI d).lY (eY aF d B'))):X2 P f args Qp σ:=by
 refine⟨d,fz,aF,g,fs,cs,B,?_,SZ h2,h3,hB,h4,?_⟩
 .unfold mT at h1;split at h1
  .rename_i e;cases h1;exact .inl e
  .rename_i tE iK e;cases h1;exact .inr ⟨tE,iK,e,rfl,rfl⟩
  .cases h1
 .rw[ha];exact hC.mono hK
theorem Zl4 (d:Nat)(fz aF:List Site){f:bD}{args:List bD}{d0:Nat}{K:AV->AS->Prop}{g:FuncId}{fs cs:List AV}{B:List (Site×aL)}{gF:List AV}{R:AV->List (Site×aL)->Prop}(h1:mT ((aM fz σ).o f)=some (g,fs,cs))(h2:DZ aF=true)(h3:aF.all (fun s=>!s.fP d)=true)
  (hB:oV (aM fz σ) aF 0 aF=some B) (h4:AV.hZ (fun x=>aF.contains x) (fs++args.map (aM fz σ).o++cs)=true) (ha:AV.iR (kB aF) (fs++args.map (aM fz σ).o++cs)=gF) (hC:cN P g gF B R)
  (hK:∀r B',R r B'->r.dC (bX aF)=true/\(∀p∈B',bX aF p.1=true/\p.2.dC (bX aF)=true)/\K (r.map (gH aF d)) (((cK aF (aM fz σ)).bI d).lY (eY aF d B'))):
  yV P f args d0 K σ\/(FZ P f args K σ\/GA P f args K σ):=by
 refine .inr (.inl ⟨d,fz,aF,g,fs,cs,B,?_,SZ h2,h3,hB,h4,?_⟩)
 .unfold mT at h1;split at h1
  .rename_i e;cases h1;exact .inl e
  .rename_i tE iK e;cases h1;exact .inr ⟨tE,iK,e,rfl,rfl⟩
  .cases h1
 .rw[ha];exact hC.mono hK
theorem ZoO {c:bD}{a b:bJ}{t:Bool}(hc:σ.o c=.pv (.bool t))(h:fO P (if t=true then a else b) Q Qp σ):fO P (.cond c a b) Q Qp σ:=by
 unfold fO;rw[hc];cases t
 .simpa using h
 .simpa using h
theorem Znj {args:List bD}{xs:List PV}(h:σ.tN args=some xs):args.map σ.o=xs.map .pv:=by
 obtain⟨h1,h2⟩:=SQ h;refine List.ext_getElem? fun j=>?_
 rw[bR,bR];cases e:args[j]? with
 |none=>rw[List.getElem?_eq_none (by have:=List.getElem?_eq_none_iff.1 e;omega)];rfl
 |some y=>
  obtain⟨x,k1,k2⟩:=h2 j y e;rw[k1,uU,uU,k2]
theorem TG {d:Nat}{g:FuncId}{xs cs:List PV}{f:bD}{args:List bD}{op:lZ}{lt:Bool}{R:PV->List (Site×aL)->Prop}(fz:List Site)(h1:(aM fz σ).o f=.pv (.fn g [] cs))(h2:(aM fz σ).tN args=some xs)
  (hc:v8 P g ((xs++cs).map .pv) [] R) (hop:op=.call f args) (hK:∀x,R x []->Qp x ((aM fz σ).bI d)) (hR:∀x B,R x B->B=[]) {dst:Option Nat}:vU P ⟨dst,none,op,lt⟩ Qp σ:=by
 refine⟨rfl,.inl ⟨f,args,hop,d,fz,[],g,[],cs.map .pv,[],.inr ⟨[],cs,h1,rfl,rfl⟩,List.nodup_nil,rfl,rfl,?_,?_⟩⟩
 .have e:=Znj h2;rw[e]
  have:∀l:List PV,AV.hZ (fun x=>([]:List Site).contains x) (l.map .pv)=true:=fun l=>by
   induction l with
   |nil=>rfl
   |cons a r ih=>rw[iQ];simp only[AV.hZ,AV.dC,ih];rfl
  rw[List.nil_append,<-lI];exact this _
 .have e:=Znj h2;rw[e,List.nil_append,<-lI];have hm:∀l:List PV,AV.iR (kB []) (l.map .pv)=l.map .pv:=fun l=>by
   induction l with
   |nil=>rfl
   |cons a r ih=>rw[iQ];simp only[AV.iR,AV.map,ih]
  rw[hm];refine hc.mono fun x B' h=>?_
  have:=hR x B' h
  subst this;exact⟨(fun p hp=>by cases hp),hK x h⟩
end
def AV.Wk (a a':AV):Prop:=∀(ρ:Site->Loc) (m:Mem) (v:Value),bN ρ m v a->bN ρ m v a'
theorem Zrr {nl:Option Bool}{s:Site}{n:Nat}:AV.Wk (.pv (.emp nl)) (.vec s n 0 0):=fun ρ m v h=>by
 have:=h.nJ
 cases this with
 |emp a _ h0 h1 h2=>exact .nE s n 0 a h2
theorem KU {x x':PV}(h:∀m v,dG m v x->dG m v x'):AV.Wk (.pv x) (.pv x'):=fun ρ m v hv=>.pv _ _ (h m v hv.nJ)
section
variable {N:Nat}{w0:World}{m0:Env w0}{pl:List Nat}{σ:AS}{ρ:Site->Loc}{m:Mem}{act:Act}{w:World}
theorem Sub.wkT {t:Nat}{a:AV}(a':AV)(h:σ.t t=some a)(hw:a.Wk a'):Sub (σ.put t a') σ:=fun _ _ _ _ ρ m act w hS=>by
 refine⟨ρ,m,hS.sA,hS.sz,fun t' b k=>?_,hS.bx,hS.dZ,hS.mem,hS.eM,hS.fM,hS.keep,hS.base,hS.qB,hS.par⟩;rw[AS.ZxK]at k;split at k
 .rename_i e;subst e;cases k;obtain⟨v,h1,h2⟩:=hS.tm t' a h;exact⟨v,h1,hw _ _ _ h2⟩
 .exact hS.tm t' b k
theorem Sub.aY {s:Site}{ax:List AV}{i:Nat}{a:AV}(a':AV)(h:σ.b s=some (.cells ax))(hi:ax[i]?=some a)(hw:a.Wk a'):Sub (σ.set s (.cells (ax.set i a'))) σ:=fun _ _ _ _ ρ m act w hS=>by
 refine⟨ρ,m,hS.ZxL h ?_ (fun k hk=>?_)⟩
 .obtain⟨h0,cs,T,h1,h2,h3⟩:=hS.bx s _ h;refine⟨h0,cs,T,h1,by rw[List.length_set];exact h2,fun j c b k1 k2=>?_⟩;by_cases e:j=i
  .subst e;rw[O6 (bZ.1 hi).1]at k2;cases k2;obtain⟨q1,q2⟩:=h3 j c a k1 hi;exact⟨q1,hw _ _ _ q2⟩
  .rw[List.getElem?_set_ne (fun e'=>e e'.symm)]at k2;exact h3 j c b k1 k2
 .obtain⟨r1,r2⟩:=EE rfl hk;exact .inl ⟨r1,r2⟩
theorem Sub.Zx4 (D:Nat)(e:TypeId){n:Nat}(hn:0<n):Sub ((σ.bI D).add (.loc D 0) (.arr e n [])) σ:=fun _ _ _ _ ρ m act w hS=>by
 have h:=hS.bI D;have hN:=qT.bI D σ;generalize σ.bI D=σ at h hN;have K3:=Mm ρ D 0 ⟨0,0,0,false⟩;have hu:=R9 ρ (.loc D 0) ⟨0,0,0,false⟩;have look:∀s' b',(σ.add (.loc D 0) (.arr e n [])).b s'=some b'->(s'=.loc D 0/\b'=.arr e n [])\/(s'≠.loc D 0/\σ.b s'=some b'):=fun s' b' k=>by
  rw[AS.SI]at k;split at k
  .rename_i e;cases k;exact .inl ⟨e,rfl⟩
  .rename_i e;exact .inr ⟨e,k⟩
 have old:∀s' b' k,(σ.add (.loc D 0) (.arr e n [])).b s'=some b'->fL (iN ρ (.loc D 0) ⟨0,0,0,false⟩) w s' b' k->σ.b s'=some b'/\fL ρ w s' b' k:=fun s' b' k k1 r=>by
  rcases look s' b' k1 with⟨rfl,rfl⟩|⟨q0,q1⟩
  .obtain⟨r1,_⟩:=EE rfl r;rw[hu]at r1;cases r1
  .rw[R6 (AK ρ _ q0)]at r;exact⟨q1,r⟩
 refine⟨iN ρ (.loc D 0) ⟨0,0,0,false⟩,m,h.sA,h.sz,fun t a k=>?_,fun s' b' k=>?_,fun s1 s2 b1 b2 k k1 k2 r1 r2=>?_,h.mem,fun s' b' k k1 r=>?_,fun s' b' k k1 r=>?_,h.keep,h.base,h.qB,fun j=>(K3 _ rfl).trans (h.par j)⟩
 .obtain⟨v,k1,k2⟩:=h.tm t a k;exact⟨v,k1,k2.mono (Le.refl m) K3 (hN.t t a k)⟩
 .rcases look s' b' k with⟨rfl,rfl⟩|⟨q0,q1⟩
  .exact⟨hn,.inl ⟨by rw[hu],rfl,by rw[hu]⟩⟩
  .exact(h.bx s' b' q1).stay (Le.refl m) K3 (hN.b s' b' q1).1 (hN.b s' b' q1).2 (fun _ _=>rfl)
 .obtain⟨p1,p2⟩:=old s1 b1 k k1 r1;obtain⟨q1,q2⟩:=old s2 b2 k k2 r2;exact h.dZ s1 s2 b1 b2 k p1 q1 p2 q2
 .obtain⟨p1,p2⟩:=old s' b' k k1 r;exact h.eM s' b' k p1 p2
 .obtain⟨p1,p2⟩:=old s' b' k k1 r;exact h.fM s' b' k p1 p2
end
def AS.cT (D:Nat)(e:TypeId)(n t:Nat)(σ:AS):AS:=((σ.bI D).add (.loc D 0) (.arr e n [])).put t (.vec (.loc D 0) n 0 0)
theorem cT {σ:AS}(D:Nat)(e:TypeId)(n t:Nat){nl:Option Bool}(h:σ.t t=some (.pv (.emp nl)))(hn:0<n):Sub (σ.cT D e n t) σ:=by
 refine Sub.trans' (b:=(σ.bI D).add (.loc D 0) (.arr e n [])) ?_ (Sub.Zx4 D e hn);refine Sub.wkT (a:=.pv (.emp nl)) _ ?_ Zrr;show(σ.bI D).t t=_;rw[AS.Kz,h];rfl
def AS.gL (D:Nat)(e:TypeId)(n:Nat)(s:Site)(cs:List AV)(i:Nat)(σ:AS):AS:=((σ.bI D).add (.loc D 0) (.arr e n [])).set s (.cells (cs.set i (.vec (.loc D 0) n 0 0)))
theorem gL {σ:AS}(D:Nat)(e:TypeId)(n:Nat){s:Site}{cs:List AV}(i:Nat){nl:Option Bool}(h:(σ.bI D).b s=some (.cells cs))(hi:cs[i]?=some (.pv (.emp nl)))(hn:0<n):Sub (σ.gL D e n s cs i) σ:=by
 refine Sub.trans' (b:=(σ.bI D).add (.loc D 0) (.arr e n [])) ?_ (Sub.Zx4 D e hn);refine Sub.aY (a:=.pv (.emp nl)) _ ?_ hi Zrr;have hs:s≠.loc D 0:=fun e'=>by
  subst e';rw[AS.NQ,if_pos (by simp[Site.fP])]at h;cases h
 rw[AS.SI,if_neg hs];exact h
theorem Sub.o8 {σ:AS}(D t:Nat){s:Site}{e n lo len:Nat}{xs:List PV}(h:σ.t t=some (.vec s n lo len))(hb:σ.b s=some (.arr e n xs))(hl:lo+len=xs.length):
  Sub ((((σ.drop s).bI D).add (.loc D 0) (.arr e n (xs.drop lo))).put t (.vec (.loc D 0) n 0 len)) σ:=fun _ _ _ _ ρ m act w hS=>by
 have hD:=(hS.drop s).bI D;have hN:=qT.bI D (σ.drop s);obtain⟨v,zJ,Sa⟩:=hS.tm t _ h;have tZ:=hS.bx s _ hb;have xF:0<n:=tZ.1;have nI:(xs.drop lo).length=len:=by rw[uG];omega
 have gone:∀s' b',((σ.drop s).bI D).b s'=some b'->s'≠s/\∃b2,σ.b s'=some b2/\b'=b2.bI D:=fun s' b' k=>by
  rw[AS.NQ]at k;split at k
  .cases k
  .obtain⟨b2,k2,rfl⟩:=eA.1 k;rw[AS.JN]at k2;split at k2
   .cases k2
   .rename_i cZ;exact⟨cZ,b2,k2,rfl⟩
 obtain⟨L,Jy,hL2,hL3⟩:∃L:Loc,(L.real=true->(ρ s).real=true/\L.b=(ρ s).b)/\bN (iN ρ (.loc D 0) L) m v (.vec (.loc D 0) n 0 len)/\kO (iN ρ (.loc D 0) L) m w (.loc D 0) (.arr e n (xs.drop lo)):=by
  rcases Sa.DY with⟨cap,rfl,c0,c1,c2⟩|⟨a,rfl,c0,jM⟩
  .have hu:=R9 ρ (.loc D 0) ⟨(ρ s).b,(ρ s).o+lo*n,cap,true⟩;refine⟨⟨(ρ s).b,(ρ s).o+lo*n,cap,true⟩,fun _=>⟨c2,rfl⟩,?_,?_⟩
   .have:=bN.vec (ρ:=iN ρ (.loc D 0) ⟨(ρ s).b,(ρ s).o+lo*n,cap,true⟩) (m:=m) (.loc D 0) n 0 len cap c0 (by rw[hu];simp) (by rw[hu])
    rw[hu]at this;simpa using this
   .obtain⟨_,hB|⟨hr,cs,g1,g2,g3,g4,g5⟩⟩:=tZ
    .rw[hB.1]at c2;cases c2
    refine⟨xF,.inr ⟨by rw[hu],cs,by rw[hu];exact g1,?_,?_,?_,fun i x hi=>?_⟩⟩
    .rw[hu]
     have:(lo+cap)*n<=(ρ s).cap*n:=I2 _ c1
     rw[Nat.add_mul]at this;show(ρ s).o+lo*n+cap*n<=_;omega
    .rw[hu,nI];exact c0
    .rw[hu];show cap<=_;omega
    .rw[mW]at hi;obtain⟨k1,k2⟩:=g5 (lo+i) x hi;refine⟨k1,fun j c hj=>?_⟩;obtain⟨d,q1,q2,q3⟩:=k2 j c hj;rw[hu];refine⟨d,?_,q2,q3⟩;rw[<-q1,Nat.add_mul];show cs[(ρ s).o+lo*n+i*n+j]?=_;congr 1;omega
  .have hu:=R9 ρ (.loc D 0) ⟨0,0,0,false⟩;have hx:xs.drop lo=[]:=List.eq_nil_of_length_eq_zero (by rw[nI];exact c0);refine⟨⟨0,0,0,false⟩,fun e'=>(by cases e'),?_,?_⟩
   .subst c0;exact .nE _ _ _ _ jM
   .exact⟨xF,.inl ⟨by rw[hu],hx,by rw[hu]⟩⟩
 have hAdd:Sat _ _ _ _ (((σ.drop s).bI D).add (.loc D 0) (.arr e n (xs.drop lo))) (iN ρ (.loc D 0) L) m act w:=hD.add hN hL3 (fun hr s' b' k r=>by
   obtain⟨k1,k2⟩:=Jy hr;obtain⟨q1,b2,q2,rfl⟩:=gone s' b' k;rw[k2]at r;exact q1 (hS.dZ s' s b2 _ _ q2 hb (KA.1 r) (xN k1))) (fun hr=>by
   obtain⟨k1,k2⟩:=Jy hr;rw[k2];exact hS.off s _ hb k1) (fun hr=>by
   obtain⟨k1,k2⟩:=Jy hr;rw[k2];exact hS.own s _ hb k1)
 refine⟨iN ρ (.loc D 0) L,m,hAdd.sA,hAdd.sz,fun t' b k=>?_,hAdd.bx,hAdd.dZ,hAdd.mem,hAdd.eM,hAdd.fM,hAdd.keep,hAdd.base,hAdd.qB,hAdd.par⟩;rw[AS.ZxK]at k;split at k
 .rename_i e';subst e';cases k;exact⟨v,zJ,hL2⟩
 .exact hAdd.tm t' b k
def AS.o8 (D t:Nat)(s:Site)(e n len:Nat)(ys:List PV)(σ:AS):AS:=(((σ.drop s).bI D).add (.loc D 0) (.arr e n ys)).put t (.vec (.loc D 0) n 0 len)
theorem o8 {σ:AS}(D t:Nat){s:Site}{e n lo len:Nat}{xs:List PV}(ys:List PV)(h:σ.t t=some (.vec s n lo len))(hb:σ.b s=some (.arr e n xs))(hl:lo+len=xs.length)(hy:xs.drop lo=ys):Sub (σ.o8 D t s e n len ys) σ:=by
 subst hy;exact Sub.o8 D t h hb hl
mutual
theorem AV.Kx {d:Nat}:∀a:AV,a.has d=false->a.dC (fun s=>!s.fP d)=true
 |.any,_=>rfl
 |.pv _,_=>rfl
 |.ptr s _,h=>by simp only[AV.has]at h;simp[AV.dC,h]
 |.lB s _ _ _,h=>by simp only[AV.has]at h;simp[AV.dC,h]
 |.vec s _ _ _,h=>by simp only[AV.has]at h;simp[AV.dC,h]
 |.mp s,h=>by simp only[AV.has]at h;simp[AV.dC,h]
 |.nM s,h=>by simp only[AV.has]at h;simp[AV.dC,h]
 |.fn _ fs cs,h=>by
  simp only[AV.has,Bool.or_eq_false_iff]at h;simp only[AV.dC,AV.SK fs h.1,AV.SK cs h.2,Bool.and_self]
 |.agg cs,h=>by simp only[AV.has]at h;simp only[AV.dC,AV.SK cs h]
 |.bM vs,h=>by simp only[AV.has]at h;simp only[AV.dC,AV.SK vs h]
theorem AV.SK {d:Nat}:∀l:List AV,AV.qR d l=false->AV.hZ (fun s=>!s.fP d) l=true
 |[],_=>rfl
 |a::r,h=>by
  simp only[AV.qR,Bool.or_eq_false_iff]at h;simp only[AV.hZ,AV.Kx a h.1,AV.SK r h.2,Bool.and_self]
end
theorem aL.Kx {d:Nat}{b:aL}(h:b.has d=false):b.dC (fun s=>!s.fP d)=true:=by
 cases b with
 |cells bU=>exact AV.SK bU h
 |loop C ps nt tm st=>exact AV.SK _ h
 |arr e n xs=>rfl
 |map es=>rfl
 |ext E=>rfl
def pG (D:Nat)(s x:Site):Site:=match decide (x=s)with
 |true=>.loc D 0
 |false=>x
def AS.iW (D:Nat)(s:Site)(σ:AS):AS:=⟨(σ.bI D).tm.map fun p=>(p.1,p.2.map (pG D s)),(σ.bI D).bx.map fun p=>(pG D s p.1,p.2.iW (pG D s))⟩
theorem Sub.iW (D:Nat)(s:Site)(σ:AS):Sub (σ.iW D s) σ:=fun _ _ _ _ ρ m act w hS=>by
 have h:=hS.bI D;have hN:=qT.bI D σ;unfold AS.iW;generalize σ.bI D=σ at h hN;have hu:=R9 ρ (.loc D 0) (ρ s);have hg:∀x:Site,(!x.fP D)=true->iN ρ (.loc D 0) (ρ s) (pG D s x)=ρ x:=fun x hx=>by
  unfold pG;by_cases e:x=s
  .subst e;rw[decide_eq_true rfl];exact hu
  .rw[decide_eq_false e];exact AK ρ _ (fun e'=>by subst e';simp[Site.fP]at hx)
 have look:∀(l:List (Site×aL)) (s':Site) (b':aL),(l.map fun p=>(pG D s p.1,p.2.iW (pG D s))).lookup s'=some b'->∃s0 b0,l.lookup s0=some b0/\s'=pG D s s0/\b'=b0.iW (pG D s):=by
  intro l;induction l with
  |nil=>intro s' b' k;simp at k
  |cons p r ih=>
   obtain⟨a,c⟩:=p;intro s' b' k;rw[iQ]at k;by_cases e:s'=pG D s a
   .subst e;rw[mX]at k;cases k;exact⟨a,c,mX,rfl,rfl⟩
   .rw[jG e]at k;obtain⟨s0,b0,h1,h2,h3⟩:=ih s' b' k;refine⟨s0,b0,?_,h2,h3⟩;rw[jG (fun e'=>e (by rw[h2,e']))];exact h1
 have ZG:∀s0 b0,σ.b s0=some b0->(!s0.fP D)=true/\b0.dC (fun s=>!s.fP D)=true:=fun s0 b0 k=>by
  obtain⟨k1,k2⟩:=hN.b s0 b0 k;exact⟨by rw[k1];rfl,aL.Kx k2⟩
 refine⟨iN ρ (.loc D 0) (ρ s),m,h.sA,h.sz,fun t a k=>?_,fun s' b' k=>?_,fun s1 s2 b1 b2 k k1 k2 r1 r2=>?_,h.mem,fun s' b' k k1 r=>?_,fun s' b' k k1 r=>?_,h.keep,h.base,h.qB,fun j=>(AK ρ _ (by simp)).trans (h.par j)⟩
 .have k':(σ.t t).map (AV.map (pG D s))=some a:=by rw[<-k];exact(SX (AV.map (pG D s)) t σ.tm).symm
  obtain⟨c,k1,rfl⟩:=eA.1 k';obtain⟨v,k2,k3⟩:=h.tm t c k1;exact⟨v,k2,k3.map hg (AV.Kx c (hN.t t c k1))⟩
 .obtain⟨s0,b0,k1,rfl,rfl⟩:=look σ.bx s' b' k;obtain⟨q1,q2⟩:=ZG s0 b0 k1;exact(h.bx s0 b0 k1).iW hg q1 q2
 .obtain⟨a1,c1,p1,rfl,rfl⟩:=look σ.bx s1 b1 k1;obtain⟨a2,c2,p2,rfl,rfl⟩:=look σ.bx s2 b2 k2;rw[h.dZ a1 a2 c1 c2 k p1 p2 ((uL (hg a1 (ZG a1 c1 p1).1)).1 r1) ((uL (hg a2 (ZG a2 c2 p2).1)).1 r2)]
 .obtain⟨a1,c1,p1,rfl,rfl⟩:=look σ.bx s' b' k1;exact h.eM a1 c1 k p1 ((uL (hg a1 (ZG a1 c1 p1).1)).1 r)
 .obtain⟨a1,c1,p1,rfl,rfl⟩:=look σ.bx s' b' k1;exact h.fM a1 c1 k p1 ((uL (hg a1 (ZG a1 c1 p1).1)).1 r)
section
variable {P:Program}{σ:AS}{K:AV->AS->Prop}
theorem ZlC (d i:Nat)(aF:List Site){f:bD}{args:List bD}{d0:Nat}{s:Site}{B:List (Site×aL)}{gF:List AV}{R:AV->List (Site×aL)->Prop}(h1:σ.o f=.nM s)(hi:aF[i]?=some s)(h2:DZ aF=true)(h3:aF.all (fun s=>!s.fP d)=true)
  (hB:oV σ aF 0 aF=some B) (h4:AV.hZ (fun x=>aF.contains x) (args.map σ.o)=true) (ha:AV.iR (kB aF) (args.map σ.o)=gF) (hC:FU P i gF B R)
  (hK:∀r B',R r B'->r.dC (bX aF)=true/\(∀p∈B',bX aF p.1=true/\p.2.dC (bX aF)=true)/\K (r.map (gH aF d)) (((cK aF σ).bI d).lY (eY aF d B'))):
  yV P f args d0 K σ\/(FZ P f args K σ\/GA P f args K σ):=by
 refine .inr (.inr ⟨d,[],aF,s,i,B,h1,hi,SZ h2,h3,hB,h4,?_⟩)
 have:args.map (aM [] σ).o=args.map σ.o:=rfl
 rw[this,ha];exact hC.mono hK
end
theorem ZaQ {P:Program}{f:FuncId}{F:aZ}{args:List AV}{B:List (Site×aL)}{R:AV->List (Site×aL)->Prop}(hm:P.follows .mixedOrders=true)(hf:fV P f=some F)(hn:args.length<=F.nt)
  (h:eL P F.code (lA (fun σ=>∃outs,aT outs F.res R σ)) ⟨eW 0 args,B⟩):cN P f args B R:=Hy hm hf hn (fun _ ⟨_,h⟩=>Zq h) (I8 h)
theorem cE (F:aZ){f:FuncId}{args:List AV}{B:List (Site×aL)}{R:AV->List (Site×aL)->Prop}(h:eL prog F.code (lA (fun σ=>∃outs,aT outs F.res R σ)) ⟨eW 0 args,B⟩)(hf:fV prog f=some F:=by kernel_rfl)(hn:args.length<=F.nt:=by exact tG rfl):cN prog f args B R:=ZaQ mixed hf hn h
def sX (P:Program)(f:FuncId)(bU:List AV)(B:List (Site×aL))(R:AV->List (Site×aL)->Prop)(Rp:PV->List (Site×aL)->Prop):Prop:=
 jP P f/\∀(w:World) (m:Mem) (ρ:Site->Loc) (vs:Array Value),vA ρ m w B->(Le m w.mem/\nL m w/\(B.map (·.1)).Nodup)->vs.size=bU.length->(∀(j:Nat) (d:Value) (c:AV),vs[j]?=some d->bU[j]?=some c->bN ρ m d c)->
  Calls P f vs w (fun e w'=>lD w m ρ B R e w'\/P3 w m ρ B Rp e w')
section
variable {P:Program}{f:FuncId}{bU:List AV}{B:List (Site×aL)}{R:AV->List (Site×aL)->Prop}{Rp:PV->List (Site×aL)->Prop}
theorem sX.ret (h:sX P f bU B R Rp)(hn:∀x B',¬Rp x B'):cN P f bU B R:=
 ⟨h.1,fun w m ρ vs h1 h2 h3 h4=>(h.2 w m ρ vs h1 h2 h3 h4).mono fun e w' k=>by
  rcases k with k|⟨v,rfl,v',r,B',bW,m',k1,⟨x,k2,k3⟩,k4⟩
  .exact k
  .exact absurd k3 (hn _ _)⟩
theorem sX.B3 (h:sX P f bU B R Rp)(hn:∀r B',¬R r B'):v8 P f bU B Rp:=
 ⟨h.1,fun w m ρ vs h1 h2 h3 h4=>(h.2 w m ρ vs h1 h2 h3 h4).mono fun e w' k=>by
  rcases k with⟨v,r,B',bW,m',k1,k2,k3⟩|k
  .exact absurd k2 (hn _ _)
  .exact k⟩
theorem sX.mono {R':AV->List (Site×aL)->Prop}{Rp':PV->List (Site×aL)->Prop}(h:sX P f bU B R Rp)(h1:∀r B',R r B'->R' r B')(h2:∀x B',Rp x B'->Rp' x B'):sX P f bU B R' Rp':=
 ⟨h.1,fun w m ρ vs a1 a2 a3 a4=>(h.2 w m ρ vs a1 a2 a3 a4).mono fun e w' k=>by
  rcases k with⟨v,r,B',bW,m',k1,k2,k3⟩|⟨v,k0,v',r,B',bW,m',k1,⟨x,k2,k3⟩,k4⟩
  .exact .inl ⟨v,r,B',bW,m',k1,h1 _ _ k2,k3⟩
  .exact .inr ⟨v,k0,v',r,B',bW,m',k1,⟨x,k2,h2 _ _ k3⟩,k4⟩⟩
theorem FT.out {fn:Func}{w:World}{m:Mem}{ρ:Site->Loc}{hg:nL m w}{N:Nat}{ch:List PanicEntry}{bH:Act}{w':World}(hq:FT N w ⟨m,ρ,[],hg,false⟩ (cI ρ w B) (J9 Rp) ch bH w'){R':Ending->World->Prop}(hR:∀e w',P3 w m ρ B Rp e w'->R' e w'):
  LeavesInM (FF none) 1 P fn bH.tmps R' bH.defers (.panicking ch) w':=by
 obtain⟨v,x,τ,oW,m1,yP,rfl,N8,_,⟨outs,q3,q4,q5⟩,hT,hv⟩:=hq;obtain⟨ds,tV,wG,U5⟩:=hT.sA;have tV:=tV.nil;have Cw:Sat N w ⟨m,ρ,[],hg,false⟩ (cI ρ w B) τ oW m1 { yP with defers:=[]} w':=⟨⟨[],B7,yA,fun D hD=>by cases hD⟩,hT.sz,hT.tm,hT.bx,hT.dZ,hT.mem,hT.eM,hT.fM,hT.keep,hT.base,hT.qB,hT.par⟩;obtain⟨w2,U7,hL⟩:=Zfv (P:=P) (fn:=fn) (R:=R') (ch:=[{ v,recovered:=false }]) (tm:=bH.tmps) ds wG.1 U5 rfl Cw;rw[<-N8,tV];refine hL (hR _ _ ?_);obtain⟨bW,g1,g2,g3,g4⟩:=Mc U7 q3 q4;refine⟨v,rfl,v,.pv x,_,bW,m1,rfl,⟨x,rfl,q5⟩,g2,U7.base.1,U7.mem,fun i=>(g3 i).trans (U7.par i),fun s b i k r=>?_,U7.qB,.pv _ _ hv.nJ,U7.keep⟩;obtain⟨s0,b0,e1,e2⟩:=g4 s b i k r;exact U7.fM s0 b0 i e1 e2
theorem ZcH {F:aZ}(hm:P.follows .mixedOrders=true)(hf:fV P f=some F)(hn:bU.length<=F.nt)(h:fO P F.code (lA (rI F.res R)) (J9 Rp) ⟨eW 0 bU,B⟩):sX P f bU B R Rp:=by
 unfold fV at hf;split at hf
 .rename_i fn pZ;split at hf
  .cases hf
  .rename_i M9;split at hf
   .rename_i c hc;split at hf
    .rename_i l rs hl tT;cases hf;refine⟨⟨fn,c,pZ,by simpa using M9,hc⟩,fun w m ρ vs hB mQ P9 lF=>?_⟩;refine(callsIn_wide (n:=1)).1 (callsIn_of_wp_marks (F:=FF none) pZ hc trivial ?_ rfl);have hS:Sat fn.ntmps w ⟨m,ρ,[],mQ.2.1,false⟩ (cI ρ w B) ⟨eW 0 bU,B⟩ ρ m { tmps:=vs++Array.replicate (fn.ntmps-vs.size) undef,defers:=[]} w:=by
      have yG:bU.length<=fn.ntmps:=hn;refine⟨⟨[],B7,yA,fun D hD=>by cases hD⟩,by simp;omega,fun t a k=>?_,hB.bx,hB.dZ,mQ.1,hB.eM,fun s b i k r=>.inr (XD k r),cV.tH _ _,⟨Le.refl _,hB.free mQ.2.2⟩,fun b o v k=>.inl k,fun i=>rfl⟩;obtain⟨_,k1⟩:=Hl bU 0 t a k;rw[Nat.sub_zero]at k1;have aI:t<vs.size:=by rw[P9];exact(bZ.1 k1).1
      exact⟨vs[t],by rw[Array.getElem?_append,if_pos aI,uT aI],lF t _ a (uT aI) k1⟩
     refine wpIn_mono (ZgV (ro:=none) (fun l e=>by cases e) hm c l _ (fun e=>by cases e) (fun e=>by cases e) hl h hS) (fun e bH w' hq=>?_);have fin:F9 fn.ntmps w ⟨m,ρ,[],mQ.2.1,false⟩ (cI ρ w B) (rI rs R) bH w'->LeavesInM (FF none) 1 P fn bH.tmps (fun e w'=>lD w m ρ B R e w'\/P3 w m ρ B Rp e w') bH.defers .returning w':=by
      rintro⟨τ,oW,m1,RG,hT⟩;obtain⟨ds,tV,wG,U5⟩:=hT.sA;have tV:=tV.nil;have Cw:Sat fn.ntmps w ⟨m,ρ,[],mQ.2.1,false⟩ (cI ρ w B) τ oW m1 { bH with defers:=[]} w':=⟨⟨[],B7,yA,fun D hD=>by cases hD⟩,hT.sz,hT.tm,hT.bx,hT.dZ,hT.mem,hT.eM,hT.fM,hT.keep,hT.base,hT.qB,hT.par⟩;obtain⟨w2,U7,hL⟩:=Zeu (P:=P) (fn:=fn) (R:=fun e w'=>lD w m ρ B R e w'\/P3 w m ρ B Rp e w') ds wG.1 U5 rfl Cw;rw[tV];refine hL ?_;obtain⟨fz,outs,la,q1,q2,q3,q4,q5⟩:=RG;obtain⟨m2,hF⟩:=U7.bB fz;obtain⟨YC,r1,r2,r3⟩:=Mz fn.results.toList rs la tT q1 hF;obtain⟨bW,g1,g2,g3,g4⟩:=Mc hF q3 q4;have CF:=ZkF r2 r3;refine⟨_,?_,.inl ⟨_,_,_,bW,m2,rfl,q5,g2,hF.base.1,hF.mem,fun i=>(g3 i).trans (hF.par i),fun s b i k r=>?_,hF.qB,CF.map g1 q2,hF.keep⟩⟩
      .show(do let vs <-fn.results.mapM (vG bH.tmps);pure (if h:vs.size=1 then vs[0]else .tuple vs):Sem Value).run P w2=_;rw[Sem.run_bind,Array.mapM_eq_mapM_toList,Sem.run_map,r1];rfl
      .obtain⟨s0,b0,e1,e2⟩:=g4 s b i k r;exact hF.fM s0 b0 i e1 e2
     cases e with
     |normal=>exact fin hq
     |ret=>exact fin hq
     |exit id=>obtain⟨τ,oW,m1,q,_⟩:=hq;exact q.elim
     |goto l=>exact hq.elim
     |outgrown=>exact hq.elim
     |panic ch=>exact FT.out hq (fun _ _ k=>.inr k)
    .cases hf
   .cases hf
 .cases hf
theorem GB {c:bJ}{Q:rY->AS->Prop}{Qp:PV->AS->Prop}{σ:AS}(h:eL P c Q σ):fO P c Q Qp σ:=NZ (I8 h)
end
theorem cX (F:aZ){f:FuncId}{bU:List AV}{B:List (Site×aL)}{R:AV->List (Site×aL)->Prop}{Rp:PV->List (Site×aL)->Prop}(h:fO prog F.code (lA (rI F.res R)) (J9 Rp) ⟨eW 0 bU,B⟩)(hf:fV prog f=some F:=by kernel_rfl)(hn:bU.length<=F.nt:=by exact tG rfl):sX prog f bU B R Rp:=ZcH mixed hf hn h
theorem AM {m:Mem}{v:Value}{nl:Option Bool}{n:Nat}(h:dG m v (.emp nl)):dG m v (.aE false n []):=by
 cases h with
 |emp a _ h0 h1 h2=>exact .aE a 0 false n [] (fun _=>[]) (by simp) (by simp) (fun _=>rfl) h2 (fun hh=>by cases hh) (fun i x hx=>by simp at hx) (fun i x hx=>by simp at hx) (fun i x j d c hx=>by simp at hx)
theorem ZrX {m:Mem}{v:Value}{cs iK:List PV}(hl:cs.length=iK.length)(hw:∀(j:Nat) (c c':PV) (d:Value),cs[j]?=some c->iK[j]?=some c'->dG m d c->dG m d c')(h:dG m v (.agg cs)):dG m v (.agg iK):=by
 cases h with
 |agg vs _ h0 h1 h2=>
  refine .agg vs iK (by omega) h1 (fun j d c k1 k2=>?_);have hj:j<cs.length:=by have:=(bZ.1 k2).1;omega
  exact hw j cs[j] c d (aX hj) k2 (h2 j d _ k1 (aX hj))
theorem cN.Ku {P:Program}{f:FuncId}{xs ys:List PV}{B:List (Site×aL)}{R:AV->List (Site×aL)->Prop}(h:cN P f (ys.map .pv) B R)(hl:xs.length=ys.length)(hw:∀(j:Nat) (x y:PV) (m:Mem) (v:Value),xs[j]?=some x->ys[j]?=some y->dG m v x->dG m v y):cN P f (xs.map .pv) B R:=by
 refine⟨h.1,fun w m ρ vs h1 h2 h3 h4=>h.2 w m ρ vs h1 h2 (by simpa[hl]using h3) (fun j d c k1 k2=>?_)⟩;rw[bR]at k2;obtain⟨y,hy,rfl⟩:=eA.1 k2;have hj:j<xs.length:=by rw[hl];exact(bZ.1 hy).1
 have:=h4 j d (.pv xs[j]) k1 (by rw[bR,aX hj];rfl)
 exact .pv _ _ (hw j _ _ _ _ (aX hj) hy this.nJ)
theorem cN.j4 {P:Program}{f:FuncId}{xs:List AV}{B:List (Site×aL)}{x':PV}(h:cN P f xs B (fun r B=>∃x,r=.pv x/\B=[]/\∀m v,dG m v x->dG m v x')):cN P f xs B (fun r B=>r=.pv x'/\B=[]):=by
 refine⟨h.1,fun w m ρ vs h1 h2 h3 h4=>(h.2 w m ρ vs h1 h2 h3 h4).mono fun e w' ⟨v,r,B',bW,m',k1,⟨x,k2,k3,hw⟩,k4,k5,k6,k7,k8,k9,Rj,Ri⟩=>?_⟩;subst k2 k3;exact⟨v,.pv x',[],bW,m',k1,⟨rfl,rfl⟩,k4,k5,k6,k7,k8,k9,.pv _ _ (hw _ _ Rj.nJ),Ri⟩
theorem Yl {m:Mem}{v:Value}{cs iK:List PV}(hl:cs.length=iK.length)(hw:∀(j:Nat) (c c':PV) (d:Value),cs[j]?=some c->iK[j]?=some c'->dG m d c->dG m d c')(h:dG m v (.bM cs)):dG m v (.bM iK):=by
 cases h with
 |bM vs _ h0 h2=>
  refine .bM vs iK (by omega) (fun j d c k1 k2=>?_);have hj:j<cs.length:=by have:=(bZ.1 k2).1;omega
  exact hw j cs[j] c d (aX hj) k2 (h2 j d _ k1 (aX hj))
theorem ZuO {m:Mem}{v:Value}{nn:Bool}{n:Nat}{cs iK:List PV}(hl:cs.length=iK.length)(hc:∀(j:Nat) (c:PV),iK[j]?=some c->c.cells.length=n)(hw:∀(j:Nat) (c c':PV) (k:Nat) (d:Value) (x x':PV),cs[j]?=some c->iK[j]?=some c'->c.cells[k]?=some x->c'.cells[k]?=some x'->dG m d x->dG m d x')(h:dG m v (.aE nn n cs)):dG m v (.aE nn n iK):=by
 cases h with
 |aE a cap _ _ _ ds h0 h1 h2 h3 h4 h5 h6 h7=>
  rw[hl];have key:∀(i:Nat) (x:PV),iK[i]?=some x->∃y,cs[i]?=some y:=fun i x hx=>by
   have:i<cs.length:=by rw[hl];exact(bZ.1 hx).1
   exact⟨cs[i],aX this⟩
  refine .aE a cap nn n iK ds (by omega) h1 h2 h3 h4 (fun i x hx=>?_) (fun i x hx=>?_) (fun i x j d c hx hd sR=>?_)
  .obtain⟨y,hy⟩:=key i x hx;exact h5 i y hy
  .obtain⟨y,hy⟩:=key i x hx;obtain⟨a1,a2,a3⟩:=h6 i y hy;exact⟨a1,hc i x hx,a3⟩
  .obtain⟨y,hy⟩:=key i x hx;obtain⟨a1,a2,a3⟩:=h6 i y hy;have hj:j<y.cells.length:=by
    have:=(bZ.1 hd).1
    omega
   exact hw i y x j d _ c hy hx (aX hj) sR (h7 i y j d _ hy hd (aX hj))
section
attribute [local simp] AS.exp jV aL.iW AV.map AV.iR rB dO Site.uI aL.dC AV.dC AV.hZ aT cK AS.lY eY gH bX oV kB mT gK s6
attribute [local simp] aL.bI Site.fP
def yL (e:Int):PV:=.iface 156 (.agg [.i e])
theorem gQ (e:Int):aD prog 118 [.bool true,.i e] (.bM []):=by
 refine cS L118 ?_;simp[L118]
theorem zV (e:Int):v8 prog 118 [.pv (.bool false),.pv (.i e)] [] (fun x B=>x=yL e/\B=[]):=by
 refine(ZcH (R:=fun _ _=>False) mixed L118_ok (tG rfl) ?_).B3 (fun _ _ h=>h);show fO _ (.seq _ (.cond _ _ _)) _ _ _;refine mH ?_;simp[hold];refine ZoO (t:=true) (by simp) ?_;refine Gc [_,_,_] ?_;simp[hold];refine⟨rfl,.inr ⟨_,_,_,rfl,by simp;exact⟨rfl,rfl⟩,?_⟩⟩;exact⟨[],rfl,(fun s hs=>by cases hs),rfl,rfl⟩
theorem KB (n lo hi:Int):aD prog 208 [.i n,.i lo,.i hi] (.bool (decide (lo<=n)&&decide (n<=hi))):=by
 refine cS L208 ?_;by_cases h:lo<=n<;>by_cases h':n<=hi<;>simp[L208,h,h']
end
end Go.Proofs.YthmbecacehfgfaaGreatDoor
namespace Go.Proofs
open Go.RowKit
open Tryz
section
open Go.Shelf
def Tryz.Zws:Go.Shelf.Ren:=⟨fun|156=>66|165=>102|166=>26|169=>33|240=>53|241=>147|276=>93|277=>190|n=>n,fun|31=>22|9=>9|3=>3|4=>4|0=>0|20=>20|72=>87|76=>90|70=>85|37=>53|75=>89|127=>153|164=>187|5=>5|80=>107|n=>n,fun|n=>n⟩
theorem Tryz.Zxf:Go.Proofs.Lays.n156 prog Zws:=by repeat' first|kernel_rfl|(intro _;kernel_rfl)|decide|constructor
theorem Tryz.ZvT:Builder.Extra prog Zws:=by repeat' first|kernel_rfl|(intro _;kernel_rfl)|decide|constructor
open Go.RowKit in
theorem Tryz.strings_Join_none (a:Option Addr)(c:Nat)(sep:ByteArray)(w:World):
  Calls prog 66 #[.slice a 0 c,.string sep] w fun e w'=>e=.returned (.string ⟨#[]⟩)/\w'=w:=Any.strings_Join_none Zxf ZvT a c sep w
open Go.RowKit in
theorem Tryz.strings_Join (bk o c:Nat)(xs:List ByteArray)(sep:ByteArray)(w:World)(QV:∀(j:Nat) x,xs[j]?=some x->w.cell? ⟨bk,o+j,none⟩=some (.string x))(IL:bk<w.heap.size)(hN:xs.length<=140737488355328)(QW:xs.length<=c)(hlen:(Lib.join (xs.map (·.data.toList)) sep.data.toList).length<=140737488355328):
  Calls prog 66 #[.slice (some ⟨bk,o,none⟩) xs.length c,.string sep] w fun e w'=>e=.returned (.string ⟨(Lib.join (xs.map (·.data.toList)) sep.data.toList).toArray⟩)/\Below w.heap.size w w':=Any.strings_Join Zxf ZvT bk o c xs sep w QV IL hN QW hlen
def Tryz.ZwN:Go.Shelf.Ren:=⟨fun|171=>65|243=>101|246=>146|283=>186|284=>187|285=>188|286=>189|129=>239|317=>240|318=>241|319=>242|320=>243|337=>277|338=>278|n=>n,fun|3=>3|9=>9|2=>2|4=>4|171=>289|0=>0|53=>290|37=>53|5=>5|173=>293|212=>337|51=>299|20=>20|213=>338|46=>258|232=>378|233=>379|n=>n,fun|17=>0|18=>4|19=>5|n=>n⟩
theorem Tryz.Zxo:Go.Proofs.LaysM.n171 prog ZwN:=by repeat' first|kernel_rfl|(intro _;kernel_rfl)|decide|constructor
open Go.RowKit Go.Sort Go.Lib in
theorem Tryz.strconv_Itoa (n : Int) (h0 : -9223372036854775808 <= n) (h1 : n <= 9223372036854775807) (w : World) (PL : Lib.TabIs prog w "internal/strconv.uint64pow10" .u64 Lib.pow10Tab) :
  Calls prog 65 #[.i n] w fun e w'=>e=.returned (.string ⟨(Lib.itoa n).toArray⟩)/\∃k os,w'=grow (w.drewN k) os:=Any.strconv_Itoa Zxo n h0 h1 w PL
def Tryz.ZwO:Go.Shelf.Ren:=⟨fun|172=>167|244=>213|245=>214|247=>259|279=>260|280=>261|281=>262|282=>263|287=>288|316=>289|171=>65|205=>290|321=>299|322=>300|243=>101|246=>146|283=>186|284=>187|285=>188|286=>189|129=>239|317=>240|318=>241|319=>242|320=>243|337=>277|338=>278|n=>n,fun|9=>9|3=>3|75=>89|76=>90|4=>4|5=>5|167=>351|37=>53|0=>0|85=>352|2=>2|168=>354|53=>290|175=>369|46=>258|210=>373|127=>153|145=>389|143=>387|21=>21|171=>289|173=>293|212=>337|51=>299|20=>20|213=>338|232=>378|233=>379|80=>107|n=>n,fun|15=>2|16=>3|17=>0|18=>4|19=>5|n=>n⟩
theorem Tryz.Xm:Go.Proofs.LaysC.n172 prog ZwO:=by repeat' first|kernel_rfl|(intro _;kernel_rfl)|decide|constructor
open Go.RowKit in
theorem Tryz.strconv_Atoi_ok (s:ByteArray)(QC:s.size<=9223372036854775806)(v:Int)(h:Lib.atoiAll s.data.toList=.ok v)(w:World):
  Calls prog 167 #[.string s] w fun e w'=>e=.returned (.tuple #[.i v,.nilIface])/\(w'=w\/∃t,w'=Lib.bytesWorld w 5 t):=Any.strconv_Atoi_ok Xm s QC v h w
open Go.RowKit in
theorem Tryz.strconv_Atoi_syntax (s:ByteArray)(QD:s.size<=281474976710656)(h:Lib.atoiAll s.data.toList=Lib.NumEnd.syntax)(ev:Value)(w:World)(hv:w.cell? ⟨2,0,none⟩=some ev)(Un:ev=.nilIface\/∃te pe,ev=.iface te pe):
  Calls prog 167 #[.string s] w fun e w'=>∃N,e=.returned (.tuple #[.i 0,.iface 354 (.pointer (some ⟨N,0,none⟩))])/\w.heap.size<=N/\w'.heap[N]?=some (.cells #[.string ⟨#[65,116,111,105]⟩,.string s,ev] 373 (0,0))/\Below w.heap.size w w':=Any.strconv_Atoi_syntax Xm s QD h ev w hv Un
open Go.RowKit in
theorem Tryz.strconv_Atoi_range (s:ByteArray)(QD:s.size<=281474976710656)(h:Lib.atoiAll s.data.toList=.range)(ev:Value)(w:World)(hv:w.cell? ⟨3,0,none⟩=some ev)(Un:ev=.nilIface\/∃te pe,ev=.iface te pe):
  Calls prog 167 #[.string s] w fun e w'=>∃N,e=.returned (.tuple #[.i (Lib.atoiSat s.data.toList),.iface 354 (.pointer (some ⟨N,0,none⟩))])/\w.heap.size<=N/\w'.heap[N]?=some (.cells #[.string ⟨#[65,116,111,105]⟩,.string s,ev] 373 (0,0))/\Below w.heap.size w w':=Any.strconv_Atoi_range Xm s QD h ev w hv Un
def Tryz.ZwX:Go.Shelf.Ren:=⟨fun|101=>168|208=>215|206=>264|n=>n,fun|9=>9|4=>4|3=>3|n=>n,fun|n=>n⟩
theorem Tryz.ZxC:Go.Proofs.Lays.n101 prog ZwX:=by repeat' first|kernel_rfl|(intro _;kernel_rfl)|decide|constructor
open Go.RowKit Go.Lib in
theorem Tryz.strings_TrimPrefix (s p:ByteArray)(w:World):
  Calls prog 168 #[.string s,.string p] w fun e w'=>e=.returned (.string ⟨(Lib.trimPrefix s.data.toList p.data.toList).toArray⟩)/\w'=w:=Any.strings_TrimPrefix ZxC s p w
def Tryz.ZwW:Go.Shelf.Ren:=⟨fun|146=>116|221=>160|268=>199|138=>200|143=>201|195=>246|197=>247|218=>248|219=>249|260=>281|217=>282|225=>283|224=>284|267=>285|266=>295|314=>296|n=>n,fun|9=>9|31=>22|3=>3|4=>4|0=>0|105=>342|21=>21|5=>5|46=>258|119=>380|139=>383|138=>382|146=>300|51=>299|n=>n,fun|1=>1|3=>6|4=>7|n=>n⟩
theorem Tryz.ZxB:Go.Proofs.Lays.n146 prog ZwW:=by repeat' first|kernel_rfl|(intro _;kernel_rfl)|decide|constructor
open Go.RowKit Go.Lib in
theorem Tryz.strings_Split (s sep:ByteArray)(m:Int)(w:World)(hs:s.size<4294967281)(hm:w.cell? ⟨1,0,none⟩=some (.i m))(h1:1<=sep.size):
  Calls prog 116 #[.string s,.string sep] w fun e w'=>
   e=.returned (.slice (some ⟨w.heap.size,0,none⟩) (Lib.countB s sep+1) (Lib.countB s sep+1))/\w'=w.alloc (.cells ((Lib.splitB sep 0 (Lib.countB s sep) s).map Value.string).toArray 9):=Any.strings_Split ZxB (by kernel_rfl) s sep m w hs hm h1
end
end Go.Proofs
namespace Go.Proofs.YthmbecacehfgfaaGreatDoor
open Go.RowKit
open Tryz
section
open Go.RowKit Go.Sort
theorem ZiO {P:Program}{f:FuncId}{xs:List PV}{y:PV}(hc:jP P f)(h:∀(w:World) (m:Mem) (vs:Array Value),nL m w->Le m w.mem->vs.size=xs.length->(∀(j:Nat) (d:Value) (c:PV),vs[j]?=some d->xs[j]?=some c->dG m d c)->
   Calls P f vs w (fun e w'=>∃v m',e=.returned v/\Ext w w'/\Le m m'/\Le m' w'.mem/\(∀b o u,m' b o=some u->m b o=some u\/w.heap.size<=b)/\dG m' v y)):aD P f xs y:=by
 refine⟨hc,fun w m ρ vs hB mQ fG lF=>(h w m vs mQ.2.1 mQ.1 (by simpa using fG) (fun j d c k1 k2=>(lF j d (.pv c) k1 (by rw[bR,k2];rfl)).nJ)).mono ?_⟩;rintro e w' ⟨v,m',rfl,hx,h1,h2,h3,h4⟩;exact⟨v,.pv y,[],ρ,m',rfl,⟨rfl,rfl⟩,vA.nil _ _ _,h1,h2,fun _=>rfl,fun s b k hs=>by simp[List.lookup]at hs,fun b o u hu=>(h3 b o u hu).imp id .inl,.pv _ _ h4,cV.Ex hx _⟩
theorem Nn {P:Program}{f:FuncId}{xs:List PV}{y:PV}(hc:jP P f)(h:∀(w:World) (m:Mem) (vs:Array Value),nL m w->Le m w.mem->vs.size=xs.length->(∀(j:Nat) (d:Value) (c:PV),vs[j]?=some d->xs[j]?=some c->dG m d c)->
   Calls P f vs w (fun e w'=>∃v,e=.returned v/\Ext w w'/\dG m v y)):aD P f xs y:=
 ZiO hc fun w m vs h1 h2 h3 h4=>(h w m vs h1 h2 h3 h4).mono fun _ _ ⟨v,k1,k2,k3⟩=>⟨v,m,k1,k2,Le.refl m,h2.trans k2.le,fun _ _ _ h=>.inl h,k3⟩
theorem SB {vs:Array Value}(h:vs.size=1):∃v,vs=#[v]:=by
 match vs,h with
 |⟨[v]⟩,_=>exact⟨v,rfl⟩
theorem JG {vs:Array Value}(h:vs.size=2):∃v u,vs=#[v,u]:=by
 match vs,h with
 |⟨[v,u]⟩,_=>exact⟨v,u,rfl⟩
theorem SR {m:Mem}{v:Value}{s:ByteArray}(h:dG m v (.str s)):v=.string s:=by cases h;rfl
theorem Zt5 {m:Mem}{v:Value}{k:IntKind}{n:Int}(h:dG m v (.int k n)):v=.int k n:=by cases h;rfl
def vX (n:Int):ByteArray:=⟨(Lib.itoa n).toArray⟩
theorem Zqo (w:World)(k:Nat)(os:Array Obj):Ext w (grow (w.drewN k) os):=⟨rfl,rfl,rfl,by simp[grow,World.drewN],fun i hi=>by
 show(w.heap++os)[i]?=w.heap[i]?;rw[Array.getElem?_append,if_pos hi]⟩
theorem Yg (n:Int)(h:-9223372036854775808<=n/\n<=9223372036854775807):aD prog 65 [.i n] (.str (vX n)):=by
 refine Nn ⟨_,_,func65,by kernel_rfl,rfl⟩ fun w m vs hg hm fG lF=>?_
 obtain⟨v,rfl⟩:=SB fG;obtain rfl:=Zt5 (lF 0 v _ rfl rfl);have PL : Lib.TabIs prog w "internal/strconv.uint64pow10" .u64 Lib.pow10Tab := by
  obtain⟨_,_,_,_,t,fr,h5⟩:=hg;have e : prog.globalNamed "internal/strconv.uint64pow10" = some 0 := by kernel_rfl
  unfold Lib.TabIs World.var?;rw[e];show(match w.heap[0]? with|some (.cells cs _ _)=>some cs|_=>none)=_;rw[h5]
 exact(strconv_Itoa n h.1 h.2 w PL).mono fun e w' ⟨h1,k,os,h2⟩=>⟨_,h1,h2▸Zqo w k os,.str _⟩
def i6 (s:ByteArray):PV:=match Lib.atoiAll s.data.toList with
 |.ok v=>.bM [.i v,.eV]
 |Lib.NumEnd.syntax=>.bM [.i 0,.iface 354 .P6]
 |.range=>.bM [.i (Lib.atoiSat s.data.toList),.iface 354 .P6]
theorem ZrU (s:ByteArray)(hs:s.size<=1000000):aD prog 167 [.str s] (i6 s):=by
 refine Nn ⟨_,_,func167,by kernel_rfl,rfl⟩ fun w m vs hg hm fG lF=>?_
 obtain⟨v,rfl⟩:=SB fG;obtain rfl:=SR (lF 0 v _ rfl rfl);obtain⟨_,⟨t1,p1,g1⟩,⟨t2,p2,g2⟩,_⟩:=hg;unfold i6;cases h:Lib.atoiAll s.data.toList with
 |ok v=>
  refine(strconv_Atoi_ok s (by omega) v h w).mono fun e w' ⟨h1,h2⟩=>⟨_,h1,?_,WO (.int _ _) .eV⟩
  rcases h2 with rfl|⟨t,rfl⟩
  .exact Ext.tH _
  .exact ZgQ _ _ _
 |range=>exact(strconv_Atoi_range s (by omega) h _ w (hm _ _ _ g2) (.inr ⟨_,_,rfl⟩)).mono fun e w' ⟨N,h1,_,_,h2⟩=>⟨_,h1,h2,WO (.int _ _) (.iface _ _ _ (.P6 _ rfl))⟩
 |_=>exact(strconv_Atoi_syntax s (by omega) h _ w (hm _ _ _ g1) (.inr ⟨_,_,rfl⟩)).mono fun e w' ⟨N,h1,_,_,h2⟩=>⟨_,h1,h2,WO (.int _ _) (.iface _ _ _ (.P6 _ rfl))⟩
def trimB (s p:ByteArray):ByteArray:=⟨(Lib.trimPrefix s.data.toList p.data.toList).toArray⟩
theorem Zrs (s p:ByteArray):aD prog 168 [.str s,.str p] (.str (trimB s p)):=by
 refine Nn ⟨_,_,func168,by kernel_rfl,rfl⟩ fun w m vs hg hm fG lF=>?_
 obtain⟨v,u,rfl⟩:=JG fG;obtain rfl:=SR (lF 0 v _ rfl rfl);obtain rfl:=SR (lF 1 u _ rfl rfl);exact(strings_TrimPrefix s p w).mono fun e w' ⟨h1,h2⟩=>⟨_,h1,h2▸Ext.tH _,.str _⟩
def xP (s sep:ByteArray):List ByteArray:=Lib.splitB sep 0 (Lib.countB s sep) s
theorem Zsn (s sep:ByteArray)(hs:s.size<=1000000)(h1:1<=sep.size)(hlen:(xP s sep).length=Lib.countB s sep+1)(QW:Lib.countB s sep<=1000000):aD prog 116 [.str s,.str sep] (.aE true 1 ((xP s sep).map .str)):=by
 refine ZiO ⟨_,_,func116,by kernel_rfl,rfl⟩ fun w m vs hg hm fG lF=>?_
 obtain⟨v,u,rfl⟩:=JG fG;obtain rfl:=SR (lF 0 v _ rfl rfl);obtain rfl:=SR (lF 1 u _ rfl rfl);obtain⟨⟨z,g0⟩,_⟩:=hg;refine(strings_Split s sep z w (by omega) (hm _ _ _ g0) h1).mono ?_;rintro e w' ⟨rfl,rfl⟩;have M8:∀o,m w.heap.size o=none:=fun o=>by
  cases hv:m w.heap.size o with
  |none=>rfl
  |some v=>
   have:=AQ (hm _ _ _ hv)
   omega
 obtain⟨W,hW⟩:∃W,W=w.alloc (.cells ((xP s sep).map Value.string).toArray 9):=⟨_,rfl⟩;have hx:Ext w W:=by rw[hW];exact Ext.al _ _
 have hc:∀j x,(xP s sep)[j]?=some x->W.mem w.heap.size j=some (.string x):=fun j x hj=>by
  have hb:W.heap[w.heap.size]?=some (.cells ((xP s sep).map Value.string).toArray 9 (0,0)):=by rw[hW];exact World.alloc_heap_new w _
  show World.cell? W ⟨w.heap.size,j,none⟩=_;unfold World.cell?;simp only[hb];simp[hj]
 have DA:Lib.countB s sep+1=((xP s sep).map PV.str).length:=by rw[fQ];exact hlen.symm
 have Z4:Lib.splitB sep 0 (Lib.countB s sep) s=xP s sep:=rfl;rw[Z4,<-hW,DA];obtain⟨m',Q3⟩:∃m':Mem,m'=fun b o=>if b=w.heap.size then W.mem b o else m b o:=⟨_,rfl⟩
 have e1:∀o,m' w.heap.size o=W.mem w.heap.size o:=fun o=>by rw[Q3];simp
 have e2:∀b o,b≠w.heap.size->m' b o=m b o:=fun b o hb=>by rw[Q3];simp[hb]
 refine⟨_,m',rfl,hx,fun b o v hv=>?_,fun b o v hv=>?_,fun b o v hv=>?_,?_⟩
 .by_cases hb:b=w.heap.size
  .subst hb;rw[M8 o]at hv;cases hv
  .rw[e2 b o hb];exact hv
 .by_cases hb:b=w.heap.size
  .subst hb;rw[e1]at hv;exact hv
  .rw[e2 b o hb]at hv;exact hx.le _ _ _ (hm _ _ _ hv)
 .by_cases hb:b=w.heap.size
  .exact .inr (by omega)
  .rw[e2 b o hb]at hv;exact .inl hv
 .refine dG.aE (some ⟨w.heap.size,0,none⟩) _ true 1 _ (fun i=>[.string ((xP s sep).getD i default)]) (fE _) (by rw[<-DA];omega) (fun h=>by cases h) (fun A hA=>by cases hA;rfl) (fun _ h=>by cases h) (fun i x hx=>?_) (fun i x hx=>?_) (fun i x j d c hx hd sR=>?_)
  all_goals
   rw[bR]at hx;obtain⟨t,ht,rfl⟩:=eA.1 hx;have EY:(xP s sep).getD i default=t:=by rw[List.getD_eq_getElem?_getD,ht];rfl
  .refine⟨w.heap.size,0,rfl,At.j3 (fun j u hj=>?_)⟩;cases j with
   |zero=>
    cases hj
    have:=(e1 i).trans (hc i t ht)
    rw[EY];simpa using this
   |succ j=>cases hj
  .exact⟨rfl,rfl,fun u hu=>by cases rU.1 hu;rfl⟩
  .cases j with
   |zero=>cases hd;cases sR;rw[EY];exact .str _
   |succ j=>cases hd
end
section
variable {P:Program}{N:Nat}{w0:World}{m0:Env w0}{pl:List Nat}{σ:AS}{ρ:Site->Loc}{m:Mem}{act:Act}{w:World}
theorem Sat.ZxX {d:Nat}{aF:List Site}{B:List (Site×aL)}(hF:Sat N w0 m0 pl σ ρ m act w)(pW:aF.Nodup)(sP:aF.all (fun s=>!s.fP d)=true)(hB:oV σ aF 0 aF=some B)
  {tm:List (Nat×AV)} (y1:∀t a,tm.lookup t=some a->∃a0,σ.t t=some a0/\a=a0.map (kB aF)/\a0.dC (fun x=>aF.contains x)=true):
  ∃oD:Site->Loc,(∀s,aF.contains s=true->oD (kB aF s)=ρ s)/\Sat N w0 ⟨m0.m,oD,m0.rest,m0.uB,m0.strict⟩ pl ⟨tm,B⟩ oD m act w:=by
 obtain⟨l1,l2,l3,l4⟩:=Zdx σ aF aF 0 B hB;obtain⟨oD,gA,tZ,_⟩:=BO hF pW sP hB;refine⟨oD,gA,hF.sA,hF.sz,fun t a k=>?_,tZ.bx,tZ.dZ,hF.mem,tZ.eM,fun s b k h1 h2=>?_,hF.keep,hF.base,hF.qB,fun i=>rfl⟩
 .obtain⟨a0,k1,rfl,k2⟩:=y1 t a k;obtain⟨v,k3,k4⟩:=hF.tm t a0 k1;exact⟨v,k3,k4.map gA k2⟩
 .obtain⟨j,s0,b0,e1,e2,e3,rfl,e5⟩:=l1 s b h1;have hc:=dL e2;have e6:kB aF s0=s:=by
   obtain⟨j',k1,k2⟩:=Ft hc;have e:j'=j:=Nw pW k2 e2;rw[e1];unfold kB;rw[k1,e,rT]
  have e7:oD s=ρ s0:=by rw[<-e6];exact gA s0 (by simpa using hc)
  exact hF.fM s0 b0 k e3 ((uL e7).1 h2)
def Lw (σ:AS):Prop:=(∀t a,σ.t t=some a->a.dC Site.s7=true)/\∀s b,σ.b s=some b->s.s7=true/\b.dC Site.s7=true
theorem Zk0 {ρ bW:Site->Loc}(h:∀i,bW (.par i)=ρ (.par i)){s:Site}(hs:s.s7=true):bW s=ρ s:=by
 cases s with
 |par i=>exact h i
 |_=>cases hs
theorem Dv {g:FuncId}{gn:Func}{id:Nat}{o:Oper}{t6:Tmp}{c2:Code}{l2:bJ}(hm:P.follows .mixedOrders=true)(hg:P.funcs[g]?=some gn)(Q4:gn.body=some (.seq (.region id #[o] false) c2))
  (nG:∀ev w,(execOp ev o).run P w=.ok .recover w) (EY:o.guard=none) (hd:o.dst=some t6) (Ac:t6<gn.ntmps) (eO:gn.results=#[]) (hl:dQ P gn.ntmps c2=some l2) (hnr:kH c2=true)
  {u u':FrameMode} {rv:Value} (hu:(u=.returning/\rv=.nilIface/\u'=.returning)\/∃v,u=.panicking [{ v,recovered:=false }]/\rv=v/\u'=.panicking [{ v,recovered:=true }])
  {bU:List AV} {B:List (Site×aL)} {args:Array Value} (hB:vA ρ m w B) (mQ:Le m w.mem/\nL m w) (HU:(B.map (·.1)).Nodup) (P9:args.size=bU.length) (hn:bU.length<=gn.ntmps) (lF:∀(j:Nat) (d:Value) (c:AV),args[j]?=some d->bU[j]?=some c->bN ρ m d c)
  {ra:AV} (hra:bN ρ m rv ra) {F:AS->Prop} (h:uE P l2 (lA F) ⟨(t6,ra)::eW 0 bU,B⟩)
  {R:World->Prop} (hR:∀γ bW m' bH w',F γ->Sat gn.ntmps w ⟨m,ρ,[],mQ.2,true⟩ (cI ρ w B) γ bW m' bH w'->R w'):
  CallsDIn (FF none) 0 P g args u w (fun e u1 w'=>(∃v,e=.returned v)/\u1=u'/\R w'):=by
 refine callsDIn_of_wpSIn hg Q4 trivial (fun wN cs MR=>wpSIn_seq (wpSIn_region ?_));have hS:Sat gn.ntmps w ⟨m,ρ,[],mQ.2,true⟩ (cI ρ w B) ⟨(t6,ra)::eW 0 bU,B⟩ ρ m (({ tmps:=args++Array.replicate (gn.ntmps-args.size) undef,defers:=[]}:Act).put (some t6) rv) w:=by
  refine Sat.put (σ:=⟨eW 0 bU,B⟩) ?_ Ac hra;refine⟨⟨[],B7,yA,fun D hD=>by cases hD⟩,by simp;omega,fun t a k=>?_,hB.bx,hB.dZ,mQ.1,hB.eM,fun s b i k r=>.inr (XD k r),cV.tH _ _,⟨Le.refl _,hB.free HU⟩,fun b o v k=>.inl k,fun i=>rfl⟩;obtain⟨_,k1⟩:=Hl bU 0 t a k;rw[Nat.sub_zero]at k1;have aI:t<args.size:=by rw[P9];exact(bZ.1 k1).1
  exact⟨args[t],by rw[Array.getElem?_append,if_pos aI,uT aI],lF t _ a (uT aI) k1⟩
 have hw:=XJ (ro:=none) (fun l e=>by cases e) hm c2 l2 _ (fun _=>hnr) hl h hS;have fin:∀e bH w',nZ gn.ntmps w ⟨m,ρ,[],mQ.2,true⟩ (cI ρ w B) (lA F) e bH w'->bodyPostS P gn wN cs (fun e u1 w'=>(∃v,e=.returned v)/\u1=u'/\R w') e bH ({ wN with mode:=u' }::cs) w':=by
  intro e bH w' hq;have done:F9 gn.ntmps w ⟨m,ρ,[],mQ.2,true⟩ (cI ρ w B) F bH w'->bH.defers=[]/\∃u1,({ wN with mode:=u' }:Frame)::cs={ wN with mode:=u1 }::cs/\∃v,(results gn bH.tmps).run P w'=.ok v w'/\((∃v',Ending.returned v=.returned v')/\u1=u'/\R w'):=by
   rintro⟨τ,oW,m1,hF,hT⟩;obtain⟨ds,tV,wG,_⟩:=hT.sA
   have:ds=[]:=wG.2 rfl
   subst this;refine⟨by simpa using tV.nil,u',rfl,.tuple #[],?_,⟨_,rfl⟩,rfl,hR τ oW m1 bH w' hF hT⟩;simp[results,eO]
  cases e with
  |normal=>exact done hq
  |ret=>exact done hq
  |exit id=>obtain⟨τ,oW,m1,q,_⟩:=hq;exact q.elim
  |goto l=>exact hq.elim
  |panic ch=>exact hq.elim
  |outgrown=>exact hq.elim
 have sL:c2.wpSIn (FF none) 0 P (bodyPostS P gn wN cs (fun e u1 w'=>(∃v,e=.returned v)/\u1=u'/\R w')) (({ tmps:=args++Array.replicate (gn.ntmps-args.size) undef,defers:=[]}:Act).put (some t6) rv) ({ wN with mode:=u' }::cs) w:=
  wpSIn_of_wpIn rfl (wpIn_mono (ON hw) fun e bH w' hq=>fin e bH w' hq)
 have Rv:Region.wanted o (yielded #[o] ({ tmps:=args++Array.replicate (gn.ntmps-args.size) undef,defers:=[]}:Act).tmps)=true:=by simp[Region.wanted,EY]
 show wpOpsSIn (FF none) 0 P #[o] _ [0] _ _ _;simp only[wpOpsSIn,I1,List.getElem?_cons_zero,Rv,if_true,nG];refine⟨fun _ _=>trivial,?_⟩;rcases hu with⟨rfl,rfl,rfl⟩|⟨v,rfl,rfl,rfl⟩
 .have hr:recoverD (wN::cs)=none:=by simp[recoverD,MR]
  have e:({ wN with mode:=FrameMode.returning }:Frame)=wN:=by rw[<-MR]
  rw[e]at sL;simp only[hr,hd];exact sL
 .have hr:recoverD (wN::cs)=some (rv,{ wN with mode:=.panicking [{ v:=rv,recovered:=true }]}::cs):=by simp[recoverD,MR]
  simp only[hr,hd];exact sL
def DH (P:Program)(l3:bJ)(t6:Tmp)(caps:List AV)(rs:List oA)(R:PV->aL->Prop)(x:PV)(σ:AS):Prop:=
 x.flat=true/\∃τ,Sub τ σ/\Lw τ/\(τ.bx.map (·.1)).Nodup/\uE P l3 (lA (fun γ=>∃TQ,Sub TQ γ/\Lw TQ/\∃y b',AS.FJ ⟨τ.tm,TQ.bx⟩ rs=some [.pv y]/\TQ.b (.par 0)=some b'/\b'.dC (fun s=>decide (s=.par 0))=true/\R y b')) ⟨(t6,.pv x)::eW 0 caps,τ.bx⟩
theorem zI {s s0:Site}{b c:aL}(h:List.lookup s [(s0,b)]=some c):s=s0/\c=b:=by
 by_cases e:s=s0
 .subst e;rw[mX]at h;cases h;exact⟨rfl,rfl⟩
 .rw[jG e]at h;cases h
def Kg:bJ->bJ
 |.seq a _=>a
 |c=>c
def V0:bJ->bJ
 |.seq _ b=>b
 |c=>c
def YN:bJ->LO
 |.region (o::_)=>o
 |_=>default
theorem ZoC {f g:FuncId}{fn gn:Func}{a1 a2 b c2:Code}{id id2:Nat}{o1 o2 o3:Oper}{l1 l2 lb l3:bJ}{Re:LO}{t t6:Tmp}{dc:Call}{cl:List Site}{bU:List AV}{B BL:List (Site×aL)}{aF:List Site}{d:Nat}{S:AS}{Pw:List (Nat×AV)}{rs:List oA}{R:PV->aL->Prop}
  (hm : P.follows .mixedOrders = true) (hf : P.funcs[f]? = some fn) (M9 : (fn.name == "runtime.NumGoroutine") = false) (MS : fn.body = some (.seq a1 (.seq a2 (.seq (.region id #[o1, o2] false) b))))
  (h1:dQ P fn.ntmps a1=some l1) (h2:dQ P fn.ntmps a2=some l2) (hb:dQ P fn.ntmps b=some lb) (C9:kH a1=true) (C8:kH a2=true) (hrb:kH b=true) (hdb:nT b=true)
  (ho1:qJ P fn.ntmps #[o1,o2] true o1=some Re) (ho2:o2.op=.defer dc) (hdc:dc.callee=.value (.tmp t)) (hda:dc.args=#[]) (G9:o2.guard=none) (wG:o2.dst=none)
  (tT:kV P fn.results.toList=some rs) (hn:bU.length<=fn.ntmps)
  (hg : P.funcs[g]? = some gn) (QP : (gn.name == "runtime.NumGoroutine") = false) (Q4 : gn.body = some (.seq (.region id2 #[o3] false) c2)) (nG : ∀ ev w, (execOp ev o3).run P w = .ok .recover w) (hg3 : o3.guard = none) (U5 : o3.dst = some t6) (Ac : t6 < gn.ntmps) (hgr : gn.results = #[])
  (MK:dQ P gn.ntmps c2=some l3) (Z6:kH c2=true) (nY:cl.length<=gn.ntmps)
  (hA:uE P (.seq l1 l2) (fun e σ=>e=.normal/\pL P Re (fun KS=>Sub S KS) σ) ⟨eW 0 bU,B⟩) (hSt:S.t t=some (.fn g [] (cl.map fun s=>.ptr s 0))) (pW:aF.Nodup) (sP:aF.all (fun s=>!s.fP d)=true) (hB:oV S aF 0 aF=some BL)
  (gS:∀s∈cl,aF.contains s=true/\(kB aF s).s7=true) (CH:aF.head?=some (.par 0))
  (y1:∀t a,Pw.lookup t=some a->∃a0,S.t t=some a0/\a=a0.map (kB aF)/\a0.dC (fun x=>aF.contains x)=true)
  (hD:fO P lb (lA (DH P l3 t6 (cl.map fun s=>.ptr (kB aF s) 0) rs R .eV)) (DH P l3 t6 (cl.map fun s=>.ptr (kB aF s) 0) rs R) ⟨Pw,BL⟩):
  cN P f bU B (fun r B'=>∃y b',r=.pv y/\B'=[(.par 0,b')]/\R y b'):=by
 refine⟨⟨fn,_,hf,M9,MS⟩,fun w m ρ vs Kb mQ P9 lF=>?_⟩;refine(callsIn_wide (n:=1)).1 (callsIn_of_wp_marks (F:=FF none) hf MS trivial ?_ rfl);have hS:Sat fn.ntmps w ⟨m,ρ,[],mQ.2.1,true⟩ (cI ρ w B) ⟨eW 0 bU,B⟩ ρ m { tmps:=vs++Array.replicate (fn.ntmps-vs.size) undef,defers:=[]} w:=by
  refine⟨⟨[],B7,yA,fun D hD=>by cases hD⟩,by simp;omega,fun t a k=>?_,Kb.bx,Kb.dZ,mQ.1,Kb.eM,fun s b i k r=>.inr (XD k r),cV.tH _ _,⟨Le.refl _,Kb.free mQ.2.2⟩,fun b o v k=>.inl k,fun i=>rfl⟩;obtain⟨_,k1⟩:=Hl bU 0 t a k;rw[Nat.sub_zero]at k1;have aI:t<vs.size:=by rw[P9];exact(bZ.1 k1).1
  exact⟨vs[t],by rw[Array.getElem?_append,if_pos aI,uT aI],lF t _ a (uT aI) k1⟩
 refine wpIn_seq (wpIn_mono (XJ (ro:=none) (fun l e=>by cases e) hm a1 l1 _ (fun _=>C9) h1 hA hS) fun e yP w1 hq=>?_);cases e with
 |exit id=>obtain⟨τ,oW,m1,q,_⟩:=hq;exact absurd q.1 (by simp)
 |ret=>obtain⟨τ,oW,m1,q,_⟩:=hq;exact absurd q.1 (by simp)
 |goto l=>exact hq.elim
 |panic ch=>exact hq.elim
 |outgrown=>exact hq.elim
 |normal=>
 obtain⟨XV,oW,m1,q1,wJ⟩:=hq;refine wpIn_seq (wpIn_mono (XJ (ro:=none) (fun l e=>by cases e) hm a2 l2 _ (fun _=>C8) h2 q1 wJ) fun e act2 w2 hq=>?_);cases e with
 |exit id=>obtain⟨τ,oW,m1,q,_⟩:=hq;exact absurd q.1 (by simp)
 |ret=>obtain⟨τ,oW,m1,q,_⟩:=hq;exact absurd q.1 (by simp)
 |goto l=>exact hq.elim
 |panic ch=>exact hq.elim
 |outgrown=>exact hq.elim
 |normal=>
 obtain⟨S0,OL,m2,⟨_,q2⟩,mZ⟩:=hq;refine wpIn_seq (wpIn_region_list ?_);refine ZfF (ops:=#[o1,o2]) ho1 q2 mZ fun qP w3 hq=>?_
 obtain⟨S',ρ3',m3',hSS,Vh⟩:=hq;obtain⟨TP,m3,Q5⟩:=hSS _ _ _ _ _ _ _ _ Vh;have Rv:Region.wanted o2 (yielded #[o1,o2] qP.tmps)=true:=by simp[Region.wanted,G9]
 obtain⟨ds,e1,e2,_⟩:=Q5.sA;have e3:ds=[]:=e2.2 rfl;subst e3;have Up:qP.defers=[]:=by simpa using e1.nil
 obtain⟨vf,vc,hv,f1,f2,f3,f4⟩:∃vf vc:Array Value,qP.eval (.tmp t)=.func (.func g) vf vc/\vf.size=0/\vc.size=(cl.map fun s=>AV.ptr s 0).length/\(∀(j:Nat) (d:Value) (c:AV),vf[j]?=some d->([]:List AV)[j]?=some c->bN TP m3 d c)/\∀(j:Nat) (d:Value) (c:AV),vc[j]?=some d->(cl.map fun s=>AV.ptr s 0)[j]?=some c->bN TP m3 d c:=by
  have k:=Q5.aW (x:=.tmp t) (y:=.t t) rfl;have e:S.o (.t t)=.fn g [] (cl.map fun s=>.ptr s 0):=by show(S.t t).getD .any=_;rw[hSt];rfl
  rw[e]at k;exact Me k
 have hvf:vf=#[]:=Array.eq_empty_of_size_eq_zero f1;subst hvf;obtain⟨D,DE⟩:∃D:Deferred,D={ target:=.fn (.func g) vc,args:=#[]}:=⟨_,rfl⟩;have dF:(execOp qP.eval o2).run P w3=.ok (.defer D) w3:=by
  unfold execOp;simp only[ho2];simp[resolve,hdc,hda,hv,Deferred.ofValue,DE]
 unfold wpListIn;rw[if_pos Rv];unfold Oper.wpIn;refine⟨fun _ _=>trivial,?_⟩;have Sg:Oper.semAt (FF none).round qP.eval o2=execOp qP.eval o2:=rfl;rw[Sg,dF,Oper.uponIn_defer,Up,wG];have Cy:Sat fn.ntmps w ⟨m,ρ,[D],mQ.2.1,true⟩ (cI ρ w B) S TP m3 { qP with defers:=[D]} w3:=⟨⟨[],⟨[],[],rfl,rfl⟩,yA,fun D hD=>by cases hD⟩,Q5.sz,Q5.tm,Q5.bx,Q5.dZ,Q5.mem,Q5.eM,Q5.fM,Q5.keep,Q5.base,Q5.qB,Q5.par⟩;obtain⟨oD,gA,hS5⟩:=Cy.ZxX pW sP hB y1;have Ro:oD (.par 0)=ρ (.par 0):=by
  have gU:(.par 0)∈aF:=by
   cases aF with
   |nil=>cases CH
   |cons a r=>simp at CH;subst CH;simp
  have hi:kB aF (.par 0)=.par 0:=by
   cases aF with
   |nil=>cases CH
   |cons a r=>simp at CH;subst CH;simp[kB,s6]
  have:=gA (.par 0) (by simpa using gU)
  rw[hi]at this;rw[this];exact Q5.par 0
 show b.wpIn (FF none) 1 P _ { qP with defers:=[D]} w3;refine wpIn_mono (ZgV (ro:=none) (fun l e=>by cases e) hm b lb _ (fun _=>hrb) (fun _=>hdb) hb hD hS5) (fun e wU w5 hq=>?_);have key:∀(u u':FrameMode) (rv:Value) (x:PV) (Ow:AS) (TO:Site->Loc) (m5:Mem),((u=.returning/\rv=.nilIface/\u'=.returning)\/∃v,u=.panicking [{ v,recovered:=false }]/\rv=v/\u'=.panicking [{ v,recovered:=true }])->
   DH P l3 t6 (cl.map fun s=>.ptr (kB aF s) 0) rs R x Ow->Sat fn.ntmps w ⟨m,oD,[D],mQ.2.1,true⟩ (cI ρ w B) Ow TO m5 wU w5->dG m5 rv x->
   LeavesInM (FF none) 1 P fn wU.tmps (lD w m ρ B (fun r B'=>∃y b',r=.pv y/\B'=[(.par 0,b')]/\R y b')) wU.defers u w5:=by
  intro u u' rv x Ow TO m5 hu ⟨qA,τ,kJ,lP,HU,hAw⟩ RB hrv;obtain⟨Ih,m6,E6⟩:=kJ _ _ _ _ _ _ _ _ RB;obtain⟨ds,e1,e2,_⟩:=E6.sA;have e3:ds=[]:=e2.2 rfl;subst e3;have N8:wU.defers=[D]:=by
   obtain⟨d1,d2,k1,k2⟩:=e1
   have:=List.append_eq_nil_iff.1 k1.symm
   rw[this.1,this.2]at k2;exact k2
  rw[N8];have jN:settle u'=.returning:=by rcases hu with⟨_,_,rfl⟩|⟨v,_,_,rfl⟩<;>rfl
  have Ai:u≠.run:=by rcases hu with⟨rfl,_,_⟩|⟨v,rfl,_,_⟩<;>simp
  have Ui : ¬ gn.name = "runtime.NumGoroutine" := by simpa using QP
  refine⟨Ai,.inr ⟨fun _=>fE 1,.func g,vc,g,vc,by rw[DE],?_,fun _ _=>trivial,?_⟩⟩
  .rw[DE];simp[invoke,callFunc,hg,Ui,Q4]
  refine(Dv (R:=fun w'=>LeavesInM (FF none) 1 P fn wU.tmps (lD w m ρ B (fun r B'=>∃y b',r=.pv y/\B'=[(.par 0,b')]/\R y b')) [] .returning w') (ρ:=Ih) (m:=m6) (B:=τ.bx) (bU:=cl.map fun s=>.ptr (kB aF s) 0) (ra:=.pv x) hm hg Q4 nG hg3 U5 Ac hgr MK Z6 hu ⟨E6.bx,E6.dZ,E6.eM⟩ ⟨E6.mem,E6.uB⟩ HU (by rw[f2];simp) (by simpa using nY) (fun j v c k1 k2=>?_) (.pv _ _ (hrv.flat qA)) hAw ?_).mono ?_
  .rw[bR]at k2;obtain⟨s,k3,rfl⟩:=eA.1 k2;have k4:=f4 j v (.ptr s 0) k1 (by rw[bR,k3];rfl);obtain⟨c1,c2⟩:=gS s (dL k3);have e6:Ih (kB aF s)=TP s:=(Zk0 (ρ:=oD) (fun i=>E6.par i) c2).trans (gA s c1);rw[k4.DX,<-e6];exact .ptr _ _
  .intro γ bW m' bH w' ⟨TQ,PM,Sv,y,b',eO,nO,Cm,hRy⟩ Vf;obtain⟨Ig,m7,zP⟩:=PM _ _ _ _ _ _ _ _ Vf;have LW:∀k,k∈cI Ih w5 τ.bx->w.heap.size<=k\/k∈cI ρ w B:=fun k hk=>by
    obtain⟨p,hp,e⟩:=SW.1 hk;exact E6.fM p.1 p.2 k (ZkT HU hp) e
   have fG:=E6.keep.size;have old:∀k,w5.heap.size<=k\/k∈cI Ih w5 τ.bx->w.heap.size<=k\/k∈cI ρ w B:=fun k hk=>by
    rcases hk with hk|hk
    .exact .inl (lJ fG hk)
    .exact LW k hk
   have Z7:cV (cI ρ w B) w w':=⟨zP.keep.os.trans E6.keep.os,zP.keep.tape.trans E6.keep.tape,zP.keep.output.trans E6.keep.output,lJ fG zP.keep.size,fun k hk hn=>(zP.keep.block k (Nat.lt_of_lt_of_le hk fG) fun hD=>by
    rcases LW k hD with h'|h'
    .omega
    .exact hn h').trans (E6.keep.block k hk hn)⟩
   have Bs:∀b o v,m7 b o=some v->m b o=some v\/w.heap.size<=b\/b∈cI ρ w B:=fun b o v hv=>by
    rcases zP.qB b o v hv with h'|h'
    .exact E6.qB b o v h'
    .exact .inr (old b h')
   have MU:Ff m m7 (cI ρ w B):=E6.base.trans zP.base.1;have hSF:Sat fn.ntmps w ⟨m,oD,[],mQ.2.1,true⟩ (cI ρ w B) ⟨τ.tm,TQ.bx⟩ Ig m7 { wU with defers:=[]} w':=by
    refine⟨⟨[],B7,yA,fun D hD=>by cases hD⟩,E6.sz,fun t a k=>?_,zP.bx,zP.dZ,zP.mem,zP.eM,fun s b k h1 h2=>old k (zP.fM s b k h1 h2),Z7,MU,Bs,fun i=>(zP.par i).trans (E6.par i)⟩;obtain⟨v,k1,k2⟩:=E6.tm t a k
    have:=(k2.more zP.base.1).map (g:=_root_.id) (bW:=Ig) (fun s hs=>Zk0 (fun i=>zP.par i) hs) (lP.1 t a k)
    rw[Fp]at this;exact⟨v,k1,this⟩
   obtain⟨YC,r1,r2,r3⟩:=Mz fn.results.toList rs [.pv y] tT eO hSF;obtain⟨v,rfl⟩:∃v,YC=[v]:=by
    match YC,r2 with
    |[v],_=>exact⟨v,rfl⟩
   have CF:=r3 0 v _ rfl rfl;have Vw:ρ (.par 0)=Ig (.par 0):=((zP.par 0).trans ((E6.par 0).trans Ro)).symm;refine⟨v,?_,v,.pv y,[(.par 0,b')],ρ,m7,rfl,⟨y,b',rfl,rfl,hRy⟩,⟨fun s c hs=>?_,fun s s' c c' _ hs Z5 _ _=>?_,fun s c k hs hk=>?_⟩,MU.1,zP.mem,fun i=>rfl,fun s c k hs hk=>?_,Bs,?_,Z7⟩
   .show(do let vs <-fn.results.mapM (vG wU.tmps);pure (if h:vs.size=1 then vs[0]else .tuple vs):Sem Value).run P w'=_;rw[Sem.run_bind,Array.mapM_eq_mapM_toList,Sem.run_map,r1];rfl
   .obtain⟨rfl,rfl⟩:=zI hs
    have:=(zP.bx _ _ nO).iW (bW:=ρ) (q:=fun s=>decide (s=.par 0)) (g:=_root_.id) (fun s hs=>by
     have e:s=.par 0:=by simpa using hs
     rw[e];exact Vw) (by simp) Cm
    rw[aL.Xe]at this;exact this
   .rw[(zI hs).1,(zI Z5).1]
   .obtain⟨rfl,rfl⟩:=zI hs;exact zP.eM _ _ k nO ((R6 Vw).1 hk)
   .obtain⟨rfl,rfl⟩:=zI hs;exact old k (zP.fM _ _ k nO ((R6 Vw).1 hk))
   .exact .pv _ _ (bN.nJ (ρ:=Ig) CF)
  .rintro e u1 w' ⟨⟨v,rfl⟩,rfl,hL⟩;show LeavesInM (FF none) 1 P fn wU.tmps _ [] (settle u1) w';rw[jN];exact hL
 have ok:F9 fn.ntmps w ⟨m,oD,[D],mQ.2.1,true⟩ (cI ρ w B) (DH P l3 t6 (cl.map fun s=>.ptr (kB aF s) 0) rs R .eV) wU w5->LeavesInM (FF none) 1 P fn wU.tmps (lD w m ρ B (fun r B'=>∃y b',r=.pv y/\B'=[(.par 0,b')]/\R y b')) wU.defers .returning w5:=fun⟨τ,TO,m5,h1,h2⟩=>key .returning .returning .nilIface .eV τ TO m5 (.inl ⟨rfl,rfl,rfl⟩) h1 h2 .eV
 cases e with
 |normal=>exact ok hq
 |ret=>exact ok hq
 |exit id=>obtain⟨τ,oW,m1,q,_⟩:=hq;exact q.elim
 |goto l=>exact hq.elim
 |outgrown=>exact hq.elim
 |panic ch=>
  obtain⟨v,x,τ,TO,m5,bH,rfl,_,Vb,h1,h2,h3⟩:=hq;obtain rfl:=Vb rfl;exact key _ _ v x τ TO m5 (.inr ⟨v,rfl,rfl,rfl⟩) h1 h2 h3.nJ
end
section
attribute [local simp] AS.exp jV aL.iW AV.map AV.iR rB dO Site.uI aL.dC AV.dC AV.hZ aT cK AS.lY eY gH bX oV kB mT gK s6
attribute [local simp] aL.bI Site.fP
def aO (a b c d e:PV):aL:=.cells [.pv a,.pv b,.pv c,.pv d,.pv e]
def nxS (a b c d e:PV)(x:ByteArray):AS:=⟨[(10,.fn 73 [] [.ptr (.loc 5 0) 0,.ptr (.loc 2 0) 0,.ptr (.loc 4 0) 0]),(5,.ptr (.loc 5 0) 0),(4,.ptr (.loc 4 0) 0),(2,.ptr (.loc 2 0) 0),(1,.pv (.str x))],
 [(.loc 5 0,aO a b c d e),(.loc 4 0,.cells [.pv (.i 0)]),(.loc 2 0,.cells [.ptr (.par 0) 0]),(.par 0,aO a b c d e)]⟩
def nxE (R:PV->aL->Prop):PV->AS->Prop:=DH prog (V0 L73.code) 6 [.ptr (.par 1) 0,.ptr (.par 2) 0,.ptr (.par 3) 0] [.cell 4 false 1] R
theorem ZkI (a b c d e:PV)(x:ByteArray)(R:PV->aL->Prop)
  (hD:fO prog (V0 (V0 (V0 L37.code))) (lA (nxE R .eV)) (nxE R) ⟨[(1,.pv (.str x)),(2,.ptr (.par 2) 0),(4,.ptr (.par 3) 0)],[(.par 0,aO a b c d e),(.par 1,aO a b c d e),(.par 2,.cells [.ptr (.par 0) 0]),(.par 3,.cells [.pv (.i 0)])]⟩):
  cN prog 37 [.ptr (.par 0) 0,.pv (.str x)] [(.par 0,aO a b c d e)] (fun r B'=>∃y b',r=.pv y/\B'=[(.par 0,b')]/\R y b'):=by
 refine ZoC (g:=73) (t:=10) (t6:=6) (cl:=[.loc 5 0,.loc 2 0,.loc 4 0]) (aF:=[.par 0,.loc 5 0,.loc 2 0,.loc 4 0]) (d:=99)
  (S:=nxS a b c d e x) (BL:=[(.par 0,aO a b c d e),(.par 1,aO a b c d e),(.par 2,.cells [.ptr (.par 0) 0]),(.par 3,.cells [.pv (.i 0)])])
  (l1:=Kg L37.code) (l2:=Kg (V0 L37.code)) (lb:=V0 (V0 (V0 L37.code))) (Re:=YN (Kg (V0 (V0 L37.code)))) (l3:=V0 L73.code)
  (Pw:=[(1,.pv (.str x)),(2,.ptr (.par 2) 0),(4,.ptr (.par 3) 0)]) (rs:=[.cell 4 false 1])
  mixed func37 (by kernel_rfl) rfl (by kernel_rfl) (by kernel_rfl) (by kernel_rfl) (by kernel_rfl) (by kernel_rfl) (by kernel_rfl) (by kernel_rfl) (by kernel_rfl) rfl rfl rfl rfl rfl (by kernel_rfl) (tG rfl)
  func73 (by kernel_rfl) rfl ?_ rfl rfl (tG rfl) rfl (by kernel_rfl) (by kernel_rfl) (tG rfl) ?_ ?_ (by simp) rfl ?_ ?_ rfl ?_ ?_
 .intro ev w;rfl
 .refine I8 ?_;simp[L37,Kg,V0,aO,hold];refine Lk ?_;simp[YN];exact Sub.mk (by simp) (by simp[aO])
 .rfl
 .rfl
 .intro s hs;simp at hs;rcases hs with rfl|rfl|rfl<;>exact⟨rfl,rfl⟩
 .intro t v h;by_cases e1:t=1
  .subst e1;cases h;exact⟨_,rfl,rfl,rfl⟩
  by_cases e2:t=2
  .subst e2;cases h;exact⟨_,rfl,rfl,rfl⟩
  by_cases e4:t=4
  .subst e4;cases h;exact⟨_,rfl,rfl,rfl⟩
  rw[jG e1,jG e2,jG e4]at h;cases h
 .exact hD
def OS (B:List (Site×aL)):AS:=⟨[(4,.ptr (.par 3) 0)],B⟩
def xY (w:aL)(a b c d x:PV)(e:Int):List (Site×aL):=[(.par 0,w),(.par 1,aO a b c d x),(.par 2,.cells [.ptr (.par 0) 0]),(.par 3,.cells [.pv (.i e)])]
theorem ZA {e:Int}{a b c d x:PV}{w:aL}(hw:w.dC Site.s7=true)(s:Site)(v:aL)(h:List.lookup s (xY w a b c d x e)=some v):s.s7=true/\v.dC Site.s7=true:=by
 unfold xY at h;by_cases e0:s=.par 0
 .subst e0;rw[mX]at h;cases h;exact⟨rfl,hw⟩
 rw[jG e0]at h;by_cases e1:s=.par 1
 .subst e1;rw[mX]at h;cases h;exact⟨rfl,rfl⟩
 rw[jG e1]at h;by_cases e2:s=.par 2
 .subst e2;rw[mX]at h;cases h;exact⟨rfl,rfl⟩
 rw[jG e2]at h;obtain⟨rfl,rfl⟩:=zI h;exact⟨rfl,rfl⟩
theorem YY {e:Int}{a b c d x:PV}{w:aL}(hw:w.dC Site.s7=true):Lw (OS (xY w a b c d x e)):=by
 refine⟨fun t v h=>?_,fun s v h=>ZA hw s v h⟩;have h':List.lookup t [(4,AV.ptr (.par 3) 0)]=some v:=h;by_cases e4:t=4
 .subst e4;cases h';rfl
 .rw[jG e4]at h';cases h'
theorem YZ {e:Int}{a b c d x:PV}{w:aL}(hw:w.dC Site.s7=true):Lw ⟨[],xY w a b c d x e⟩:=⟨fun t v h=>(by cases h),fun s v h=>ZA hw s v h⟩
theorem Zta {a b c d e a' b' c' d' e':PV}{x:ByteArray}(hl:cN prog 74 [.ptr (.par 0) 0,.pv (.str x)] [(.par 0,aO a b c d e)] (fun r B=>r=.pv (.bM [])/\B=[(.par 0,aO a' b' c' d' e')])):
  cN prog 37 [.ptr (.par 0) 0,.pv (.str x)] [(.par 0,aO a b c d e)] (fun r B=>r=.pv (.i 0)/\B=[(.par 0,aO a' b' c' d' e')]):=by
 refine(ZkI a b c d e x (fun y w=>y=.i 0/\w=aO a' b' c' d' e') ?_).mono (fun r B ⟨y,w,h1,h2,h3,h4⟩=>⟨by rw[h1,h3],by rw[h2,h4]⟩);refine GB ?_;simp[L37,V0];refine xM 13 [.par 0] rfl rfl rfl rfl rfl rfl hl ?_;rintro r B ⟨rfl,rfl⟩;simp[aO];refine⟨rfl,OS (xY (aO a' b' c' d' e') a b c d e 0),Sub.mk (by simp) (by simp[xY,aO]),YY rfl,by simp[OS,xY],I8 ?_⟩;simp[L73,V0,OS,xY,aO];refine⟨⟨[],xY (aO a' b' c' d' e') a b c d e 0⟩,Sub.mk (by simp) (by simp[xY,aO]),YZ rfl,?_⟩;simp[xY,aO]
theorem Ztb {a b c d e:PV}{x:ByteArray}{n:Int}(hl:v8 prog 74 [.ptr (.par 0) 0,.pv (.str x)] [(.par 0,aO a b c d e)] (fun y B=>y=yL n/\∃a' b' c' d' e',B=[(.par 0,aO a' b' c' d' e')])):
  cN prog 37 [.ptr (.par 0) 0,.pv (.str x)] [(.par 0,aO a b c d e)] (fun r B=>r=.pv (.i n)/\B=[(.par 0,aO a b c d e)]):=by
 refine(ZkI a b c d e x (fun y w=>y=.i n/\w=aO a b c d e) ?_).mono (fun r B ⟨y,w,h1,h2,h3,h4⟩=>⟨by rw[h1,h3],by rw[h2,h4]⟩);show fO _ (.seq (.region [_,_,_]) _) _ _ _;refine wZ [_,_] ?_;simp;refine⟨rfl,.inl ⟨_,_,rfl,?_⟩⟩;refine ZpN 13 [.par 0] rfl rfl rfl rfl rfl rfl hl ?_;rintro y B ⟨rfl,a',b',c',d',e',rfl⟩;simp[aO];refine⟨rfl,OS (xY (aO a' b' c' d' e') a b c d e 0),Sub.mk (by simp) (by simp[xY,aO]),YY rfl,by simp[OS,xY],I8 ?_⟩;simp[L73,V0,OS,xY,aO,yL];refine FV ⟨[(15,.pv (.i n)),(2,.ptr (.par 3) 0)],xY (aO a b c d e) a b c d e 0⟩ ?_ ?_
 .simp[gN,gW];exact Sub.mk (by simp) (by simp[xY,aO])
 .simp[gN,gW,xY,aO];refine⟨⟨[],xY (aO a b c d e) a b c d e n⟩,Sub.mk (by simp) (by simp[xY,aO]),YZ rfl,?_⟩;simp[xY,aO]
theorem A4 (a b:ByteArray):(a.toList==b.toList)=decide (a=b):=by
 rw[qQ,ByteArray.toList_eq,ByteArray.toList_eq];simp only[beq_iff_eq,decide_eq_true_eq];exact⟨fun h=>by
  obtain⟨a⟩:=a;obtain⟨b⟩:=b
  have:a=b:=yU.1 h
  rw[this],fun h=>by rw[h]⟩
def lM (s:ByteArray):Option Int:=match Lib.atoiAll s.data.toList with
 |.ok v=>if vX v=s/\(trimB s ⟨#[45]⟩).size<=9 then some v else none
 |_=>none
theorem ZpV (s:ByteArray)(hs:s.size<=1000000)(v:Int)(h:lM s=some v):aD prog 119 [.str s] (.i v):=by
 refine cS L119 ?_;have ha:=ZrU s hs;unfold lM at h;unfold i6 at ha;cases r7:Lib.atoiAll s.data.toList with
 |ok u=>
  rw[r7]at h ha;dsimp only at h ha;split at h
  .rename_i hc;cases h;have hb:=Lib.atoiAll_bounds r7;have hi:=Yg v ⟨by omega,by omega⟩;have ht:=Zrs s ⟨#[45]⟩;have hle:((trimB s ⟨#[45]⟩).size:Int)<=9:=by omega
   have Ba:=hc.2;simp[L119];refine cG [.str s] ha ?_;simp;refine cG [.i v] hi ?_;rw[hc.1];simp;refine cG [.str s,.str ⟨#[45]⟩] ht ?_;simp[hle];refine cG [.bool true,.i 4] (gQ 4) ?_;simp
  .cases h
 |_=>rw[r7]at h;cases h
theorem ZpX (s:ByteArray)(hs:s.size<=1000000)(h:lM s=none):v8 prog 119 [.pv (.str s)] [] (fun x B=>x=yL 4/\B=[]):=by
 refine(ZcH (R:=fun _ _=>False) mixed L119_ok (tG rfl) ?_).B3 (fun _ _ h=>h);have ha:=ZrU s hs;unfold lM at h;unfold i6 at ha;generalize hQ:J9 (fun x B=>x=yL 4/\B=[])=Qp;have oN:∀τ:AS,Qp (yL 4) τ:=fun τ=>by rw[<-hQ];exact⟨[],rfl,(fun s hs=>by cases hs),rfl,rfl⟩
 show fO _ (.seq _ (.seq _ (.seq (.region [_,_,_,_,_,_,_,_,_,_,_,_,_,_,_]) _))) _ _ _;refine mH ?_;simp[hold];refine mH ?_;simp[hold];refine gG (k:=0) (fs:=[]) (xs:=[.str s]) (cs:=[]) rfl rfl ha (by split<;>rfl) ?_;cases r7:Lib.atoiAll s.data.toList with
 |ok u=>
  rw[r7]at h;dsimp only at h;have hb:=Lib.atoiAll_bounds r7;have hi:=Yg u ⟨by omega,by omega⟩;have ht:=Zrs s ⟨#[45]⟩;simp;refine wZ [_,_,_,_,_,_,_,_,_,_,_,_,_,_] ?_;simp;refine cG [.i u] hi ?_;by_cases h1:vX u=s
  .have h2:¬(trimB s ⟨#[45]⟩).size<=9:=fun h2=>by rw[if_pos ⟨h1,h2⟩]at h;cases h
   rw[h1];simp;refine cG [.str s,.str ⟨#[45]⟩] ht ?_;have h3:¬((trimB s ⟨#[45]⟩).size:Int)<=9:=by omega
   simp[h3,hold];exact TG (d:=99) [] (xs:=[.bool false,.i 4]) (cs:=[]) rfl rfl (zV 4) rfl (fun x hx=>by rw[hx.1];exact oN _) (fun x B hx=>hx.2)
  .simp[A4,h1,hold];exact TG (d:=99) [] (xs:=[.bool false,.i 4]) (cs:=[]) rfl rfl (zV 4) rfl (fun x hx=>by rw[hx.1];exact oN _) (fun x B hx=>hx.2)
 |_=>
  simp[hold];refine wZ [_,_,_,_,_,_,_,_,_,_,_,_,_,_] ?_;simp;exact TG (d:=99) [] (xs:=[.bool false,.i 4]) (cs:=[]) rfl rfl (zV 4) rfl (fun x hx=>by rw[hx.1];exact oN _) (fun x B hx=>hx.2)
section
attribute [local simp] oH bB AS.cH AV.cH AV.bB aL.cH AS.tidy AS.i7
def FG (e:TypeId)(n:Nat)(l:List PV)(r:AV)(B:List (Site×aL)):Prop:=(l=[]/\r=.pv (.emp (some true))/\B=[])\/(r=.vec (.ret 0) n 0 l.length/\B=[(.ret 0,.arr e n l)])
def UI (e n b:Nat):aZ:=⟨8,(.seq (.region [⟨(some 2),none,(.dV (.c (.emp (some true)))),true⟩]) (.seq (.seq (.region [⟨(some 3),none,(.dV (.t 0)),true⟩,⟨(some 4),none,(.yB .sl false (.t 3)),true⟩]) (.cond (.t 4) (.seq (.region [⟨(some 2),none,(.dV (.c (.emp (some true)))),true⟩]) .ret) .skip)) (.seq (.region [⟨(some 5),none,(.aQ e n []),true⟩,⟨(some 6),none,(.dV (.t 0)),true⟩,⟨(some 7),none,(.iJ e n b (.t 5) (.t 6)),true⟩,⟨(some 2),none,(.dV (.t 7)),true⟩]) .ret))),[(.tm 2)]⟩
theorem Gd {f:FuncId}{e n:Nat}(b:Nat)(l:List PV)(hl:l.length<=1000000)(hL:fV prog f=some (UI e n b):=by kernel_rfl)(hb:b<=1000:=by decide):cN prog f [.pv (.aE false n l)] [] (FG e n l):=by
 refine ZaQ mixed hL (tG rfl) ?_;cases l with
 |nil=>
  simp[UI,dH,x3,aP,bY,B4,hb];exact⟨⟨[],by simp[FG]⟩,⟨[.loc 7 0],by simp[FG]⟩⟩
 |cons a l=>
  have h1:l.length+1<=1000000:=by simpa using hl
  have h2:l.length<=999999:=by omega
  simp[UI,dH,aP,h2,hb];exact⟨[.loc 7 0],by simp[FG]⟩
theorem Zge (l:List PV)(hl:l.length<=1000000):cN prog 40 [.pv (.aE false 1 l)] [] (FG 3 1 l):=Gd 8 l hl
theorem ZgU (l:List PV)(hl:l.length<=1000000):cN prog 39 [.pv (.aE false 7 l)] [] (FG 76 7 l):=Gd 56 l hl
theorem ZgT (l:List PV)(hl:l.length<=1000000):cN prog 41 [.pv (.aE false 4 l)] [] (FG 77 4 l):=Gd 32 l hl
theorem Zl8 (l:List PV)(hl:l.length<=1000000):cN prog 42 [.pv (.aE false 4 l)] [] (FG 78 4 l):=Gd 32 l hl
theorem Zl9 (l:List PV)(hl:l.length<=1000000):cN prog 258 [.pv (.aE false 3 l)] [] (FG 79 3 l):=Gd 40 l hl
end
end
section
section
variable {P:Program}{σ:AS}{K:AV->AS->Prop}
theorem R7 (fz:List Site){f:bD}{args:List bD}{d:Nat}{g:FuncId}{fs xs cs:List PV}{R:AV->List (Site×aL)->Prop}(h1:(aM fz σ).o f=.pv (.fn g fs cs))(h2:(aM fz σ).tN args=some xs)
  (hc:cN P g ((fs++xs++cs).map .pv) [] R) (hK:∀r B,R r B->oG r B/\K (r.map (iT d)) (((aM fz σ).bI d).lY (nR d B))):yV P f args d K σ:=.inr ⟨fz,g,fs,xs,cs,h1,h2,hc.mono hK⟩
end
theorem EC {P:Program}{t r:LT}{K:AS->Prop}{σ:AS}(J:AS->Prop)(h1:gO P t (fun zA=>∃τ,Sub τ zA/\J τ) σ)(h2:∀τ,J τ->gO P r K τ):gO P (.seq t r) K σ:=⟨J,h1,h2⟩
attribute [local simp] AS.exp jV aL.iW AV.map AV.iR rB dO Site.uI aL.dC AV.dC AV.hZ aT cK AS.lY eY gH bX oV kB mT gK s6
attribute [local simp] aL.bI Site.fP
attribute [local simp] oH bB AS.cH AV.cH AV.bB aL.cH AS.tidy AS.i7 aM oG nR iT
theorem ZhY {l:List PV}{x:PV}:List.take (l.length+1) (l++[x])=l++[x]:=fH (by simp)
theorem Zl5 (l:List PV)(x:Int)(hl:l.length<=900000):aD prog 23 [.aE false 1 l,.i x] (.aE false 1 (l++[.i x])):=by
 have h1:l.length+1<=1000000:=by omega
 refine O1 [.loc 9 0] L23 ?_;intro R hR;simp[L23];refine xM 6 [] rfl rfl rfl rfl rfl rfl (Zge l (by omega)) ?_;rintro r B (⟨rfl,rfl,rfl⟩|⟨rfl,rfl⟩)
 .simp[<-hR,aP]
 .simp[<-hR,aP,h1,ZhY]
theorem Zj7:∀l:List PV,eB (l.map AV.pv)=some l
 |[]=>rfl
 |x::r=>by simp only[iQ,eB,Zj7 r]
def lWi (e n b:Nat)(fc:FuncId):aZ:=⟨10,(.seq (.region [⟨(some 3),none,(.box n (.t 1)),true⟩,⟨(some 4),none,(.dV (.c (.emp (some true)))),true⟩]) (.seq (.iZ (.op ⟨(some 5),none,(.dV (.t 0)),false⟩ (.op ⟨(some 7),none,(.load true n (.t 3)),false⟩ (.seq (.alt ⟨(some 6),none,(.call (.c (.fn fc [] [])) [(.t 5)]),false⟩ (.alt ⟨(some 8),none,(.aQ e n [(.t 7)]),true⟩ .done .no) (.alt ⟨(some 8),none,(.aQ e n [(.t 7)]),true⟩ (.alt ⟨(some 6),none,(.call (.c (.fn fc [] [])) [(.t 5)]),false⟩ .done .no) .no)) (.alt ⟨(some 9),none,(.app e n b (.t 6) (.t 8)),true⟩ (.op ⟨(some 4),none,(.dV (.t 9)),true⟩ .done) .no))))) .ret)),[(.tm 4)]⟩
theorem Zi {f fc:FuncId}{e n:Nat}(b:Nat){l cs:List PV}(hl:l.length<=900000)(gS:cN prog fc [.pv (.aE false n l)] [] (FG e n l))(hn:cs.length=n)(hL:fV prog f=some (lWi e n b fc):=by kernel_rfl)(hb:b<=1000:=by decide)(h0:0<n:=by decide):aD prog f [.aE false n l,.agg cs] (.aE false n (l++[.agg cs])):=by
 have h1:l.length+1<=1000000:=by omega
 have h2:l.length<=999999:=by omega
 have Aa:=Zj7 cs;have iH:(cs.map AV.pv).take n=cs.map AV.pv:=fH (by simp;omega);refine Oj [.loc 9 0] mixed hL (tG rfl) ?_;generalize hR:(fun(r:AV) (B:List (Site×aL))=>r=.pv (.aE false n (l++[.agg cs]))/\B=[])=R;simp[lWi,aP,hn,Aa,iH,w8];refine EC (fun τ=>(l=[]/\τ=⟨[(6,.pv (.emp (some true))),(8,.vec (.loc 8 0) n 0 1)],[(.loc 8 0,.arr e n [.agg cs])]⟩)\/τ=⟨[(6,.vec (.loc 6 0) n 0 l.length),(8,.vec (.loc 8 0) n 0 1)],[(.loc 6 0,.arr e n l),(.loc 8 0,.arr e n [.agg cs])]⟩) ?_ ?_
 .simp only[gN];refine⟨?_,?_⟩
  .simp;refine R7 [] (fs:=[]) (xs:=[.aE false n l]) (cs:=[]) rfl rfl gS ?_;rintro r B (⟨rfl,rfl,rfl⟩|⟨rfl,rfl⟩)
   .simp[gN,gW,hn];exact⟨_,Sub.mk (by simp) (by simp),.inl rfl⟩
   .simp[gN,gW,hn,Aa,iH,w8];exact⟨_,Sub.mk (by simp) (by simp),.inr rfl⟩
  .refine⟨?_,trivial⟩;simp[gN,gW,hn];refine R7 [] (fs:=[]) (xs:=[.aE false n l]) (cs:=[]) rfl rfl gS ?_;rintro r B (⟨rfl,rfl,rfl⟩|⟨rfl,rfl⟩)
   .simp;exact⟨_,Sub.mk (by simp) (by simp),.inl rfl⟩
   .simp;exact⟨_,Sub.mk (by simp) (by simp),.inr rfl⟩
 .rintro τ (⟨rfl,rfl⟩|rfl)
  .simp[gN,gW,<-hR,aP,hb,h0]
  .simp[gN,gW,<-hR,aP,h1,hb,ZhY,h0]
theorem ZoF (l:List PV)(a b c d e f g:Int)(hl:l.length<=900000):aD prog 202 [.aE false 7 l,.agg [.i a,.i b,.i c,.i d,.i e,.i f,.i g]] (.aE false 7 (l++[.agg [.i a,.i b,.i c,.i d,.i e,.i f,.i g]])):=Zi 56 hl (ZgU l (by omega)) rfl
theorem ZoD (l:List PV)(a b c d:Int)(hl:l.length<=900000):aD prog 211 [.aE false 4 l,.agg [.i a,.i b,.i c,.i d]] (.aE false 4 (l++[.agg [.i a,.i b,.i c,.i d]])):=Zi 32 hl (Zl8 l (by omega)) rfl
theorem ZoE (l:List PV)(a b:Int)(o:List PV)(x:PV)(hx:x=.aE false 1 o)(hl:l.length<=900000):aD prog 212 [.aE false 3 l,.agg [.i a,.i b,x]] (.aE false 3 (l++[.agg [.i a,.i b,x]])):=Zi 40 hl (Zl9 l (by omega)) rfl
end
section
attribute [local simp] AS.exp jV aL.iW AV.map AV.iR rB dO Site.uI aL.dC AV.dC AV.hZ aT cK AS.lY eY gH bX oV kB mT gK s6
attribute [local simp] aL.bI Site.fP
def jZ:ByteArray:=⟨#[99,101,114,116]⟩
def pD:ByteArray:=⟨#[98,97,100]⟩
def pC:ByteArray:=⟨#[108,111,116]⟩
def jX:ByteArray:=⟨#[116,101,115,116]⟩
def jY:ByteArray:=⟨#[112,97,115,115]⟩
def pB:ByteArray:=⟨#[114,117,110]⟩
def V4 (k:Int)(f:FuncId):PV:=.agg [.i k,.fn f [] []]
def nP:List (PV×PV):=[(.str jZ,V4 7 161),(.str pD,V4 1 162),(.str pC,V4 3 163),(.str jX,V4 4 164),(.str jY,V4 1 165),(.str pB,V4 3 166)]
theorem ZrY:cN prog 117 [] [] (fun r B=>r=.mp (.ret 0)/\B=[(.ret 0,.map nP)]):=by
 refine cB [.loc 1 0] L117 ?_;simp[L117,zZ,mN];rfl
def gY (s:ByteArray):Option (Nat×FuncId):=if s=jZ then some (7,161)else if s=pD then some (1,162)else if s=pC then some (3,163)else if s=jX then some (4,164)else if s=jY then some (1,165)else if s=pB then some (3,166)else none
theorem Zr3 (s:ByteArray):eX (.str s) nP=(gY s).map fun p=>V4 p.1 p.2:=by
 unfold gY;by_cases h0:s=jZ
 .have d0:decide (s=jZ)=true:=decide_eq_true h0;simp only[nP,eX,gV,lR,wL,PV.cells,A4,Bool.and_true,d0,if_pos h0];rfl
 have d0:decide (s=jZ)=false:=decide_eq_false h0;by_cases h1:s=pD
 .have d1:decide (s=pD)=true:=decide_eq_true h1;simp only[nP,eX,gV,lR,wL,PV.cells,A4,Bool.and_true,d0,d1,if_neg h0,if_pos h1];rfl
 have d1:decide (s=pD)=false:=decide_eq_false h1;by_cases h2:s=pC
 .have d2:decide (s=pC)=true:=decide_eq_true h2;simp only[nP,eX,gV,lR,wL,PV.cells,A4,Bool.and_true,d0,d1,d2,if_neg h0,if_neg h1,if_pos h2];rfl
 have d2:decide (s=pC)=false:=decide_eq_false h2;by_cases h3:s=jX
 .have d3:decide (s=jX)=true:=decide_eq_true h3;simp only[nP,eX,gV,lR,wL,PV.cells,A4,Bool.and_true,d0,d1,d2,d3,if_neg h0,if_neg h1,if_neg h2,if_pos h3];rfl
 have d3:decide (s=jX)=false:=decide_eq_false h3;by_cases h4:s=jY
 .have d4:decide (s=jY)=true:=decide_eq_true h4;simp only[nP,eX,gV,lR,wL,PV.cells,A4,Bool.and_true,d0,d1,d2,d3,d4,if_neg h0,if_neg h1,if_neg h2,if_neg h3,if_pos h4];rfl
 have d4:decide (s=jY)=false:=decide_eq_false h4;by_cases h5:s=pB
 .have d5:decide (s=pB)=true:=decide_eq_true h5;simp only[nP,eX,gV,lR,wL,PV.cells,A4,Bool.and_true,d0,d1,d2,d3,d4,d5,if_neg h0,if_neg h1,if_neg h2,if_neg h3,if_neg h4,if_pos h5];rfl
 have d5:decide (s=pB)=false:=decide_eq_false h5;simp only[nP,eX,gV,lR,wL,PV.cells,A4,Bool.and_true,d0,d1,d2,d3,d4,d5,if_neg h0,if_neg h1,if_neg h2,if_neg h3,if_neg h4,if_neg h5];rfl
section
attribute [local simp] aM oG nR iT
def blank:ByteArray:=⟨#[32]⟩
theorem Li (s:ByteArray):(xP s blank).length=Lib.countB s blank+1:=Lib.splitB_all blank (by decide) 0 _ s rfl
theorem Zrt (s:ByteArray):Lib.countB s blank<=s.size:=Lib.countB_le blank (by decide) _ s (fE _)
def mO:List ByteArray->Option (List Int)
 |[]=>some []
 |x::r=>match lM x with
  |some n=>(mO r).map (n::·)
  |none=>none
theorem Nq {x:ByteArray}{r:List ByteArray}:mO (x::r)=match lM x with
  |some n=>(mO r).map (n::·)
  |none=>none:=rfl
def P0 (s:ByteArray):Option (FuncId×List Int):=match xP s blank with
 |[]=>none
 |l0::r=>match gY l0 with
  |some (k,g)=>if r.length=k then(mO r).map fun n=>(g,n)else none
  |none=>none
def xX (Q:PV->PV->PV->PV->PV->Prop)(r:AV)(B:List (Site×aL)):Prop:=r=.pv (.bM [])/\∃a b c d e,B=[(.par 0,aO a b c d e)]/\Q a b c d e
def uQ (E:Int->Prop)(x:PV)(B:List (Site×aL)):Prop:=∃n,x=yL n/\E n/\∃a b c d e,B=[(.par 0,aO a b c d e)]
theorem Zej (sep:ByteArray):∀(k:Nat) (s x:ByteArray),x∈Lib.splitB sep 0 k s->x.size<=s.size
 |0,s,x,h=>by
  rw[Lib.splitB_zero]at h;cases rU.1 h;exact fE _
 |k+1,s,x,h=>by
  unfold Lib.splitB at h;split at h
  .cases rU.1 h;exact fE _
  .rcases jQ.1 h with rfl|h
   .rw[ByteArray.size_extract];omega
   .have:=Zej sep k _ x h
    rw[ByteArray.size_extract]at this;omega
theorem Zes {x:ByteArray}{v:Int}(hx:lM x=some v):∀{r:List ByteArray} {l:List Int},mO r=some l->mO (r++[x])=some (l++[v])
 |[],l,h=>by cases h;simp[mO,hx]
 |y::r,l,h=>by
  rw[Nq]at h;cases hy:lM y with
  |none=>rw[hy]at h;cases h
  |some n=>
   rw[hy]at h;obtain⟨l',h1,rfl⟩:=eA.1 h;rw[List.cons_append,Nq,hy];dsimp only;rw[Zes hx h1];rfl
theorem Zet {x:ByteArray}(hx:lM x=none):∀{r:List ByteArray},x∈r->mO r=none
 |y::r,h=>by
  rw[Nq];rcases jQ.1 h with rfl|h
  .rw[hx]
  .cases hy:lM y with
   |none=>rfl
   |some n=>dsimp only;rw[Zet hx h];rfl
def iP (n:Int):PV:=.i n
def UG (r:List ByteArray)(k:Int)(g:PV)(w:aL)(i:Nat)(l:List Int):AS:=⟨[(0,.ptr (.par 0) 0),(5,.ptr (.loc 5 0) 0),(7,.vec (.loc 41 0) 1 0 l.length),(31,.pv (.aE true 1 (r.map .str))),(32,.pv (.i r.length)),(33,.pv (.i i))],
 [(.loc 41 0,.arr 3 1 (l.map iP)),(.loc 5 0,.cells [.pv (.i k),.pv g]),(.par 0,w)]⟩
theorem Zj3 {s:ByteArray}{k:Nat}{g:FuncId}(h:gY s=some (k,g)):1<=k/\k<=7:=by
 unfold gY at h
 repeat' split at h
 all_goals first|(cases h;omega)|cases h
theorem ZuQ {a b c d e:PV}(s:ByteArray)(hs:s.size<=1000){Q:PV->PV->PV->PV->PV->Prop}{E:Int->Prop}(h4:P0 s=none->E 4)
  (QU:∀g nums,P0 s=some (g,nums)->cN prog g [.ptr (.par 0) 0,.pv (.aE false 1 (nums.map iP))] [(.par 0,aO a b c d e)] (xX Q)\/v8 prog g [.ptr (.par 0) 0,.pv (.aE false 1 (nums.map iP))] [(.par 0,aO a b c d e)] (uQ E)):
  sX prog 74 [.ptr (.par 0) 0,.pv (.str s)] [(.par 0,aO a b c d e)] (xX Q) (uQ E):=by
 have jM:=Zsn s blank (by omega) (by decide) (Li s) (by have:=Zrt s;omega);have hlen:=Li s;have QW:=Zrt s;refine cX L74 ?_;generalize hQ:J9 (uQ E)=Qp;have oN:∀(n:Int) (τ:AS) a b c d e,E n->τ.b (.par 0)=some (aO a b c d e)->Qp (yL n) τ:=fun n τ a b c d e h1 h2=>by
  rw[<-hQ];refine⟨[.par 0],rfl,fun s hs b hb=>?_,n,rfl,h1,a,b,c,d,e,?_⟩
  .cases rU.1 hs;rw[h2]at hb;cases hb;rfl
  .unfold AS.exp;rw[h2];rfl
 unfold P0 at h4 QU;cases hl:xP s blank with
 |nil=>rw[hl]at hlen;cases hlen
 |cons l0 r=>
 rw[hl]at jM h4 QU hlen;dsimp only at h4 QU;have p7:r.length<=1000:=by simp at hlen;omega
 show fO _ (.seq _ (.seq _ (.seq _ (.seq _ (.seq _ _))))) _ _ _;refine mH ?_;simp[hold];refine .inl (cQ [] [.str s,.str blank] jM ?_);simp;have hk:zZ ⟨false,[.str]⟩ nP=true:=rfl;have hw:=Zr3 l0;obtain⟨k,g,ok,U4,hwo⟩:∃(k:Int) (g:PV) (ok:Bool),((eX (.str l0) nP).getD (.agg [.i 0,.dP])=.agg [.i k,g]/\(eX (.str l0) nP).isSome=ok)/\((ok=false/\gY l0=none)\/∃(k':Nat) (g':FuncId),ok=true/\gY l0=some (k',g')/\k=k'/\g=.fn g' [] []):=by
  rw[hw];cases PI:gY l0 with
  |none=>exact⟨0,.dP,false,⟨rfl,rfl⟩,.inl ⟨rfl,rfl⟩⟩
  |some p=>exact⟨p.1,.fn p.2 [] [],true,⟨rfl,rfl⟩,.inr ⟨p.1,p.2,rfl,rfl,rfl,rfl⟩⟩
 refine mH ?_;simp[hold];refine FV ⟨[(19,.pv (.bool ok)),(5,.ptr (.loc 5 0) 0),(4,.pv (.aE true 1 ((l0::r).map .str))),(0,.ptr (.par 0) 0)],[(.loc 5 0,.cells [.pv (.i k),.pv g]),(.par 0,aO a b c d e)]⟩ ?_ ?_
 .simp[gN,gW];refine⟨?_,?_⟩
  .refine R7 [] (fs:=[]) (xs:=[]) (cs:=[]) rfl rfl ZrY ?_;rintro r' B ⟨rfl,rfl⟩;simp[gN,gW,hk,U4];exact Sub.mk (by simp) (by simp[aO])
  .refine R7 [] (fs:=[]) (xs:=[]) (cs:=[]) rfl rfl ZrY ?_;rintro r' B ⟨rfl,rfl⟩;simp[gN,gW,hk,U4];exact Sub.mk (by simp) (by simp[aO])
 simp[hold];rcases hwo with⟨rfl,Jj⟩|⟨k',g',rfl,BZ,rfl,rfl⟩
 .rw[Jj]at h4;have hE:=h4 rfl;refine wZ [_,_,_,_,_,_,_,_,_] ?_;simp[hold];exact TG (d:=99) [] (xs:=[.bool false,.i 4]) (cs:=[]) rfl rfl (zV 4) rfl (fun x hx=>by rw[hx.1];exact oN 4 _ a b c d e hE rfl) (fun x B hx=>hx.2)
 rw[BZ]at h4 QU;dsimp only at h4 QU;obtain⟨iB,VB⟩:=Zj3 BZ;have hkw:IntKind.i64.wrap ((k':Int)+1)=k'+1:=wrap64 ⟨by omega,by omega⟩;by_cases Sl:r.length=k'
 .rw[if_pos Sl]at h4;have HS:(r.length:Int)=k':=by omega
  refine mH ?_;simp[hold,hkw,HS];refine cG [.bool true,.i 4] (gQ 4) ?_;simp;rw[if_pos Sl]at QU;refine mH ?_;simp[hold];refine ZiW (mH ?_);simp[hold,aP];refine ZgW (ZoN (fun n τ=>∃i l,n=r.length-i/\i<=r.length/\mO (r.take i)=some l/\l.length=i/\τ=UG r k' (.fn g' [] []) (aO a b c d e) i l) ?_ ?_)
  .refine⟨_,UG r k' (.fn g' [] []) (aO a b c d e) 0 [],Sub.trans' (Sub.mk (by simp[AS.cT,HS]) (by simp[AS.cT,aO])) (cT 41 3 1 7 rfl (by decide)),0,[],rfl,by omega,rfl,rfl,rfl⟩
  rintro J hJ n τ ⟨i,l,rfl,hi,oX,qW,rfl⟩;by_cases aI:i<r.length
  .obtain⟨x,hx⟩:∃x,r[i]?=some x:=⟨r[i],aX aI⟩;have iH:r.take (i+1)=r.take i++[x]:=by rw[lX,hx];rfl
   have EP:x.size<=1000000:=by
    have h1:x∈xP s blank:=by rw[hl];exact List.mem_cons_of_mem _ (dL hx)
    have:=Zej blank _ s x h1
    omega
   cases iI:lM x with
   |some v=>
    have pV:IntKind.i64.wrap ((i:Int)+1)=(i:Int)+1:=wrap64 ⟨by omega,by omega⟩;have MK:l.length+1<=1000000:=by omega
    refine GB ?_;simp[-getElem?_pos,UG,aI,hx];refine cG [.str x] (ZpV x EP v iI) ?_;simp[aP,MK,pV];refine⟨r.length-(i+1),UG r k' (.fn g' [] []) (aO a b c d e) (i+1) (l++[v]),by omega,Sub.mk (by simp) (by simp[aO,iP]),hJ _ _ ⟨i+1,l++[v],rfl,by omega,by rw[iH];exact Zes iI oX,by simp[qW],rfl⟩⟩
   |none=>
    have hE:=h4 (by rw[Zet iI (dL hx)];rfl);refine mH ?_;simp[UG,aI,hold];refine mH ?_;simp[hold];refine ZiW (ZgW (mH ?_));simp[↓hx,hold];refine Gc [_,_] ?_;simp[hold];exact TG (d:=99) [] (xs:=[.str x]) (cs:=[]) rfl rfl (ZpX x EP iI) rfl (fun y hy=>by rw[hy.1];exact oN 4 _ a b c d e hE rfl) (fun x B hx=>hx.2)
  .have e:i=r.length:=by omega
   subst e;rw[nC]at oX;have hg:=QU g' l (by rw[oX];rfl);refine GB ?_;simp[UG];rcases hg with hg|hg
   .refine GB ?_;simp;refine Zl4 47 [.loc 41 0] [.par 0] rfl rfl rfl rfl (by simp[AS.cH,AV.cH,AV.bB,aL.cH]) (by simp[AS.cH,AV.cH,AV.bB,aL.cH];try exact fH (by simp)) hg ?_;rintro r' B ⟨rfl,a',b',c',d',e',rfl,hq⟩;simp[aO];exact Zq (outs:=[.par 0]) ⟨[],rfl,rfl,rfl,⟨⟨_,rfl,rfl⟩,trivial⟩,rfl,a',b',c',d',e',rfl,hq⟩
   .refine Gc [_,_,_,_] ?_;simp[hold];refine⟨rfl,.inl ⟨_,_,rfl,?_⟩⟩;refine Znw 47 [.loc 41 0] [.par 0] rfl rfl rfl rfl (by simp[AS.cH,AV.cH,AV.bB,aL.cH]) (by simp[AS.cH,AV.cH,AV.bB,aL.cH];try exact fH (by simp)) hg ?_;rintro y B ⟨n,rfl,hn,a',b',c',d',e',rfl⟩;refine⟨?_,oN n _ a' b' c' d' e' hn ?_⟩
    .simp[aO]
    .simp[aO]
 .rw[if_neg Sl]at h4;have hE:=h4 rfl;have HS:¬((r.length:Int)=k'):=by omega
  refine wZ [_,_,_,_,_,_,_,_,_] ?_;simp[hold,hkw,HS];exact TG (d:=99) [] (xs:=[.bool false,.i 4]) (cs:=[]) rfl rfl (zV 4) rfl (fun x hx=>by rw[hx.1];exact oN 4 _ a b c d e hE rfl) (fun x B hx=>hx.2)
end
def dJ (l:List Int)(x:Int):Nat:=(l.filter fun y=>decide (y<x)).length
structure Cut (l:List Int)(x:Int)(i j:Nat):Prop where
 ij:i<=j
 jl:j<=l.length
 lo:∀(k:Nat) (y:Int),k<i->l[k]?=some y->y<x
 hi:∀(k:Nat) (y:Int),j<=k->l[k]?=some y->x<=y
theorem Cut.is {l:List Int}{x:Int}{i:Nat}(h:Cut l x i i):dJ l x=i:=by
 unfold dJ;have e:l.filter (fun y=>decide (y<x))=l.take i:=by
  conv=>lhs;rw[<-List.take_append_drop i l]
  rw[H9];have h1:(l.take i).filter (fun y=>decide (y<x))=l.take i:=by
   rw[List.filter_eq_self];intro y hy;obtain⟨k,hk⟩:=iM.1 hy;rw[mG]at hk;split at hk
   .rename_i y7;simpa using h.lo k y y7 hk
   .cases hk
  have h2:(l.drop i).filter (fun y=>decide (y<x))=[]:=by
   rw[List.filter_eq_nil_iff];intro y hy;obtain⟨k,hk⟩:=iM.1 hy;rw[mW]at hk
   have:=h.hi (i+k) y (by omega) hk
   simp;omega
  rw[h1,h2,wW]
 rw[e,gI]
 have:=h.jl
 omega
theorem Cut.up {l:List Int}{x:Int}{i j k:Nat}{y:Int}(hs:l.Pairwise (·<·))(h:Cut l x i j)(hk:k<j)(hy:l[k]?=some y)(hx:y<x):Cut l x (k+1) j:=by
 refine⟨by omega,h.jl,fun m z hm hz=>?_,h.hi⟩;by_cases e:m=k
 .subst e;rw[hy]at hz;cases hz;exact hx
 .have xG:=(bZ.1 hy).1;have T8:=(bZ.1 hz).1
  have:=R0.1 hs m k T8 xG (by omega)
  rw[(bZ.1 hy).2,(bZ.1 hz).2]at this;omega
theorem Cut.dn {l:List Int}{x:Int}{i j k:Nat}{y:Int}(hs:l.Pairwise (·<·))(h:Cut l x i j)(hk:k<j)(qM:i<=k)(hy:l[k]?=some y)(hx:¬y<x):Cut l x i k:=by
 have xH:=h.jl;refine⟨qM,by omega,h.lo,fun m z hm hz=>?_⟩;by_cases e:m=k
 .subst e;rw[hy]at hz;cases hz;omega
 .have xG:=(bZ.1 hy).1;have T8:=(bZ.1 hz).1
  have:=R0.1 hs k m xG T8 (by omega)
  rw[(bZ.1 hy).2,(bZ.1 hz).2]at this;omega
theorem ZqK (x:Int):aD prog 218 [.i x] (.bool false):=by
 refine cS L218 ?_;simp[L218]
theorem Zpj (x:Int):aD prog 251 [.i x] (.bool false):=by
 refine cS L251 ?_;simp[L251]
theorem Zqa (a b:Int):aD prog 235 [.i a,.i b] (.bool (decide (a<b))):=by
 refine cS L235 ?_;simp[L235];refine cG [.i a] (ZqK a) ?_;simp
theorem LS (i j:Nat):∃m:Nat,m=(i+j) / 2/\((i:Int)+j).fdiv (2^min 1 IntKind.u64.bits)=(m:Int):=by
 refine⟨(i+j) / 2,rfl,?_⟩
 have:(2:Int)^min 1 IntKind.u64.bits=2:=by decide
 rw[this,Int.fdiv_eq_ediv_of_nonneg _ (by omega)];omega
def RY (l:List Int)(x:Int)(i j:Nat):AS:=⟨[(0,.pv (.aE false 1 (l.map iP))),(1,.pv (.i x)),(6,.pv (.i l.length)),(7,.pv (.i i)),(8,.pv (.i j))],[]⟩
theorem LR {i j:Nat}(h:j<=1000000)(hi:i<=j):IntKind.i64.wrap ((i:Int)+j)=(i:Int)+j:=wrap64 ⟨by omega,by omega⟩
theorem ZoG (l:List Int)(x:Int)(hs:l.Pairwise (·<·))(hl:l.length<=1000000):aD prog 206 [.aE false 1 (l.map iP),.i x] (.bM [.i (dJ l x),.bool (decide (x∈l))]):=by
 refine V1 L206 ?_;intro R hR;simp[L206];refine dY (fun n τ=>∃i j,n=j-i/\Cut l x i j/\τ=RY l x i j) ?_ ?_
 .refine⟨_,RY l x 0 l.length,Sub.mk (by simp) (by simp),0,l.length,rfl,⟨by omega,by omega,fun k y hk=>by omega,fun k y hk hy=>?_⟩,rfl⟩
  have:=(bZ.1 hy).1
  omega
 .rintro J hJ n τ ⟨i,j,rfl,hc,rfl⟩;have QO:=hc.ij;have xH:=hc.jl;by_cases h:i<j
  .have hw:=LR (i:=i) (j:=j) (by omega) QO;obtain⟨m,hm,hF⟩:=LS i j;have hU:IntKind.u64.wrap ((i:Int)+j)=(i:Int)+j:=by rw[IntKind.wrap_u64];omega
   have hW:IntKind.i64.wrap (m:Int)=m:=wrap64 ⟨by omega,by omega⟩;have Vd:IntKind.i64.wrap ((m:Int)+1)=(m:Int)+1:=wrap64 ⟨by omega,by omega⟩;obtain⟨y,hy⟩:∃y,l[m]?=some y:=⟨l[m],aX (by omega)⟩;simp[RY,h,hw,hU,hF,hW,↓hy,iP];refine cG [.i y,.i x] (Zqa y x) ?_;by_cases hx:y<x
   .simp[hx,Vd];refine⟨j-(m+1),RY l x (m+1) j,by omega,Sub.mk (by simp) (by simp),hJ _ _ ⟨m+1,j,rfl,hc.up hs (by omega) hy hx,rfl⟩⟩
   .simp[hx];refine⟨m-i,RY l x i m,by omega,Sub.mk (by simp) (by simp),hJ _ _ ⟨i,m,rfl,hc.dn hs (by omega) (by omega) hy hx,rfl⟩⟩
  .have e:j=i:=by omega
   subst e;have wF:=hc.is;by_cases hb:j<l.length
   .obtain⟨y,hy⟩:∃y,l[j]?=some y:=⟨l[j],aX hb⟩;simp[-getElem?_pos,RY,hb,hy,iP];by_cases hx:y=x
    .have gU:x∈l:=iM.2 ⟨j,by rw[hy,hx]⟩;simp[hx,<-hR,wF,gU]
    .have gU:x∉l:=fun hm=>by
      obtain⟨k,hk⟩:=iM.1 hm;rcases Nat.lt_trichotomy k j with q|q|q
      .have:=hc.lo k x q hk;omega
      .subst q;rw[hy]at hk;cases hk;exact hx rfl
      .have xG:=(bZ.1 hk).1
       have:=R0.1 hs j k hb xG q
       rw[(bZ.1 hy).2,(bZ.1 hk).2]at this;have h2:=hc.hi j y (fE _) hy;omega
     simp[-getElem?_pos,hx];refine cG [.i y] (Zpj y) ?_;simp[<-hR,wF,gU]
   .have gU:x∉l:=fun hm=>by
     obtain⟨k,hk⟩:=iM.1 hm;have xG:=(bZ.1 hk).1
     have:=hc.lo k x (by omega) hk
     omega
    simp[RY,hb,<-hR,wF,gU]
structure Lt where
 num:Int
 pieces:Int
 limit:Int
 passed:Bool
 deriving DecidableEq
def Lt.pv (x:Lt):PV:=.agg [.i x.num,.i x.pieces,.i x.limit,.bool x.passed]
theorem Zod (x:Lt)(n:Int)(h:IntKind.i64.wrap (x.num-n)=x.num-n):aD prog 255 [x.pv,.i n] (.i (x.num-n)):=by
 refine cS L255 ?_;simp[L255,Lt.pv,h]
def RZ (l:List Lt)(x:Int)(i j:Nat):AS:=⟨[(0,.pv (.aE false 4 (l.map Lt.pv))),(1,.pv (.i x)),(2,.pv (.fn 255 [] [])),(8,.pv (.i l.length)),(9,.pv (.i i)),(10,.pv (.i j))],[]⟩
theorem Zl6 (l:List Lt)(x:Int)(hs:(l.map Lt.num).Pairwise (·<·))(hl:l.length<=1000000)(hw:∀y∈l,IntKind.i64.wrap (y.num-x)=y.num-x):
  aD prog 254 [.aE false 4 (l.map Lt.pv),.i x,.fn 255 [] []] (.bM [.i (dJ (l.map Lt.num) x),.bool (decide (x∈l.map Lt.num))]):=by
 refine V1 L254 ?_;intro R hR;simp[L254];have hmap:∀(k:Nat) (y:Int),(l.map Lt.num)[k]?=some y->∃z,l[k]?=some z/\z.num=y:=fun k y h=>by
  rw[bR]at h;obtain⟨z,h1,h2⟩:=eA.1 h;exact⟨z,h1,h2⟩
 have wE:∀(k:Nat) (z:Lt),l[k]?=some z->(l.map Lt.num)[k]?=some z.num:=fun k z h=>by rw[bR,h];rfl
 have zL:(l.map Lt.num).length=l.length:=fQ _;refine dY (fun n τ=>∃i j,n=j-i/\Cut (l.map Lt.num) x i j/\τ=RZ l x i j) ?_ ?_
 .refine⟨_,RZ l x 0 l.length,Sub.mk (by simp) (by simp),0,l.length,rfl,⟨by omega,by omega,fun k y hk=>by omega,fun k y hk hy=>?_⟩,rfl⟩
  have:=(bZ.1 hy).1
  omega
 .rintro J hJ n τ ⟨i,j,rfl,hc,rfl⟩;have QO:=hc.ij;have xH:=hc.jl;rw[zL]at xH;by_cases h:i<j
  .have G4:=LR (i:=i) (j:=j) (by omega) QO;obtain⟨m,hm,hF⟩:=LS i j;have hU:IntKind.u64.wrap ((i:Int)+j)=(i:Int)+j:=by rw[IntKind.wrap_u64];omega
   have hW:IntKind.i64.wrap (m:Int)=m:=wrap64 ⟨by omega,by omega⟩;have Vd:IntKind.i64.wrap ((m:Int)+1)=(m:Int)+1:=wrap64 ⟨by omega,by omega⟩;obtain⟨y,hy⟩:∃y,l[m]?=some y:=⟨l[m],aX (by omega)⟩;have hf:=Zod y x (hw y (dL hy));unfold Lt.pv at hf;simp[RZ,h,G4,hU,hF,hW,↓hy,Lt.pv];refine cG [.agg [.i y.num,.i y.pieces,.i y.limit,.bool y.passed],.i x] hf ?_;by_cases hx:y.num<x
   .have rL:y.num-x<0:=by omega
    simp[rL,Vd];refine⟨j-(m+1),RZ l x (m+1) j,by omega,Sub.mk (by simp) (by simp),hJ _ _ ⟨m+1,j,rfl,hc.up hs (by omega) (wE m y hy) hx,rfl⟩⟩
   .have rL:¬y.num-x<0:=by omega
    simp[rL];refine⟨m-i,RZ l x i m,by omega,Sub.mk (by simp) (by simp),hJ _ _ ⟨i,m,rfl,hc.dn hs (by omega) (by omega) (wE m y hy) hx,rfl⟩⟩
  .have e:j=i:=by omega
   subst e;have wF:=hc.is;by_cases hb:j<l.length
   .obtain⟨y,hy⟩:∃y,l[j]?=some y:=⟨l[j],aX hb⟩;have hf:=Zod y x (hw y (dL hy));unfold Lt.pv at hf;simp[-getElem?_pos,RZ,hb,hy,Lt.pv];refine cG [.agg [.i y.num,.i y.pieces,.i y.limit,.bool y.passed],.i x] hf ?_;by_cases hx:y.num=x
    .have gU:x∈l.map Lt.num:=iM.2 ⟨j,by rw[wE j y hy,hx]⟩;have rL:y.num-x=0:=by omega
     simp[-List.mem_map,rL,<-hR,wF,gU]
    .have gU:x∉l.map Lt.num:=fun hm=>by
      obtain⟨k,hk⟩:=iM.1 hm;rcases Nat.lt_trichotomy k j with q|q|q
      .have:=hc.lo k x q hk;omega
      .subst q;rw[wE _ y hy]at hk;cases hk;exact hx rfl
      .have xG:=(bZ.1 hk).1;have Tx:=(bZ.1 (wE j y hy)).1
       have:=R0.1 hs j k Tx xG q
       rw[(bZ.1 (wE j y hy)).2,(bZ.1 hk).2]at this;have h2:=hc.hi j _ (fE _) (wE j y hy);omega
     have rL:¬y.num-x=0:=by omega
     simp[-List.mem_map,rL,<-hR,wF,gU]
   .have gU:x∉l.map Lt.num:=fun hm=>by
     obtain⟨k,hk⟩:=iM.1 hm;have xG:=(bZ.1 hk).1
     have:=hc.lo k x (by omega) hk
     omega
    simp[-List.mem_map,RZ,hb,<-hR,wF,gU]
end
end Go.Proofs.YthmbecacehfgfaaGreatDoor
namespace Go.Proofs
open Go.RowKit
open Tryz
section
open Go.Shelf
def Tryz.ZwV:Go.Shelf.Ren:=⟨fun|189=>144|125=>185|257=>184|128=>238|129=>239|294=>229|295=>230|296=>231|297=>232|298=>233|299=>234|216=>235|300=>236|301=>237|328=>272|329=>273|330=>274|331=>275|332=>276|215=>218|343=>293|n=>n,fun|28=>26|3=>3|46=>258|0=>0|51=>299|53=>290|4=>4|183=>328|182=>327|131=>157|5=>5|9=>9|218=>363|222=>367|228=>376|229=>169|n=>n,fun|n=>n⟩
theorem Tryz.Zxe:Go.Proofs.Lays.n189 prog ZwV:=by repeat' first|kernel_rfl|(intro _;kernel_rfl)|decide|constructor
open Go.Sort Go.RowKit in
theorem Tryz.slices_Sort_int (fL off cap:Nat)(zs:List Int)(w:World)(hH:Holds (Value.int .i64) w fL off zs.toArray)(IK:fL<w.heap.size)(fG:zs.length<4611686018427387904):
  Calls prog 144 #[.slice (some ⟨fL,off,none⟩) zs.length cap] w fun e w'=>
   e=.returned (.tuple #[])/\∃n os,w'=grow (putRow (Value.int .i64) (Sort.ahead w n) fL off (zs.mergeSort fun x y=>decide (x<=y)).toArray) os:=Any.slices_Sort_int Zxe fL off cap zs w hH IK fG
end
end Go.Proofs
namespace Go.Proofs.YthmbecacehfgfaaGreatDoor
open Go.RowKit
open Tryz
section
open Go.RowKit Go.Sort
attribute [local simp] aL.bI Site.fP
def aN (n:Int):PV:=.i n
def S7 (x:Int):List Int->List Int
 |[]=>[x]
 |y::r=>if x<=y then x::y::r else y::S7 x r
def kR:List Int->List Int
 |[]=>[]
 |x::r=>S7 x (kR r)
theorem ZfS (x:Int):∀l:List Int,(S7 x l).Perm (x::l)
 |[]=>.refl _
 |y::r=>by
  unfold S7;split
  .exact .refl _
  .exact((ZfS x r).cons y).trans (.swap x y r)
theorem Hc:∀l:List Int,(kR l).Perm l
 |[]=>.refl _
 |x::r=>(ZfS x _).trans ((Hc r).cons x)
theorem ZfR (x:Int):∀l:List Int,l.Pairwise (·<=·)->(S7 x l).Pairwise (·<=·)
 |[],_=>by simp[S7]
 |y::r,h=>by
  unfold S7;split
  .rename_i ZV;refine H8.2 ⟨fun z hz=>?_,h⟩;rcases jQ.1 hz with rfl|hz
   .exact ZV
   .exact Int.le_trans ZV ((H8.1 h).1 z hz)
  .rename_i ZV;refine H8.2 ⟨fun z hz=>?_,ZfR x r (H8.1 h).2⟩;rcases jQ.1 ((ZfS x r).mem_iff.1 hz)with rfl|hz
   .omega
   .exact(H8.1 h).1 z hz
theorem ZcL:∀l:List Int,(kR l).Pairwise (·<=·)
 |[]=>.nil
 |x::r=>ZfR x _ (ZcL r)
theorem Zh4:∀{a b:List Int},a.Perm b->a.Pairwise (·<=·)->b.Pairwise (·<=·)->a=b
 |[],b,h,_,_=>by simpa using h.symm
 |x::a,[],h,_,_=>by simp at h
 |x::a,y::b,h,ha,hb=>by
  have e:x=y:=by
   have h1:x∈y::b:=h.mem_iff.1 (by simp);have h2:y∈x::a:=h.mem_iff.2 (by simp);rcases jQ.1 h1 with rfl|h1
   .rfl
   rcases jQ.1 h2 with rfl|h2
   .rfl
   have k1:=(H8.1 ha).1 y h2;have k2:=(H8.1 hb).1 x h1;omega
  subst e;rw[Zh4 h.cons_inv (H8.1 ha).2 (H8.1 hb).2]
theorem Hp (l:List Int):(kR l).length=l.length:=(Hc l).length_eq
theorem Zjh (l:List Int):(l.mergeSort fun x y=>decide (x<=y))=kR l:=by
 refine Zh4 ((List.mergeSort_perm l _).trans (Hc l).symm) ?_ (ZcL l)
 have:=List.pairwise_mergeSort (le:=fun x y:Int=>decide (x<=y)) (fun a b c h1 h2=>by simp at *;omega) (fun a b=>by simp;omega) l
 exact this.imp (fun h=>by simpa using h)
theorem Zql {w:World}{g o:Nat}{cur:Array Value}{e:TypeId}{ss:List Int}(hb:w.heap[g]?=some (.cells cur e (0,0)))(ht:∀(i:Nat) (x:Int),ss[i]?=some x->cur[o+i]?=some (.i x)):Holds (Value.int .i64) w g o ss.toArray:=by
 intro j hj;have Z8:j<ss.length:=by simpa using hj
 refine⟨?_,by simp[World.frozen?,hb]⟩;have h1:=ht j _ (aX Z8);simp only[World.cell?,hb];simp only[Option.isSome_none,Bool.false_eq_true,if_false];rw[h1];simp[Z8]
theorem Zgh {w:World}{g n o:Nat}{os:Array Obj}{cur:Array Value}{e:TypeId}{fr:Nat×Nat}(d:Array Int)(hb:w.heap[g]?=some (.cells cur e fr)):
  (grow (putRow (Value.int .i64) (Sort.ahead w n) g o d) os).heap[g]?=some (.cells (putCells (Value.int .i64) o d cur) e fr):=by
 have hg:g<w.heap.size:=(qD.1 hb).1;rw[heap_grow_old _ _ (by simpa using hg)];simp[putRow,mapBlock,Sort.ahead,Array.getElem?_modify,hb,onCells]
theorem ZgI {w:World}{g n o k:Nat}{os:Array Obj}(d:Array Int)(hk:k<w.heap.size)(cZ:k≠g):
  (grow (putRow (Value.int .i64) (Sort.ahead w n) g o d) os).heap[k]?=w.heap[k]?:=by
 rw[heap_grow_old _ _ (by simpa using hk)]
 have:g≠k:=fun e=>cZ (by rw[e])
 simp[putRow,mapBlock,Sort.ahead,Array.getElem?_modify,this]
theorem Zuo (e:TypeId)(l:List Int)(h0:l≠[])(hl:l.length<=1000000):cN prog 144 [.vec (.par 0) 1 0 l.length] [(.par 0,.arr e 1 (l.map aN))] (fun r B=>r=.pv (.bM [])/\B=[(.par 0,.arr e 1 ((kR l).map aN))]):=by
 refine⟨⟨_,_,func144,by decide +kernel,rfl⟩,fun w m ρ vs hB ⟨hm,_⟩ fG lF=>?_⟩;obtain⟨v,rfl⟩:∃v,vs=#[v]:=by
  match vs,fG with
  |⟨[v]⟩,_=>exact⟨v,rfl⟩
 have hv:=lF 0 v _ rfl rfl;have tX:=hB.bx (.par 0) _ mX;obtain⟨_,⟨_,hx,_⟩|⟨hr,cs,k1,k2,k3,k4,k5⟩⟩:=tX
 .exact absurd (List.map_eq_nil_iff.1 hx) h0
 have hlen:0<l.length:=List.length_pos_iff.2 h0;have oP:∀(i:Nat) (x:Int),l[i]?=some x->cs[(ρ (.par 0)).o+i]?=some (.i x):=fun i x hi=>by
  obtain⟨_,h2⟩:=k5 i (aN x) (by rw[bR,hi];rfl);obtain⟨d,d1,d2,d3⟩:=h2 0 (aN x) rfl;rw[Nat.mul_one,Nat.add_zero]at d1;rw[d1];cases d3;rfl
 have aI:=(qD.1 k1).1;have main:∀cap,Calls prog 144 #[.slice (some ⟨(ρ (.par 0)).b,(ρ (.par 0)).o,none⟩) l.length cap] w (lD w m ρ [(.par 0,.arr e 1 (l.map aN))] (fun r B=>r=.pv (.bM [])/\B=[(.par 0,.arr e 1 ((kR l).map aN))])):=fun cap=>by
  have U4:cI ρ w [(Site.par 0,aL.arr e 1 (l.map aN))]=[(ρ (.par 0)).b]:=by simp[cI,hr,ins]
  refine(slices_Sort_int (ρ (.par 0)).b (ρ (.par 0)).o cap l w (Zql k1 oP) aI (by omega)).mono ?_;rintro en w' ⟨rfl,n,os,rfl⟩;rw[Zjh];have hmb:∀b o v,m b o=some v->b≠(ρ (.par 0)).b:=fun b o v hv e'=>by
   subst e'
   have:=hB.off (.par 0) _ mX hr o
   rw[this]at hv;cases hv
  refine⟨.tuple #[],.pv (.bM []),[(.par 0,.arr e 1 ((kR l).map aN))],ρ,m,rfl,⟨rfl,rfl⟩,⟨fun s b hs=>?_,fun s s' b b' _ hs Z5 _ _=>?_,fun s b i hs tT o=>?_⟩,Le.refl m,fun b o v hv=>?_,fun i=>rfl,fun s b i hs tT=>?_,fun b o v hv=>.inl hv,?_,⟨rfl,rfl,rfl,?_,fun k hk mC=>?_⟩⟩
  .by_cases es:s=.par 0
   .subst es;rw[mX]at hs;cases hs;refine⟨by omega,.inr ⟨hr,_,Zgh _ k1,by rw[show(putCells (Value.int .i64) (ρ (.par 0)).o (kR l).toArray cs).size=cs.size by simp[putCells]];exact k2,by rw[fQ,Hp,<-fQ (f:=aN)];exact k3,k4,fun i x hx=>?_⟩⟩;rw[bR]at hx;obtain⟨z,hz,rfl⟩:=eA.1 hx;refine⟨rfl,fun j c hj=>?_⟩;cases j with
    |succ j=>simp[aN,PV.cells]at hj
    |zero=>
     simp[aN,PV.cells]at hj;subst hj;have hi:i<l.length:=by have:=(bZ.1 hz).1;rw[Hp]at this;exact this
     have EZ:(ρ (.par 0)).o+i<cs.size:=(qD.1 (oP i _ (aX hi))).1;refine⟨.int .i64 z,?_,rfl,.int .i64 z⟩;rw[Nat.mul_one,Nat.add_zero];have Jf:(kR l)[i]! = z:=by rw[List.getElem!_eq_getElem?_getD,hz];rfl
     have N5:i<(kR l).length:=by rw[Hp];exact hi
     have P8:(kR l)[i]=z:=by rw[aX N5]at hz;simpa using hz
     simp[putCells,EZ,Hp,hi,P8]
   .rw[jG es]at hs;simp[List.lookup]at hs
  .have q:∀{s:Site} {b:aL},List.lookup s [(Site.par 0,aL.arr e 1 ((kR l).map aN))]=some b->s=.par 0:=fun{s b} h=>by
    by_cases es:s=.par 0
    .exact es
    .rw[jG es]at h;simp[List.lookup]at h
   rw[q hs,q Z5]
  .by_cases es:s=.par 0
   .subst es;rw[mX]at hs;cases hs;obtain⟨q1,rfl⟩:=EE rfl tT;exact hB.off (.par 0) _ mX q1 o
   .rw[jG es]at hs;simp[List.lookup]at hs
  .have h1:=hm b o v hv;have cZ:=hmb b o v hv;show World.cell? _ _=some v;have h2:w.cell? ⟨b,o,none⟩=some v:=h1;have hb:b<w.heap.size:=by
    unfold World.cell? at h2;simp only at h2;cases hh:w.heap[b]? with
    |none=>rw[hh]at h2;simp at h2
    |some ob=>exact(qD.1 hh).1
   rw[<-h2];unfold World.cell?;rw[ZgI _ hb cZ]
  .by_cases es:s=.par 0
   .subst es;rw[mX]at hs;cases hs;obtain⟨q1,rfl⟩:=EE rfl tT
    right;rw[U4];simp
   .rw[jG es]at hs;simp[List.lookup]at hs
  .exact .pv _ _ (.bM #[] [] rfl (fun j d c h=>by simp at h))
  .simp[putRow,mapBlock,Sort.ahead]
  .rw[U4]at mC;exact ZgI _ hk (by simpa using mC)
 generalize hn:l.length=N at hv main;cases hv with
 |vec _ _ _ _ cap g0 g1 g2=>
  have:=main cap
  simpa using this
 |nE _ _ _ a h=>omega
end
structure Cr where
 lo:Int
 hi:Int
 deriving DecidableEq
structure It where
 dR:Int
 gZ:Bool
 val:Cr
structure Ct where
 num:Int
 it:Int
 src:Int
 day:Int
 valid:Int
 diff:Cr
 deriving DecidableEq
structure Bk where
 items:List It
 aA:List Ct
def jC (n lo hi:Int):Bool:=decide (lo<=n)&&decide (n<=hi)
def A1 (n:Int):Bool:=jC n (-100000) 100000
def Cr.okB (r:Cr):Bool:=A1 r.lo&&A1 r.hi&&decide (r.lo<=r.hi)
def It.okB (x:It):Bool:=jC x.dR 0 100&&x.val.okB&&(x.gZ||decide (x.val=⟨0,0⟩))
def Bk.item (b:Bk)(i:Int):It:=(b.items[i.toNat]?).getD ⟨0,false,⟨0,0⟩⟩
def Bk.uJ (b:Bk)(i:Int):Bool:=jC i 0 ((b.items.length:Int)-1)
def Bk.uX (b:Bk)(c:Ct):Bool:=jC c.num 1 999&&b.uJ c.it&&!(b.item c.it).gZ&&b.uJ c.src&&decide (c.src≠c.it)&&jC c.day 0 1000&&jC c.valid 0 1000&&c.diff.okB
def Bk.xK (b:Bk):Bool:=decide (8<b.items.length)||decide (24<b.aA.length)
def Bk.bad (b:Bk):Bool:=!(b.items.all It.okB)||!(b.aA.all b.uX)
def Bk.zY (b:Bk):Bool:=b.aA.any fun x=>b.aA.any fun y=>(decide (x.num=y.num)&&decide (x≠y))||(decide (y.num<x.num)&&decide (x.day<y.day))
def Bk.fault (b:Bk):Int:=if b.xK=true then 3 else if b.bad=true then 1 else if b.zY=true then 6 else 0
structure Bk.ok (b:Bk):Prop where
 i:b.items.length<=8
 c:b.aA.length<=24
 it:∀x∈b.items,x.okB=true
 ct:∀x∈b.aA,b.uX x=true
 one:∀x∈b.aA,∀y∈b.aA,x.num=y.num->x=y
 day:∀x∈b.aA,∀y∈b.aA,y.num<x.num->y.day<=x.day
theorem Bk.V7 {b:Bk}:b.fault=0↔b.ok:=by
 unfold Bk.fault Bk.xK Bk.bad Bk.zY;constructor
 .intro h;split at h
  .cases h
  .rename_i h1;split at h
   .cases h
   .rename_i h2;split at h
    .cases h
    .rename_i h3;simp only[rR,decide_eq_true_eq,not_or,Nat.not_lt]at h1;simp only[Bool.not_eq_true,Bool.or_eq_false_iff,Bool.not_eq_false',qZ]at h2;simp only[Bool.not_eq_true,List.any_eq_false,rR,dK,decide_eq_true_eq,not_or,not_and,Decidable.not_not,Int.not_lt]at h3;exact⟨h1.1,h1.2,h2.1,h2.2,fun x hx y hy e=>(h3 x hx y hy).1 e,fun x hx y hy e=>(h3 x hx y hy).2 e⟩
 .intro h;rw[if_neg (by simp only[rR,decide_eq_true_eq,not_or,Nat.not_lt];exact⟨h.i,h.c⟩),if_neg (by
   simp only[Bool.not_eq_true,Bool.or_eq_false_iff,Bool.not_eq_false',qZ];exact⟨h.it,h.ct⟩),if_neg (by
   simp only[Bool.not_eq_true,List.any_eq_false,rR,dK,decide_eq_true_eq,not_or,not_and,Decidable.not_not,Int.not_lt];exact fun x hx y hy=>⟨h.one x hx y hy,h.day x hx y hy⟩)]
def Ct.on (c:Ct)(d:Int):Bool:=jC d c.day (c.day+c.valid)
def yY (c o:Ct):Bool:=decide (o.it=c.src)&&decide (o.num<c.num)&&o.on c.day
def Bk.R4 (b:Bk)(bad held:List Int)(c:Ct):Bool:=((b.item c.src).gZ||b.aA.any fun o=>yY c o&&held.contains o.num)&&!bad.contains c.num
def Bk.iS (b:Bk)(bad:List Int):Nat->List Int
 |0=>[]
 |k+1=>b.iS bad k++(if(b.aA.any fun c=>decide (c.num=(k:Int))&&b.R4 bad (b.iS bad k) c)=true then[(k:Int)]else[])
theorem Gy {b:Bk}{bad:List Int}{k:Nat}:b.iS bad (k+1)=b.iS bad k++(if(b.aA.any fun c=>decide (c.num=(k:Int))&&b.R4 bad (b.iS bad k) c)=true then[(k:Int)]else[]):=rfl
def Bk.held (b:Bk)(bad:List Int):List Int:=b.iS bad 1000
theorem XC {b:Bk}{bad:List Int}{x:Int}:∀k,x∈b.iS bad k↔∃n:Nat,x=n/\n<k/\(b.aA.any fun c=>decide (c.num=(n:Int))&&b.R4 bad (b.iS bad n) c)=true
 |0=>⟨fun h=>(by cases h),fun⟨n,_,h,_⟩=>(by omega)⟩
 |k+1=>by
  rw[Gy,sE,XC k];constructor
  .rintro(⟨n,e,h1,h2⟩|h)
   .exact⟨n,e,by omega,h2⟩
   .split at h
    .rename_i hc;simp at h;exact⟨k,h,by omega,hc⟩
    .cases h
  .rintro⟨n,e,h1,h2⟩;by_cases hn:n=k
   .subst hn;right;rw[if_pos h2,e];simp
   .exact .inl ⟨n,e,by omega,h2⟩
theorem Zn5 {b:Bk}{bad:List Int}{x:Int}{j k:Nat}(h:j<=k)(hx:x∈b.iS bad j):x∈b.iS bad k:=by
 obtain⟨n,rfl,h1,h2⟩:=(XC j).1 hx;exact(XC k).2 ⟨n,rfl,by omega,h2⟩
theorem ZgH {b:Bk}{bad:List Int}{c:Ct}{n k:Nat}(hc:c.num=(n:Int))(hk:n<=k):b.R4 bad (b.iS bad k) c=b.R4 bad (b.iS bad n) c:=by
 unfold Bk.R4;congr 2;rw[qQ,oT,oT];constructor
 .rintro⟨o,ho,h⟩;refine⟨o,ho,?_⟩;simp only[dK,jF]at h ⊢;refine⟨h.1,?_⟩;obtain⟨m,e,h1,h2⟩:=(XC k).1 h.2;have h3:o.num<c.num:=by have:=h.1;unfold yY at this;simp only[dK,decide_eq_true_eq]at this;exact this.1.2
  exact(XC n).2 ⟨m,e,by omega,h2⟩
 .rintro⟨o,ho,h⟩;refine⟨o,ho,?_⟩;simp only[dK,jF]at h ⊢;exact⟨h.1,Zn5 hk h.2⟩
theorem KI {b:Bk}(hb:b.ok){bad:List Int}{x:Int}:x∈b.held bad↔∃c∈b.aA,c.num=x/\b.R4 bad (b.held bad) c=true:=by
 unfold Bk.held;rw[XC];have hn:∀c∈b.aA,1<=c.num/\c.num<=999:=fun c hc=>by
  have:=hb.ct c hc
  unfold Bk.uX jC at this;simp only[dK,decide_eq_true_eq]at this;omega
 constructor
 .rintro⟨n,rfl,h1,h2⟩;rw[oT]at h2;obtain⟨c,hc,h3⟩:=h2;simp only[dK,decide_eq_true_eq]at h3;exact⟨c,hc,h3.1,by rw[ZgH h3.1 (by omega)];exact h3.2⟩
 .rintro⟨c,hc,rfl,h⟩;have h1:=hn c hc;obtain⟨n,yG⟩:∃n:Nat,c.num=n:=⟨c.num.toNat,by omega⟩;refine⟨n,yG,by omega,?_⟩;rw[oT];refine⟨c,hc,?_⟩;simp only[dK,decide_eq_true_eq];exact⟨yG,by rw[<-ZgH (k:=1000) yG (by omega)];exact h⟩
theorem ZcR {b:Bk}{bad:List Int}:∀k,(b.iS bad k).Pairwise (·<·)/\∀x∈b.iS bad k,x<(k:Int)
 |0=>⟨List.Pairwise.nil,fun x hx=>by cases hx⟩
 |k+1=>by
  obtain⟨h1,h2⟩:=ZcR (b:=b) (bad:=bad) k;rw[Gy];refine⟨?_,fun x hx=>?_⟩
  .rw[List.pairwise_append];refine⟨h1,by split<;>simp,fun x hx y hy=>?_⟩
   have:=h2 x hx
   split at hy
   .simp at hy;omega
   .cases hy
  .rcases sE.1 hx with hx|hx
   .have:=h2 x hx;omega
   .split at hx
    .simp at hx;omega
    .cases hx
def Bk.nums (b:Bk):List Int:=((List.range 1000).filter fun n:Nat=>b.aA.any fun c=>decide (c.num=(n:Int))).map Int.ofNat
theorem x4 {b:Bk}(hb:b.ok){x:Int}:x∈b.nums↔∃c∈b.aA,c.num=x:=by
 unfold Bk.nums;rw[iL];constructor
 .rintro⟨n,h,rfl⟩;rw[iY,oT]at h;obtain⟨_,c,hc,e⟩:=h;exact⟨c,hc,by simpa using e⟩
 .rintro⟨c,hc,rfl⟩
  have:=hb.ct c hc
  unfold Bk.uX jC at this;simp only[dK,decide_eq_true_eq]at this;refine⟨c.num.toNat,?_,by show((c.num.toNat:Nat):Int)=_;omega⟩;rw[iY,List.mem_range,oT];exact⟨by omega,c,hc,by simp;omega⟩
theorem TI {b:Bk}:b.nums.Pairwise (·<·):=by
 unfold Bk.nums;rw[List.pairwise_map];exact(List.pairwise_lt_range.filter _).imp fun h=>by simpa using h
theorem Yu:∀{a b:List Int},a.Pairwise (·<·)->b.Pairwise (·<·)->(∀x,x∈a↔x∈b)->a=b
 |[],[],_,_,_=>rfl
 |[],y::b,_,_,h=>absurd ((h y).2 (by simp)) (by simp)
 |x::a,[],_,_,h=>absurd ((h x).1 (by simp)) (by simp)
 |x::a,y::b,ha,hb,h=>by
  rw[H8]at ha hb;have exy:x=y:=by
   rcases jQ.1 ((h x).1 (by simp))with e|e
   .exact e
   .rcases jQ.1 ((h y).2 (by simp))with e'|e'
    .exact e'.symm
    .have h1:=hb.1 x e;have h2:=ha.1 y e';omega
  subst exy;rw[Yu ha.2 hb.2 fun z=>?_];constructor
  .intro hz;rcases jQ.1 ((h z).1 (by simp[hz]))with e|e
   .have:=ha.1 z hz;omega
   .exact e
  .intro hz;rcases jQ.1 ((h z).2 (by simp[hz]))with e|e
   .have:=hb.1 z hz;omega
   .exact e
section
open Go.RowKit Go.ChangeShapes Go.WideShapes Go.Deep
def Cr.pv (r:Cr):PV:=.agg [.i r.lo,.i r.hi]
def It.pv (x:It):PV:=.agg [.i x.dR,.bool x.gZ,.i x.val.lo,.i x.val.hi]
def Ct.pv (c:Ct):PV:=.agg [.i c.num,.i c.it,.i c.src,.i c.day,.i c.valid,.i c.diff.lo,.i c.diff.hi]
def aS (l:List It):PV:=.aE false 4 (l.map It.pv)
def aK (l:List Ct):PV:=.aE false 7 (l.map Ct.pv)
def Bk.pv (b:Bk):PV:=.agg [aS b.items,aK b.aA]
section
variable {H:Type}{enc:TypeId×Value->H}{W:World}{sp:Nat->Bool}{held:Bool}{r:Reach}{base:Nat}
end
end
def ct0:Ct:=⟨0,0,0,0,0,⟨0,0⟩⟩
def Bk.get (b:Bk)(n:Int):Ct:=(b.aA.find? fun c=>decide (c.num=n)).getD ct0
theorem u9 {b:Bk}(hb:b.ok){c:Ct}(hc:c∈b.aA):b.get c.num=c:=by
 unfold Bk.get;cases hf:b.aA.find? (fun x=>decide (x.num=c.num))with
 |none=>
  rw[List.find?_eq_none]at hf
  have:=hf c hc
  simp at this
 |some x=>
  have h1:=List.mem_of_find?_eq_some hf;have h2:=List.find?_some hf;simp only[decide_eq_true_eq]at h2;exact hb.one x h1 c hc h2
theorem V9 {b:Bk}(hb:b.ok){n:Int}(hn:n∈b.nums):b.get n∈b.aA/\(b.get n).num=n:=by
 obtain⟨c,hc,rfl⟩:=(x4 hb).1 hn;rw[u9 hb hc];exact⟨hc,rfl⟩
def Bk.pS (item day below:Int)(c:Ct):Bool:=decide (c.num<below)&&(decide (c.it=item)&&c.on day)
def Bk.qU (b:Bk)(item day below:Int):List Ct:=(b.nums.map b.get).filter (Bk.pS item day below)
theorem AN {b:Bk}(hb:b.ok){item day below:Int}{c:Ct}:c∈b.qU item day below↔c∈b.aA/\Bk.pS item day below c=true:=by
 unfold Bk.qU;rw[iY,iL];constructor
 .rintro⟨⟨n,hn,rfl⟩,h⟩;exact⟨(V9 hb hn).1,h⟩
 .rintro⟨h1,h2⟩;exact⟨⟨c.num,(x4 hb).2 ⟨c,h1,rfl⟩,u9 hb h1⟩,h2⟩
theorem Ze {b:Bk}(hb:b.ok){item day below:Int}{P:Ct->Bool}:(b.qU item day below).any P=b.aA.any fun c=>Bk.pS item day below c&&P c:=by
 rw[qQ,oT,oT];constructor
 .rintro⟨c,hc,h⟩;obtain⟨h1,h2⟩:=(AN hb).1 hc;exact⟨c,h1,by rw[h2,h];rfl⟩
 .rintro⟨c,hc,h⟩;rw[dK]at h;exact⟨c,(AN hb).2 ⟨hc,h.1⟩,h.2⟩
theorem Na {c o:Ct}:yY c o=Bk.pS c.src c.day c.num o:=by
 unfold yY Bk.pS;cases decide (o.it=c.src)<;>cases decide (o.num<c.num)<;>rfl
theorem Zk3 {b:Bk}(hb:b.ok){bad:List Int}{n:Int}(hn:n∈b.nums):(b.held bad).contains n=(((b.item (b.get n).src).gZ||(b.qU (b.get n).src (b.get n).day n).any fun o=>(b.held bad).contains o.num)&&!bad.contains n):=by
 obtain⟨h1,h2⟩:=V9 hb hn;rw[Ze hb];have e:(b.aA.any fun c=>Bk.pS (b.get n).src (b.get n).day n c&&(b.held bad).contains c.num)=b.aA.any fun o=>yY (b.get n) o&&(b.held bad).contains o.num:=by
  congr 1;funext o;rw[Na,h2]
 rw[e,qQ,jF,KI hb];have hB:b.R4 bad (b.held bad) (b.get n)=(((b.item (b.get n).src).gZ||b.aA.any fun o=>yY (b.get n) o&&(b.held bad).contains o.num)&&!bad.contains n):=by unfold Bk.R4;rw[h2]
 rw[<-hB];constructor
 .rintro⟨c,hc,e1,e2⟩
  have:b.get n=c:=by rw[<-e1];exact u9 hb hc
  rw[this];exact e2
 .intro h;exact⟨b.get n,h1,h2,h⟩
def Cr.plus (a b:Cr):Cr:=⟨a.lo+b.lo,a.hi+b.hi⟩
def Cr.wider (a:Cr)(n:Int):Cr:=a.plus ⟨-n,n⟩
def Cr.cut (a b:Cr):Cr:=⟨max a.lo b.lo,min a.hi b.hi⟩
def I4:Cr:=⟨-1099511627776,1099511627776⟩
theorem WI {α:Type}(f:α->Cr):∀(l:List α) (e:Cr),e.lo<=(l.foldl (fun r x=>r.cut (f x)) e).lo/\(∀x∈l,(f x).lo<=(l.foldl (fun r x=>r.cut (f x)) e).lo)/\((l.foldl (fun r x=>r.cut (f x)) e).lo=e.lo\/∃x∈l,(l.foldl (fun r x=>r.cut (f x)) e).lo=(f x).lo)
 |[],e=>⟨Int.le_refl _,fun x hx=>(by cases hx),.inl rfl⟩
 |y::l,e=>by
  obtain⟨h1,h2,h3⟩:=WI f l (e.cut (f y));rw[List.foldl_cons];have hm:(e.cut (f y)).lo=max e.lo (f y).lo:=rfl;refine⟨by omega,fun x hx=>?_,?_⟩
  .rcases jQ.1 hx with rfl|hx
   .omega
   .exact h2 x hx
  .rcases h3 with h3|⟨x,hx,h3⟩
   .rcases Int.le_total e.lo (f y).lo with h|h
    .right;exact⟨y,by simp,by omega⟩
    .left;omega
   .right;exact⟨x,by simp[hx],h3⟩
theorem WH {α:Type}(f:α->Cr):∀(l:List α) (e:Cr),(l.foldl (fun r x=>r.cut (f x)) e).hi<=e.hi/\(∀x∈l,(l.foldl (fun r x=>r.cut (f x)) e).hi<=(f x).hi)/\((l.foldl (fun r x=>r.cut (f x)) e).hi=e.hi\/∃x∈l,(l.foldl (fun r x=>r.cut (f x)) e).hi=(f x).hi)
 |[],e=>⟨Int.le_refl _,fun x hx=>(by cases hx),.inl rfl⟩
 |y::l,e=>by
  obtain⟨h1,h2,h3⟩:=WH f l (e.cut (f y));rw[List.foldl_cons];have hm:(e.cut (f y)).hi=min e.hi (f y).hi:=rfl;refine⟨by omega,fun x hx=>?_,?_⟩
  .rcases jQ.1 hx with rfl|hx
   .omega
   .exact h2 x hx
  .rcases h3 with h3|⟨x,hx,h3⟩
   .rcases Int.le_total e.hi (f y).hi with h|h
    .left;omega
    .right;exact⟨y,by simp,by omega⟩
   .right;exact⟨x,by simp[hx],h3⟩
theorem Cr.ext' {a b:Cr}(h1:a.lo=b.lo)(h2:a.hi=b.hi):a=b:=by
 obtain⟨a1,a2⟩:=a;obtain⟨b1,b2⟩:=b;simp only at h1 h2;subst h1 h2;rfl
theorem Zqz {α:Type}{f:α->Cr}{l l':List α}{e:Cr}(h:∀x,x∈l↔x∈l'):l.foldl (fun r x=>r.cut (f x)) e=l'.foldl (fun r x=>r.cut (f x)) e:=by
 obtain⟨a1,a2,a3⟩:=WI f l e;obtain⟨b1,b2,b3⟩:=WI f l' e;obtain⟨c1,c2,c3⟩:=WH f l e;obtain⟨d1,d2,d3⟩:=WH f l' e;refine Cr.ext' ?_ ?_
 .rcases a3 with a3|⟨x,hx,a3⟩<;>rcases b3 with b3|⟨y,hy,b3⟩
  .omega
  .have:=a2 y ((h y).2 hy);omega
  .have:=b2 x ((h x).1 hx);omega
  .have:=a2 y ((h y).2 hy);have:=b2 x ((h x).1 hx);omega
 .rcases c3 with c3|⟨x,hx,c3⟩<;>rcases d3 with d3|⟨y,hy,d3⟩
  .omega
  .have:=c2 y ((h y).2 hy);omega
  .have:=d2 x ((h x).1 hx);omega
  .have:=c2 y ((h y).2 hy);have:=d2 x ((h x).1 hx);omega
def Bk.kF (b:Bk)(held:List Int)(S:Int->Cr)(item day below:Int):Cr:=
 if(b.item item).gZ=true then(b.item item).val else((b.aA.filter fun c=>Bk.pS item day below c&&held.contains c.num).foldl (fun r c=>r.cut ((S c.num).wider ((b.item item).dR*(day-c.day)))) I4)
def Bk.FM (b:Bk)(held:List Int):Nat->Int->Cr
 |0,_=>⟨0,0⟩
 |k+1,n=>if n=(k:Int)then(if held.contains n=true then(b.kF held (b.FM held k) (b.get n).src (b.get n).day n).plus (b.get n).diff else⟨0,0⟩)else b.FM held k n
theorem Zel {b:Bk}{held:List Int}{k:Nat}{n:Int}:b.FM held (k+1) n=if n=(k:Int)then(if held.contains n=true then(b.kF held (b.FM held k) (b.get n).src (b.get n).day n).plus (b.get n).diff else⟨0,0⟩)else b.FM held k n:=rfl
theorem Zdp {b:Bk}{held:List Int}{S S':Int->Cr}{item day below:Int}(h:∀n,n<below->S n=S' n):b.kF held S item day below=b.kF held S' item day below:=by
 unfold Bk.kF;split
 .rfl
 .have key:∀(l:List Ct) (e:Cr),(∀c∈l,c.num<below)->l.foldl (fun r c=>r.cut ((S c.num).wider ((b.item item).dR*(day-c.day)))) e=l.foldl (fun r c=>r.cut ((S' c.num).wider ((b.item item).dR*(day-c.day)))) e:=by
   intro l;induction l with
   |nil=>exact fun _ _=>rfl
   |cons c l ih=>
    intro e hl;rw[List.foldl_cons,List.foldl_cons,h c.num (hl c (by simp)),ih _ fun x hx=>hl x (by simp[hx])]
  refine key _ _ fun c hc=>?_
  rw[iY]at hc
  have:=hc.2
  unfold Bk.pS at this;simp only[dK,decide_eq_true_eq]at this;exact this.1.1
def Bk.span (b:Bk)(held:List Int)(n:Int):Cr:=b.FM held 1000 n
theorem Zdr {b:Bk}{held:List Int}{n:Int}:∀{k:Nat},n<(k:Int)->∀j,b.FM held (k+j) n=b.FM held k n
 |k,h,0=>rfl
 |k,h,j+1=>by
  rw[<-Nat.add_assoc,Zel,if_neg (by omega)];exact Zdr h j
theorem Ml {b:Bk}{held:List Int}{n:Nat}(hn:n<1000):b.span held n=if held.contains (n:Int)=true then(b.kF held (b.span held) (b.get n).src (b.get n).day n).plus (b.get n).diff else⟨0,0⟩:=by
 have e:b.span held n=b.FM held (n+1) n:=by
  unfold Bk.span;rw[show 1000=n+1+(1000-(n+1)) by omega];exact Zdr (by omega) _
 rw[e,Zel,if_pos rfl];split
 .congr 1;refine Zdp fun m hm=>?_
  unfold Bk.span;rw[show 1000=n+(1000-n) by omega];exact(Zdr hm _).symm
 .rfl
def Bk.contra (b:Bk):Bool:=b.aA.any fun c=>(b.held []).contains c.num&&decide ((b.kF (b.held []) (b.span (b.held [])) c.it c.day 1000).hi<(b.kF (b.held []) (b.span (b.held [])) c.it c.day 1000).lo)
section
attribute [local simp] aL.bI Site.fP
theorem GG (n lo hi:Int):aD prog 145 [.i n,.i lo,.i hi] (.bool (jC n lo hi)):=by
 refine cS L145 ?_;by_cases h:lo<=n
 all_goals simp[h,L145,jC]
theorem yD (n lo hi:Int):aD prog 120 [.i n,.i lo,.i hi] (.bool (jC n lo hi)):=by
 refine cS L120 ?_;by_cases h:lo<=n
 all_goals simp[h,L120,jC]
theorem DG (n:Int):aD prog 132 [.i n] (.bool (jC n 0 1000)):=by
 refine cS L132 ?_;simp[L132];refine gG (k:=0) rfl rfl (GG n 0 1000) rfl ?_;simp
theorem ZkG (n:Int):aD prog 98 [.i n] (.bool (jC n 1 999)):=by
 refine cS L98 ?_;simp[L98];refine gG (k:=0) rfl rfl (GG n 1 999) rfl ?_;simp
theorem Zml (n:Int):aD prog 228 [.i n] (.bool (A1 n)):=by
 refine cS L228 ?_;simp[L228];refine gG (k:=0) rfl rfl (GG n (-100000) 100000) rfl ?_;simp[A1]
theorem Zko (r:Cr):aD prog 182 [r.pv] (.bool r.okB):=by
 refine cS L182 ?_;simp[L182,Cr.pv];refine gG (k:=0) rfl rfl (Zml r.lo) rfl ?_;cases h1:A1 r.lo
 .simp[Cr.okB,h1]
 .simp;refine gG (k:=0) rfl rfl (Zml r.hi) rfl ?_;cases h2:A1 r.hi
  .simp[Cr.okB,h1,h2]
  .simp[Cr.okB,h1,h2]
theorem Zqc (x:It):aD prog 141 [x.pv] (.bool x.okB):=by
 obtain⟨d,s,lo,hi⟩:=x;refine cS L141 ?_;simp[L141,It.pv];refine gG (k:=0) rfl rfl (GG d 0 100) rfl ?_;cases h1:jC d 0 100
 .simp[It.okB,h1]
 .simp;refine gG (k:=0) rfl rfl (Zko ⟨lo,hi⟩) rfl ?_;cases h2:Cr.okB ⟨lo,hi⟩
  .simp[It.okB,h1,h2]
  .cases s
   .simp[It.okB,h1,h2];rw[qQ];simp
   .simp[It.okB,h1,h2]
theorem Yf (b:Bk)(n:Int)(h:b.items.length<=1000):aD prog 131 [b.pv,.i n] (.bool (b.uJ n)):=by
 have hw:IntKind.i64.wrap ((b.items.length:Int)-1)=(b.items.length:Int)-1:=wrap64 (by omega);refine cS L131 ?_;simp[L131,Bk.pv,aS,hw];refine gG (k:=0) rfl rfl (GG n 0 ((b.items.length:Int)-1)) rfl ?_;simp[Bk.uJ]
theorem Dz (c:Ct)(d:Int)(h:IntKind.i64.wrap (c.day+c.valid)=c.day+c.valid):aD prog 134 [c.pv,.i d] (.bool (c.on d)):=by
 refine cS L134 ?_;simp[L134,Ct.pv,h];refine gG (k:=0) rfl rfl (GG d c.day (c.day+c.valid)) rfl ?_;simp[Ct.on]
theorem Zfi (c:Ct)(d:Int)(h:IntKind.i64.wrap (c.day+c.valid)=c.day+c.valid):aD prog 170 [c.pv,.i d] (.bool (c.on d)):=by
 refine cS L170 ?_;simp[L170,Ct.pv,h];refine gG (k:=0) rfl rfl (yD d c.day (c.day+c.valid)) rfl ?_;simp[Ct.on]
theorem ZsR (c o:Ct)(h:IntKind.i64.wrap (o.day+o.valid)=o.day+o.valid):aD prog 265 [c.pv,o.pv] (.bool (yY c o)):=by
 refine cS L265 ?_;cases h1:decide (o.it=c.src)
 .simp[-decide_eq_true_eq,-decide_eq_false_iff_not,L265,Ct.pv,yY,h1]
 .cases h2:decide (o.num<c.num)
  .simp[-decide_eq_true_eq,-decide_eq_false_iff_not,L265,Ct.pv,yY,h1,h2]
  .simp[-decide_eq_true_eq,-decide_eq_false_iff_not,L265,Ct.pv,yY,h1,h2];refine gG (k:=0) rfl rfl (Zfi o c.day h) rfl ?_;simp
theorem Zm0 (r:Cr):aD prog 121 [r.pv] (.bool (jC r.lo (-100000) r.hi&&decide (r.hi<=100000))):=by
 refine cS L121 ?_;simp[L121,Cr.pv];refine gG (k:=0) rfl rfl (yD r.lo (-100000) r.hi) rfl ?_;cases h1:jC r.lo (-100000) r.hi
 .simp
 .simp[h1]
theorem LV (r:Cr):aD prog 267 [r.pv] (.i r.lo):=by
 refine cS L267 ?_;simp[L267,Cr.pv]
theorem ZrK (r:Cr):aD prog 268 [r.pv] (.i r.hi):=by
 refine cS L268 ?_;simp[L268,Cr.pv]
theorem ZrA (r o:Cr)(h1:IntKind.i64.wrap (r.lo+o.lo)=r.lo+o.lo)(h2:IntKind.i64.wrap (r.hi+o.hi)=r.hi+o.hi):aD prog 221 [r.pv,o.pv] (r.plus o).pv:=by
 have a1:=LV r;have a2:=LV o;have a3:=ZrK r;have a4:=ZrK o;refine cS L221 ?_;simp[L221,Cr.pv];refine AP (k:=0) rfl rfl a1 rfl ?_;simp;refine AP (k:=0) rfl rfl a2 rfl ?_;simp[h1];refine AP (k:=0) rfl rfl a3 rfl ?_;simp;refine gG (k:=0) rfl rfl a4 rfl ?_;simp[h2,Cr.plus]
theorem Zr6 (r:Cr)(n:Int)(h0:IntKind.i64.wrap (-n) = -n)(h1:IntKind.i64.wrap (r.lo + -n)=r.lo + -n)(h2:IntKind.i64.wrap (r.hi+n)=r.hi+n):aD prog 224 [r.pv,.i n] (r.wider n).pv:=by
 have a1:=ZrA r ⟨-n,n⟩ h1 h2;refine cS L224 ?_;simp[L224,Cr.pv,h0];refine .inl (cQ [] [r.pv,Cr.pv ⟨-n,n⟩] a1 ?_);simp[aM,Cr.wider,Cr.plus,Cr.pv]
theorem ZiG:aD prog 222 [] I4.pv:=by
 refine cS L222 ?_;simp[L222,I4,Cr.pv]
theorem Zua (l:List PV)(g:FuncId)(fs cs:List PV)(q:PV->Bool)(hq:∀x∈l,aD prog g (fs++[x]++cs) (.bool (q x)))(hl:l.length<=1000000)(hc:∀x∈l,∃a t b c,x=.agg [.i a,.bool t,.i b,.i c]):
  aD prog 180 [.aE false 4 l,.fn g fs cs] (.bool (l.any q)):=
 wS 227 (SU (row:=true) hq hl (fun x hx=>by obtain⟨a,t,b,c,rfl⟩:=hc x hx;exact⟨_,rfl,rfl⟩))
theorem Zrm (x:PV)(g:FuncId)(fs cs:List PV)(b:Bool)(hx:∃a t b c,x=.agg [.i a,.bool t,.i b,.i c])(hq:aD prog g (fs++[x]++cs) (.bool b)):
  aD prog 181 [x,.ref [.fn g fs cs]] (.bool (!b)):=by
 obtain⟨a,t,b,c,rfl⟩:=hx;refine cS L181 ?_;simp[L181];refine gG (k:=0) rfl rfl hq rfl ?_;simp
theorem Zuf (l:List PV)(g:FuncId)(fs cs:List PV)(q:PV->Bool)(hq:∀x∈l,aD prog g (fs++[x]++cs) (.bool (q x)))(hl:l.length<=1000000)(hc:∀x∈l,∃a t b c,x=.agg [.i a,.bool t,.i b,.i c]):
  aD prog 140 [.aE false 4 l,.fn g fs cs] (.bool (l.all q)):=
 O4 180 181 (Zua l 181 [] [.ref [.fn g fs cs]] (fun x=>!q x) (fun x hx=>Zrm x g fs cs (q x) (hc x hx) (hq x hx)) hl hc)
theorem ZoX (l:List PV)(g:FuncId)(fs cs:List PV)(q:PV->Bool)(hq:∀x∈l,aD prog g (fs++[x]++cs) (.bool (q x)))(hl:l.length<=1000000)(hc:∀x∈l,∃a b c d e f h,x=.agg [.i a,.i b,.i c,.i d,.i e,.i f,.i h]):
  aD prog 50 [.aE false 7 l,.fn g fs cs] (.bool (l.any q)):=
 wS 88 (SU (row:=true) hq hl (fun x hx=>by obtain⟨a,b,c,d,e,f,h,rfl⟩:=hc x hx;exact⟨_,rfl,rfl⟩))
theorem Zro (x:PV)(g:FuncId)(fs cs:List PV)(b:Bool)(hx:∃a b c d e f h,x=.agg [.i a,.i b,.i c,.i d,.i e,.i f,.i h])(hq:aD prog g (fs++[x]++cs) (.bool b)):
  aD prog 183 [x,.ref [.fn g fs cs]] (.bool (!b)):=by
 obtain⟨a,b,c,d,e,f,h,rfl⟩:=hx;refine cS L183 ?_;simp[L183];refine gG (k:=0) rfl rfl hq rfl ?_;simp
theorem Zug (l:List PV)(g:FuncId)(fs cs:List PV)(q:PV->Bool)(hq:∀x∈l,aD prog g (fs++[x]++cs) (.bool (q x)))(hl:l.length<=1000000)(hc:∀x∈l,∃a b c d e f h,x=.agg [.i a,.i b,.i c,.i d,.i e,.i f,.i h]):
  aD prog 142 [.aE false 7 l,.fn g fs cs] (.bool (l.all q)):=
 O4 50 183 (ZoX l 183 [] [.ref [.fn g fs cs]] (fun x=>!q x) (fun x hx=>Zro x g fs cs (q x) (hc x hx) (hq x hx)) hl hc)
theorem Zu8 (b:Bk)(c:Ct)(h:b.items.length<=1000):aD prog 143 [b.pv,c.pv] (.bool (b.uX c)):=by
 have n1:=ZkG c.num;have n2:=Yf b c.it h;have n3:=Yf b c.src h;have n4:=DG c.day;have n5:=DG c.valid;have n6:=Zko c.diff;refine cS L143 ?_;simp[L143,Bk.pv,aS,aK,Ct.pv];refine gG (k:=0) rfl rfl n1 rfl ?_;cases e1:jC c.num 1 999
 .simp[Bk.uX,e1]
 simp;refine cG [b.pv,.i c.it] n2 ?_;cases e2:b.uJ c.it
 .simp[Bk.uX,e1,e2]
 have hi:0<=c.it/\c.it<b.items.length:=by
  unfold Bk.uJ jC at e2;simp only[dK,decide_eq_true_eq]at e2;omega
 obtain⟨x,hx⟩:∃x,b.items[c.it.toNat]?=some x:=⟨b.items[c.it.toNat]'(by omega),aX _⟩;have UL:b.item c.it=x:=by unfold Bk.item;rw[hx];rfl
 have hg:(b.items.map It.pv)[c.it.toNat]?=some (.agg [.i x.dR,.bool x.gZ,.i x.val.lo,.i x.val.hi]):=by rw[bR,hx];rfl
 obtain⟨k,hk⟩:∃k:Nat,c.it=k:=⟨c.it.toNat,by omega⟩;rw[hk]at hg hi;simp only[H7]at hg;have sD:k<b.items.length:=by omega
 simp[hk,↓hg];rcases Bool.eq_false_or_eq_true x.gZ with e3|e3
 .simp[Bk.uX,e1,e2,UL,e3]
 simp[e3];refine cG [b.pv,.i c.src] n3 ?_;cases e4:b.uJ c.src
 .simp[Bk.uX,e1,e2,UL,e3,e4]
 rcases Bool.eq_false_or_eq_true (decide (c.src=(k:Int)))with e5|e5
 .simp[-decide_eq_true_eq,-decide_eq_false_iff_not,Bk.uX,e1,e4,hk,e5]
 have e5':decide (c.src≠(k:Int))=true:=by simp at e5 ⊢;exact e5
 simp[-decide_eq_true_eq,-decide_eq_false_iff_not,e5];refine gG (k:=0) rfl rfl n4 rfl ?_;cases e6:jC c.day 0 1000
 .simp[Bk.uX,e1,e2,UL,e3,e4,e6]
 simp;refine gG (k:=0) rfl rfl n5 rfl ?_;cases e7:jC c.valid 0 1000
 .simp[Bk.uX,e1,e2,UL,e3,e4,e6,e7]
 simp;refine cG [c.diff.pv] n6 ?_;have FE:=e2;rw[hk]at FE UL;simp[-decide_eq_true_eq,-decide_eq_false_iff_not,Bk.uX,e1,FE,UL,e3,e4,e6,e7,hk,e5']
theorem Ll (a b:Int):aD prog 269 [.aE false 1 [.i a,.i b]] (.i (max a b)):=by
 have hm:aD prog 291 [.aE false 1 [.i a,.i b]] (.i (max a b)):=by
  refine cS L291 ?_;simp[L291];have Tg:(if a<b then b else a)=max a b:=by split<;>omega
  refine dY (fun n τ=>(n=1/\τ=⟨[(0,.pv (.aE false 1 [.i a,.i b])),(3,.pv (.i a)),(4,.pv (.i 1))],[]⟩)\/(n=0/\τ=⟨[(0,.pv (.aE false 1 [.i a,.i b])),(3,.pv (.i (max a b))),(4,.pv (.i 2))],[]⟩)) ⟨1,_,Sub.mk (by simp) (by simp),.inl ⟨rfl,rfl⟩⟩ ?_;rintro J hJ n τ (⟨rfl,rfl⟩|⟨rfl,rfl⟩)
  .have aB:=hJ _ _ (.inr ⟨rfl,rfl⟩);have hw:IntKind.i64.wrap 2=2:=rfl;clear hJ;simp[hw];exact⟨_,_,(by omega:0<1),Sub.mk (by simp[Tg]) (by simp),aB⟩
  .simp
 refine cS L269 ?_;simp[L269];refine cG [.aE false 1 [.i a,.i b]] hm ?_;simp
theorem Zto (a b:Int):aD prog 270 [.aE false 1 [.i a,.i b]] (.i (min a b)):=by
 have hm:aD prog 292 [.aE false 1 [.i a,.i b]] (.i (min a b)):=by
  refine cS L292 ?_;simp[L292];have Tg:(if b<a then b else a)=min a b:=by split<;>omega
  refine dY (fun n τ=>(n=1/\τ=⟨[(0,.pv (.aE false 1 [.i a,.i b])),(3,.pv (.i a)),(4,.pv (.i 1))],[]⟩)\/(n=0/\τ=⟨[(0,.pv (.aE false 1 [.i a,.i b])),(3,.pv (.i (min a b))),(4,.pv (.i 2))],[]⟩)) ⟨1,_,Sub.mk (by simp) (by simp),.inl ⟨rfl,rfl⟩⟩ ?_;rintro J hJ n τ (⟨rfl,rfl⟩|⟨rfl,rfl⟩)
  .have aB:=hJ _ _ (.inr ⟨rfl,rfl⟩);have hw:IntKind.i64.wrap 2=2:=rfl;clear hJ;simp[hw];exact⟨_,_,(by omega:0<1),Sub.mk (by simp[Tg]) (by simp),aB⟩
  .simp
 refine cS L270 ?_;simp[L270];refine cG [.aE false 1 [.i a,.i b]] hm ?_;simp
end
section
attribute [local simp] AS.exp jV aL.iW AV.map AV.iR rB dO Site.uI aL.dC AV.dC AV.hZ aT cK AS.lY eY gH bX oV kB mT gK s6
attribute [local simp] aL.bI Site.fP
section
attribute [local simp] aM oG nR iT AS.cH AV.cH AV.bB aL.cH AS.tidy AS.i7
theorem Zqb (c:Ct)(n:Int):aD prog 51 [c.pv,.ref [.i n]] (.bool (decide (c.num=n))):=by
 refine cS L51 ?_;simp[L51,Ct.pv]
theorem Yw (l:List Ct)(n:Int)(b c d e:PV)(hl:l.length<=1000):cN prog 22 [.ptr (.par 0) 0,.pv (.i n)] [(.par 0,aO (.aE false 7 (l.map Ct.pv)) b c d e)] (fun r B=>r=.pv (.bool (l.any fun x=>decide (x.num=n)))/\B=[(.par 0,aO (.aE false 7 (l.map Ct.pv)) b c d e)]):=by
 refine cB [.par 0] L22 ?_;simp[L22,aO];have IP:=ZoX (l.map Ct.pv) 51 [] [.ref [.i n]] (fun x=>match x with
  |.agg (.int _ a::_)=>decide (a=n)
  |_=>false) (fun x hx=>by
   obtain⟨y,_,rfl⟩:=iL.1 hx;exact Zqb y n) (by rw[fQ];omega) (fun x hx=>by
   obtain⟨y,_,rfl⟩:=iL.1 hx;exact⟨_,_,_,_,_,_,_,rfl⟩)
 rw[List.any_map]at IP;refine .inl (cQ [.loc 3 0] [.aE false 7 (l.map Ct.pv),.fn 51 [] [.ref [.i n]]] IP ?_);simp[Function.comp_def,Ct.pv]
theorem Xw (l:List Lt)(n:Int)(a b d e:PV)(hs:(l.map Lt.num).Pairwise (·<·))(hl:l.length<=1000)(hw:∀y∈l,IntKind.i64.wrap (y.num-n)=y.num-n):cN prog 209 [.ptr (.par 0) 0,.pv (.i n)] [(.par 0,aO a b (.aE false 4 (l.map Lt.pv)) d e)] (fun r B=>r=.pv (.bM [.i (dJ (l.map Lt.num) n),.bool (decide (n∈l.map Lt.num))])/\B=[(.par 0,aO a b (.aE false 4 (l.map Lt.pv)) d e)]):=by
 refine cB [.par 0] L209 ?_;simp[L209,aO];refine .inl (cQ [] [.aE false 4 (l.map Lt.pv),.i n,.fn 255 [] []] (Zl6 l n hs (by omega) hw) ?_);simp[-List.mem_map];simp
end
end
section
attribute [local simp] aL.bI Site.fP
def Dx (r o:Cr):AS:=⟨[(4,.ptr (.loc 4 0) 0),(10,.pv (.i (max r.lo o.lo))),(15,.vec (.loc 15 0) 1 0 2)],[(.loc 15 0,.arr 3 1 [.i r.hi,.i o.hi]),(.loc 4 0,.cells [.pv (.i 0),.pv (.i 0)])]⟩
theorem Dw (r o:Cr):aD prog 223 [r.pv,o.pv] (r.cut o).pv:=by
 have a1:=Ll r.lo o.lo;have a2:=Zto r.hi o.hi;refine cS L223 ?_;simp[L223,Cr.pv];refine FV (Dx r o) ?_ ?_
 .simp[gN,gW]
  repeat' (with_reducible refine And.intro ?_ ?_)
  all_goals trace_state
  all_goals refine AP (k:=1) (fs:=[]) (xs:=[.aE false 1 [.i r.lo,.i o.lo]]) (cs:=[]) rfl rfl a1 rfl ?_
  all_goals simp[gN,gW]
  all_goals refine Sub.mk ?_ ?_
  all_goals simp
 .simp[gN,gW,Dx];refine gG (k:=1) (fs:=[]) (xs:=[.aE false 1 [.i r.hi,.i o.hi]]) (cs:=[]) rfl rfl a2 rfl ?_;simp[gN,gW,Cr.cut]
end
theorem Sub.cH {σ:AS}(fz:List Site):Sub (aM fz σ) σ:=fun _ _ _ _ ρ _ _ _ hS=>let ⟨m',_,h⟩:=hS.aM fz;⟨ρ,m',h⟩
abbrev kI:KT:=⟨false,[.int .i64]⟩
theorem Zoi {a b:Int}:gV (.i a) (.i b)=decide (a=b):=by
 show((a==b)&&true)=_;rw[Bool.and_true,qQ];simp
theorem ZrP {a b:Ct}:gV a.pv b.pv=decide (a=b):=by
 obtain⟨a1,a2,a3,a4,a5,a6,a7⟩:=a;obtain⟨b1,b2,b3,b4,b5,b6,b7⟩:=b;rw[qQ];simp[gV,lR,wL,Ct.pv,PV.cells]
def nU {α:Type}(f:α->Int)(g:α->PV)(l:List α):List (PV×PV):=l.map fun c=>(.i (f c),g c)
theorem OD {α:Type}{f:α->Int}{g:α->PV}{l:List α}:zZ kI (nU f g l)=true:=by
 unfold zZ nU;rw[qZ];intro p hp;obtain⟨c,_,rfl⟩:=iL.1 hp;rfl
theorem KD {α:Type}{f:α->Int}{g:α->PV}{n:Int}:∀{l:List α},eX (.i n) (nU f g l)=(l.find? fun c=>decide (f c=n)).map g
 |[]=>rfl
 |c::r=>by
  have ih:=KD (f:=f) (g:=g) (n:=n) (l:=r);unfold nU at ih ⊢;rw[iQ,eX,Zoi,List.find?_cons];by_cases h:n=f c
  .rw[decide_eq_true h,decide_eq_true h.symm];rfl
  .rw[decide_eq_false h,decide_eq_false (fun e=>h e.symm)];exact ih
theorem Gp {α:Type}{f:α->Int}{g:α->PV}{n:Int}{v:PV}:∀{l:List α},(∀c∈l,f c≠n)->mN (.i n) v (nU f g l)=nU f g l++[(.i n,v)]
 |[],_=>rfl
 |c::r,h=>by
  have ih:=Gp (f:=f) (g:=g) (n:=n) (v:=v) (l:=r) (fun x hx=>h x (by simp[hx]));unfold nU at ih ⊢;rw[iQ,mN,Zoi,decide_eq_false (fun e=>h c (by simp) e.symm)];show _::mN _ _ _=_;rw[ih];rfl
def wT (acc:List Ct)(c:Ct):List Ct:=match acc.find? (fun o=>decide (o.num=c.num))with
 |some _=>acc
 |none=>acc++[c]
def Bk.fst (b:Bk)(k:Nat):List Ct:=(b.aA.take k).foldl wT []
def oQ (l:List Ct):List (PV×PV):=nU Ct.num Ct.pv l
theorem Gh {b:Bk}{k:Nat}{c:Ct}(h:b.aA[k]?=some c):b.fst (k+1)=wT (b.fst k) c:=by
 unfold Bk.fst;rw[lX,h,List.foldl_append];rfl
theorem Zp1 {acc:List Ct}{c x:Ct}(h:x∈wT acc c):x∈acc\/x=c:=by
 unfold wT at h;split at h
 .exact .inl h
 .simpa using h
theorem WS {b:Bk}:∀k,∀x∈b.fst k,x∈b.aA.take k
 |0,x,h=>by cases h
 |k+1,x,h=>by
  cases hc:b.aA[k]? with
  |none=>
   rw[List.getElem?_eq_none_iff]at hc;unfold Bk.fst at h;rw[fH (by omega)]at h ⊢
   have:=WS (b:=b) k x (by unfold Bk.fst;rw[fH (by omega)];exact h)
   rwa [fH (by omega)]at this
  |some c=>
   rw[Gh hc]at h;rw[lX,hc,sE];rcases Zp1 h with h|h
   .exact .inl (WS k x h)
   .right;simp[h]
theorem Og {b:Bk}:∀k,(b.fst k).Pairwise (fun x y=>x.num≠y.num)
 |0=>List.Pairwise.nil
 |k+1=>by
  cases hc:b.aA[k]? with
  |none=>
   rw[List.getElem?_eq_none_iff]at hc
   have:=Og (b:=b) k
   unfold Bk.fst at this ⊢;rw[fH (by omega)]at this ⊢;exact this
  |some c=>
   rw[Gh hc];unfold wT;split
   .exact Og k
   .rename_i h;rw[List.find?_eq_none]at h;rw[List.pairwise_append];refine⟨Og k,by simp,fun x hx y hy=>?_⟩;simp at hy;subst hy;simpa using h x hx
def Bk.same (b:Bk)(k:Nat):Prop:=∀c∈b.aA.take k,c∈b.fst k
theorem Zh7 {b:Bk}{k:Nat}{c:Ct}(h:b.aA[k]?=some c)(hs:b.same k)(hf:∀o,(b.fst k).find? (fun o=>decide (o.num=c.num))=some o->o=c):b.same (k+1):=by
 intro x hx;rw[lX,h,sE]at hx;rw[Gh h];unfold wT;cases ho:(b.fst k).find? (fun o=>decide (o.num=c.num))with
 |none=>
  rcases hx with hx|hx
  .simp[hs x hx]
  .simp at hx;simp[hx]
 |some o=>
  rcases hx with hx|hx
  .exact hs x hx
  .simp at hx;subst hx
   have:=hf o ho
   subst this;exact List.mem_of_find?_eq_some ho
theorem ZmT {b:Bk}(h1:∀c∈b.aA,1<=c.num/\c.num<=999)(hs:b.same b.aA.length):kR ((b.fst b.aA.length).map Ct.num)=b.nums/\(∀x∈b.aA,∀y∈b.aA,x.num=y.num->x=y):=by
 have kJ:=WS (b:=b) b.aA.length;unfold Bk.same at hs;rw[nC]at hs kJ;have pW:=Og (b:=b) b.aA.length;refine⟨?_,fun x hx y hy e=>?_⟩
 .refine Yu ?_ TI (fun x=>?_)
  .have h1:=ZcL ((b.fst b.aA.length).map Ct.num);have h2:(kR ((b.fst b.aA.length).map Ct.num)).Nodup:=by
    rw[(Hc _).nodup_iff];exact List.pairwise_map.2 pW
   exact(h1.and h2).imp (fun{a c} h=>by have:=h.2;omega)
  .rw[(Hc _).mem_iff];unfold Bk.nums;simp only[iL,iY,List.mem_range,oT,decide_eq_true_eq];constructor
   .rintro⟨c,hc,rfl⟩;have hb:=h1 c (kJ c hc);exact⟨c.num.toNat,⟨by omega,c,kJ c hc,by omega⟩,by show((c.num.toNat:Nat):Int)=c.num;omega⟩
   .rintro⟨n,⟨_,c,hc,e⟩,rfl⟩;exact⟨c,hs c hc,e⟩
 .have hp:∀{l:List Ct},l.Pairwise (fun x y=>x.num≠y.num)->∀x∈l,∀y∈l,x.num=y.num->x=y:=by
   intro l hl;induction hl with
   |nil=>intro x hx;cases hx
   |cons h _ ih=>
    intro x hx y hy e;rcases jQ.1 hx with e1|Z1<;>rcases jQ.1 hy with e2|ZU
    .rw[e1,e2]
    .subst e1;exact absurd e (h y ZU)
    .subst e2;exact absurd e.symm (h x Z1)
    .exact ih x Z1 y ZU e
  exact hp pW x (hs x hx) y (hs y hy) e
theorem Zmo {b:Bk}{x y:Ct}(hx:x∈b.aA)(hy:y∈b.aA)(e:x.num=y.num)(cZ:x≠y):b.zY=true:=by
 unfold Bk.zY;rw[oT];refine⟨x,hx,?_⟩;rw[oT];exact⟨y,hy,by simp[e,cZ]⟩
theorem Zmp {b:Bk}{x y:Ct}(hx:x∈b.aA)(hy:y∈b.aA)(e:y.num<x.num)(hd:x.day<y.day):b.zY=true:=by
 unfold Bk.zY;rw[oT];refine⟨x,hx,?_⟩;rw[oT];exact⟨y,hy,by simp[e,hd]⟩
theorem Zs5 {b:Bk}(h1:∀x∈b.aA,∀y∈b.aA,x.num=y.num->x=y)(h2:∀x∈b.aA,∀y∈b.aA,y.num<x.num->y.day<=x.day):b.zY=false:=by
 cases h:b.zY
 .rfl
 .unfold Bk.zY at h;rw[oT]at h;obtain⟨x,hx,h⟩:=h;rw[oT]at h;obtain⟨y,hy,h⟩:=h;simp only[rR,dK,decide_eq_true_eq]at h;rcases h with⟨e,h⟩|⟨e,h⟩
  .exact absurd (h1 x hx y hy e) h
  .have:=h2 x hx y hy e;omega
theorem ZtQ {l:List Int}(f:Int->Int)(hs:l.Pairwise (·<·))(h:∀(i:Nat) (x y:Int),l[i]?=some x->l[i+1]?=some y->f x<=f y):∀x∈l,∀y∈l,y<x->f y<=f x:=by
 induction hs with
 |nil=>intro x hx;cases hx
 |@cons a r ha hr ih=>
  have ih':=ih (fun i x y h1 h2=>h (i+1) x y (by simpa using h1) (by simpa using h2));have first:∀x∈r,f a<=f x:=by
   intro x hx;cases r with
   |nil=>cases hx
   |cons c t=>
    have hac:=h 0 a c rfl rfl;rcases jQ.1 hx with rfl|rL
    .exact hac
    .have h2:=(H8.1 hr).1 x rL
     have:=ih' x (by simp[rL]) c (by simp) h2
     omega
  intro x hx y hy e;rcases jQ.1 hx with e1|Z1<;>rcases jQ.1 hy with e2|ZU
  .omega
  .have:=ha y ZU;omega
  .rw[e2];exact first x Z1
  .exact ih' x Z1 y ZU e
structure xD (b:Bk)(es:List (PV×PV)):Prop where
 k:zZ kI es=true
 f:∀n:Int,eX (.i n) es=if n∈b.nums then some (b.get n).pv else none
theorem Zoy {b:Bk}(hb:b.ok)(hs:b.same b.aA.length):xD b (oQ (b.fst b.aA.length)):=by
 refine⟨OD,fun n=>?_⟩;have kJ:=WS (b:=b) b.aA.length;unfold Bk.same at hs;rw[nC]at hs kJ;unfold oQ;rw[KD];cases hf:(b.fst b.aA.length).find? (fun c=>decide (c.num=n))with
 |none=>
  rw[if_neg]
  .rfl
  .intro hn;obtain⟨c,hc,e⟩:=(x4 hb).1 hn;rw[List.find?_eq_none]at hf;exact absurd e (by simpa using hf c (hs c hc))
 |some c=>
  have h1:=kJ c (List.mem_of_find?_eq_some hf);have h2:=List.find?_some hf;simp only[decide_eq_true_eq]at h2;subst h2;rw[if_pos ((x4 hb).2 ⟨c,h1,rfl⟩),u9 hb h1];rfl
section
attribute [local simp] aL.bI Site.fP
theorem ZjR {P:Program}{f:FuncId}{xs:List PV}{y:PV}(hc:jP P f)(h:∀(w:World) (m:Mem) (vs:Array Value),vs.size=xs.length->(∀(j:Nat) (d:Value) (c:PV),vs[j]?=some d->xs[j]?=some c->dG m d c)->Calls P f vs w (fun e w'=>(∃v,e=.returned v/\dG m v y)/\w'=w)):aD P f xs y:=by
 refine⟨hc,fun w m ρ vs hB ⟨hm,_⟩ fG lF=>(h w m vs (by simpa using fG) (fun j d c k1 k2=>(lF j d (.pv c) k1 (by rw[bR,k2];rfl)).nJ)).mono ?_⟩;rintro e w' ⟨⟨v,rfl,hv⟩,rfl⟩;exact⟨v,.pv y,[],ρ,m,rfl,⟨rfl,rfl⟩,vA.nil _ _ _,Le.refl m,hm,fun _=>rfl,fun s b k hs=>by simp[List.lookup]at hs,fun b o v h=>.inl h,.pv _ _ hv,cV.tH _ _⟩
theorem Zva (x:Int)(h0:0<=x)(h1:x<=18446744073709551615):aD prog 185 [.int .u64 x] (.i (Lib.bitLen x.toNat)):=by
 refine ZjR ⟨_,_,func185,by decide +kernel,rfl⟩ (fun w m vs fG lF=>?_);obtain⟨v,rfl⟩:∃v,vs=#[v]:=by
  match vs,fG with
  |⟨[v]⟩,_=>exact⟨v,rfl⟩
 have hv:=lF 0 v _ rfl rfl;cases hv;have hD:∀D,_:=fun D=>AnyS.bits_LenInS { Zxe with } D x w h0 h1
 have:=calls_of_every_depth hD
 refine this.mono ?_;rintro e w' ⟨rfl,rfl⟩;exact⟨⟨_,rfl,.int _ _⟩,rfl⟩
theorem Zqd:aD prog 229 [.emp (some true),.i 0,.i 0] (.bM []):=by
 refine cS L229 ?_;have G4:IntKind.i64.wrap 1=1:=rfl;simp[L229,G4];refine dY (fun n τ=>n=0/\τ=⟨[(0,.pv (.emp (some true))),(1,.pv (.i 0)),(2,.pv (.i 0)),(6,.pv (.i 1))],[]⟩) ⟨0,_,Sub.mk (by simp) (by simp),rfl,rfl⟩ ?_;rintro J hJ n τ ⟨rfl,rfl⟩;simp
theorem ZuB (m:Int):aD prog 184 [.emp (some true),.i 0,.i 0,.i m] (.bM []):=by
 refine cS L184 ?_;have G4:IntKind.i64.wrap 0=0:=rfl;simp[L184];refine dY (fun n τ=>n=0/\τ=⟨[(0,.pv (.emp (some true))),(1,.pv (.i 0)),(2,.pv (.i 0))],[]⟩) ⟨0,_,Sub.mk (by simp) (by simp),rfl,rfl⟩ ?_;rintro J hJ n τ ⟨rfl,rfl⟩;simp[G4];refine cG [.emp (some true),.i 0,.i 0] Zqd ?_;simp
theorem Zsq:aD prog 144 [.emp (some true)] (.bM []):=by
 refine cS L144 ?_;have G4:IntKind.u64.wrap 0=0:=rfl;simp[L144,G4];refine cG [.int .u64 0] (Zva 0 (by omega) (by omega)) ?_;simp;refine cG [.emp (some true),.i 0,.i 0,.i (Lib.bitLen (0:Int).toNat)] (ZuB _) ?_;simp
end
section
attribute [local simp] aL.bI Site.fP
attribute [local simp] AS.exp jV aL.iW AV.map AV.iR dO Site.uI aL.dC AV.dC AV.hZ
def aY (b:Bk)(m:Site)(Z:List AV):List AV:=.pv (aS b.items)::.pv (aK b.aA)::.mp m::.pv (.aE false 1 (b.nums.map aN))::Z
def mF:List AV:=List.replicate 1000 (.pv (.bool false))
def Bk.cells (b:Bk):List AV:=[.pv (aS b.items),.pv (aK b.aA)]
def LH (b:Bk)(k:Nat):AS:=⟨[(1,.ptr (.loc 1 0) 0),(4,.ptr (.loc 38 0) 0),(40,.pv (aK b.aA)),(41,.pv (.i b.aA.length)),(42,.pv (.i k))],
 [(.loc 79 0,.arr 3 1 ((b.fst k).map fun c=>aN c.num)),(.loc 38 0,.cells (.pv (aS b.items)::.pv (aK b.aA)::.mp (.loc 36 0)::.vec (.loc 79 0) 1 0 (b.fst k).length::mF)),(.loc 36 0,.map (oQ (b.fst k))),(.loc 1 0,.cells b.cells)]⟩
def rdR (b:Bk)(r:AV)(B:List (Site×aL)):Prop:=
 (b.fault≠0/\r=.pv (.bM [.eU,.i b.fault])/\B=[])\/
 (b.fault=0/\∃es,xD b es/\r=.bM [.ptr (.ret 0) 0,.pv (.i 0)]/\B=[(.ret 0,.cells (aY b (.ret 1) mF)),(.ret 1,.map es)])
theorem Zqm {d n:Nat}{x:AV}(h:x.has d=false):AV.qR d (List.replicate n x)=false:=by
 induction n with
 |zero=>rfl
 |succ n ih=>rw[List.replicate_succ];simp only[AV.qR,h,ih];rfl
theorem ZoY {q:Site->Bool}{n:Nat}{x:AV}(h:x.dC q=true):AV.hZ q (List.replicate n x)=true:=by
 induction n with
 |zero=>rfl
 |succ n ih=>rw[List.replicate_succ];simp only[AV.hZ,h,ih];rfl
theorem Zlq:List.replicate 1000 (AV.pv (.bool false))=mF:=rfl
theorem Zlp (d:Nat):AV.qR d mF=false:=Zqm rfl
theorem Zlr (q:Site->Bool):AV.hZ q mF=true:=ZoY rfl
theorem XO (d:Nat):mF.map (AV.bI d)=mF:=List.map_replicate
theorem Zq4:mF.length=1000:=List.length_replicate
theorem Zp2 {g:Site->Site}{n:Nat}{x:PV}:AV.iR g (List.replicate n (.pv x))=List.replicate n (.pv x):=by
 induction n with
 |zero=>rfl
 |succ n ih=>rw[List.replicate_succ];simp only[AV.iR,AV.map,ih]
theorem Zlo (g:Site->Site):AV.iR g mF=mF:=Zp2
theorem bA {k:Nat}(h:k<=1000000):IntKind.i64.wrap ((k:Int)+1)=((k+1:Nat):Int):=by rw[wrap64 (by omega)];omega
theorem Yq {b:Bk}:∀k,(b.fst k).length<=k
 |0=>fE _
 |k+1=>by
  have ih:=Yq (b:=b) k;cases hc:b.aA[k]? with
  |none=>
   rw[List.getElem?_eq_none_iff]at hc;unfold Bk.fst at ih ⊢;rw[fH (by omega)]at ih ⊢;omega
  |some c=>
   rw[Gh hc];unfold wT;split
   .omega
   .rw[gE];simp;omega
theorem Yr {b:Bk}(h1:∀x∈b.aA,∀y∈b.aA,x.num=y.num->x=y){c:Ct}(hc:c∈b.aA):b.get c.num=c:=by
 unfold Bk.get;cases hf:b.aA.find? (fun x=>decide (x.num=c.num))with
 |none=>
  rw[List.find?_eq_none]at hf
  have:=hf c hc
  simp at this
 |some x=>
  have k1:=List.mem_of_find?_eq_some hf;have k2:=List.find?_some hf;simp only[decide_eq_true_eq]at k2;exact h1 x k1 c hc k2
theorem Zfs {b:Bk}(h1:∀c∈b.aA,1<=c.num/\c.num<=999){x:Int}:x∈b.nums↔∃c∈b.aA,c.num=x:=by
 unfold Bk.nums;simp only[iL,iY,List.mem_range,oT,decide_eq_true_eq];constructor
 .rintro⟨n,⟨_,c,hc,e⟩,rfl⟩;exact⟨c,hc,e⟩
 .rintro⟨c,hc,rfl⟩;have hb:=h1 c hc;exact⟨c.num.toNat,⟨by omega,c,hc,by omega⟩,by show((c.num.toNat:Nat):Int)=c.num;omega⟩
theorem Zqr {b:Bk}(h1:∀c∈b.aA,1<=c.num/\c.num<=999)(h2:∀x∈b.aA,∀y∈b.aA,x.num=y.num->x=y)(hs:b.same b.aA.length){n:Int}(hn:n∈b.nums):eX (.i n) (oQ (b.fst b.aA.length))=some (b.get n).pv/\(b.get n).num=n/\b.get n∈b.aA:=by
 obtain⟨c,hc,rfl⟩:=(Zfs h1).1 hn;rw[Yr h2 hc];refine⟨?_,rfl,hc⟩;have kJ:=WS (b:=b) b.aA.length;unfold Bk.same at hs;rw[nC]at hs kJ;unfold oQ;rw[KD];cases hf:(b.fst b.aA.length).find? (fun x=>decide (x.num=c.num))with
 |none=>
  rw[List.find?_eq_none]at hf
  have:=hf c (hs c hc)
  simp at this
 |some x=>
  have k1:=kJ x (List.mem_of_find?_eq_some hf);have k2:=List.find?_some hf;simp only[decide_eq_true_eq]at k2;rw[h2 x k1 c hc k2];rfl
def TX (b:Bk)(es:List (PV×PV))(k:Nat):AS:=⟨[(1,.ptr (.loc 1 0) 0),(4,.ptr (.loc 38 0) 0),(91,.pv (.aE false 1 (b.nums.map aN))),(92,.pv (.i b.nums.length)),(93,.pv (.i k))],
 [(.loc 38 0,.cells (aY b (.loc 36 0) mF)),(.loc 36 0,.map es),(.loc 1 0,.cells b.cells)]⟩
theorem Zq5 {s:Site}{n:Nat}{xs:List PV}:AV.bB s n xs mF=mF:=by
 have:∀k,AV.bB s n xs (List.replicate k (.pv (.bool false)))=List.replicate k (.pv (.bool false)):=fun k=>by
  induction k with
  |zero=>rfl
  |succ k ih=>rw[List.replicate_succ];simp only[AV.bB,AV.cH,ih]
 exact this 1000
theorem Zf3 {b:Bk}(h:b.xK=true):b.fault=3:=by unfold Bk.fault;rw[if_pos h]
theorem Zf4 {b:Bk}(h0:b.xK=false)(h:b.bad=true):b.fault=1:=by unfold Bk.fault;rw[if_neg (by simp[h0]),if_pos h]
theorem Zf2 {b:Bk}(h0:b.xK=false)(h1:b.bad=false)(h:b.zY=true):b.fault=6:=by unfold Bk.fault;rw[if_neg (by simp[h0]),if_neg (by simp[h1]),if_pos h]
theorem Gu {b:Bk}(h0:b.xK=false)(h1:b.bad=false)(h:b.zY=false):b.fault=0:=by unfold Bk.fault;rw[if_neg (by simp[h0]),if_neg (by simp[h1]),if_neg (by simp[h])]
def itQ:PV->Bool
 |.agg [.int _ d,.bool t,.int _ lo,.int _ hi]=>It.okB ⟨d,t,⟨lo,hi⟩⟩
 |_=>false
def ctQ (b:Bk):PV->Bool
 |.agg [.int _ n,.int _ i,.int _ s,.int _ d,.int _ v,.int _ lo,.int _ hi]=>b.uX ⟨n,i,s,d,v,⟨lo,hi⟩⟩
 |_=>false
theorem Rl (b:Bk)(hi:b.items.length<=1000):aD prog 140 [aS b.items,.fn 141 [] []] (.bool (b.items.all It.okB)):=by
 have a1:=Zuf (b.items.map It.pv) 141 [] [] itQ (fun x hx=>by
  obtain⟨y,_,rfl⟩:=iL.1 hx;exact Zqc y) (by rw[fQ];omega) (fun x hx=>by
  obtain⟨y,_,rfl⟩:=iL.1 hx;exact⟨_,_,_,_,rfl⟩)
 rw[List.all_map]at a1;exact a1
theorem Wl (b:Bk)(hi:b.items.length<=1000)(hc:b.aA.length<=1000):aD prog 142 [aK b.aA,.fn 143 [b.pv] []] (.bool (b.aA.all b.uX)):=by
 have a1:=Zug (b.aA.map Ct.pv) 143 [b.pv] [] (ctQ b) (fun x hx=>by
  obtain⟨y,_,rfl⟩:=iL.1 hx;exact Zu8 b y hi) (by rw[fQ];omega) (fun x hx=>by
  obtain⟨y,_,rfl⟩:=iL.1 hx;exact⟨_,_,_,_,_,_,_,rfl⟩)
 rw[List.all_map]at a1;exact a1
theorem Fe (b:Bk)(hi:b.items.length<=1000)(hc:b.aA.length<=1000):cN prog 97 [.pv b.pv] [] (rdR b):=by
 have a1:=Rl b hi;have a2:=Wl b hi hc;refine cE L97 ?_;generalize hR:rdR b=R;have vH:∀e:Int,b.fault=e->e≠0->R (.pv (.bM [.eU,.i e])) []:=fun e h h0=>by
  rw[<-hR];exact .inl ⟨by rw[h];exact h0,by rw[h],rfl⟩
 by_cases c1:8<b.items.length
 .have d1:decide ((8:Int)<(b.items.length:Int))=true:=by simp;omega
  have:=vH 3 (Zf3 (by simp[Bk.xK,c1])) (by omega)
  simp[-List.reduceReplicate,-decide_eq_true_eq,-decide_eq_false_iff_not,L97,Bk.pv,aS,aK,d1];exact⟨[],by simpa[aT,rB]using this⟩
 have d1:decide ((8:Int)<(b.items.length:Int))=false:=by simp;omega
 by_cases c2:24<b.aA.length
 .have d2:decide ((24:Int)<(b.aA.length:Int))=true:=by simp;omega
  have:=vH 3 (Zf3 (by simp[Bk.xK,c2])) (by omega)
  simp[-List.reduceReplicate,-decide_eq_true_eq,-decide_eq_false_iff_not,L97,Bk.pv,aS,aK,d1,d2];exact⟨[],by simpa[aT,rB]using this⟩
 have d2:decide ((24:Int)<(b.aA.length:Int))=false:=by simp;omega
 have qN:b.xK=false:=by simp[Bk.xK];omega
 simp[-List.reduceReplicate,-decide_eq_true_eq,-decide_eq_false_iff_not,L97,Bk.pv,aS,aK,d1,d2];refine gG (k:=4) (fs:=[]) (xs:=[aS b.items,.fn 141 [] []]) (cs:=[]) rfl rfl a1 rfl ?_;cases e1:b.items.all It.okB
 .have:=vH 1 (Zf4 qN (by simp only[Bk.bad,e1];rfl)) (by omega)
  simp[-List.reduceReplicate];exact⟨[],by simpa[aT,rB]using this⟩
 simp[-List.reduceReplicate];refine gG (k:=4) (fs:=[]) (xs:=[aK b.aA,.fn 143 [b.pv] []]) (cs:=[]) rfl rfl a2 rfl ?_;cases e2:b.aA.all b.uX
 .have:=vH 1 (Zf4 qN (by simp only[Bk.bad,e1,e2];rfl)) (by omega)
  simp[-List.reduceReplicate];exact⟨[],by simpa[aT,rB]using this⟩
 have lQ:b.bad=false:=by simp only[Bk.bad,e1,e2];rfl
 simp[-List.reduceReplicate,Zlq,Zlq,Zlp,Zq4];by_cases cZ:b.aA=[]
 .have xF:b.nums=[]:=by unfold Bk.nums;rw[cZ];simp
  have Z3:b.zY=false:=by unfold Bk.zY;rw[cZ];rfl
  have hs:b.same b.aA.length:=by intro c sR;rw[cZ]at sR;simp at sR
  have rP:=Zoy (Bk.V7.1 (Gu qN lQ Z3)) hs;have kZ:oQ (b.fst b.aA.length)=[]:=by unfold Bk.fst;rw[cZ];rfl
  rw[kZ]at rP;have y5:b.aA.length=0:=by rw[cZ];rfl
  have YM:R (.bM [.ptr (.ret 0) 0,.pv (.i 0)]) [(.ret 0,.cells (aY b (.ret 1) mF)),(.ret 1,.map [])]:=by
   rw[<-hR];exact .inr ⟨Gu qN lQ Z3,_,rP,rfl,rfl⟩
  refine dY (fun n τ=>n=0/\τ=⟨[(1,.ptr (.loc 1 0) 0),(4,.ptr (.loc 38 0) 0),(41,.pv (.i 0)),(42,.pv (.i 0))],
   [(.loc 38 0,.cells (.pv (aS b.items)::.pv (aK b.aA)::.mp (.loc 36 0)::.pv (.emp (some true))::mF)),(.loc 36 0,.map []),(.loc 1 0,.cells b.cells)]⟩) ⟨0,_,Sub.mk (by simp[y5]) (by simp[Bk.cells,aS,aK]),rfl,rfl⟩ ?_
  rintro J hJ n τ ⟨rfl,rfl⟩;clear hJ;simp;refine cG [.emp (some true)] Zsq ?_;simp;refine dY (fun n τ=>n=0/\τ=⟨[(1,.ptr (.loc 1 0) 0),(4,.ptr (.loc 38 0) 0),(92,.pv (.i 0)),(93,.pv (.i 0))],[(.loc 38 0,.cells (aY b (.loc 36 0) mF)),(.loc 36 0,.map []),(.loc 1 0,.cells b.cells)]⟩) ⟨0,_,Sub.trans' (Sub.mk (by simp) (by simp[aY,Bk.cells,xF])) (Sub.aY (s:=.loc 38 0) (i:=3) (ax:=.pv (aS b.items)::.pv (aK b.aA)::.mp (.loc 36 0)::.pv (.emp (some true))::mF) (a:=.pv (.emp (some true))) (.pv (.aE false 1 [])) (by simp) rfl (KU fun m v h=>AM h)),rfl,rfl⟩ ?_;rintro J hJ n τ ⟨rfl,rfl⟩;simp[aY,xF];refine⟨[.loc 38 0,.loc 36 0],?_⟩;simp[aT,rB,Zlr,Zlo];unfold aY at YM;rw[xF]at YM;exact YM
 refine dY (fun n τ=>∃k:Nat,k<=b.aA.length/\n=b.aA.length-k/\b.same k/\τ=LH b k) ⟨b.aA.length,LH b 0,Sub.trans' (Sub.mk (by simp[AS.gL,aK]) (by simp[AS.gL,Bk.cells,aS,aK,Bk.fst,oQ,nU,XO,Zlp]))
  (gL 79 3 1 (s:=.loc 38 0) (cs:=.pv (.aE false 4 (b.items.map It.pv))::.pv (.aE false 7 (b.aA.map Ct.pv))::.mp (.loc 36 0)::.pv (.emp (some true))::mF) 3 (by simp[XO]) rfl (by decide)),0,fT _,rfl,(fun c hc=>by cases hc),rfl⟩ ?_
 rintro J hJ n τ ⟨k,hk,rfl,hs,rfl⟩;by_cases aI:k<b.aA.length
 .obtain⟨c,MP⟩:∃c,b.aA[k]?=some c:=⟨b.aA[k],aX aI⟩;have hg:(b.aA.map Ct.pv)[k]?=some (.agg [.i c.num,.i c.it,.i c.src,.i c.day,.i c.valid,.i c.diff.lo,.i c.diff.hi]):=by rw[bR,MP];rfl
  have hw:=bA (k:=k) (by omega);have r4:=KD (f:=Ct.num) (g:=Ct.pv) (n:=c.num) (l:=b.fst k);have T9:zZ kI (oQ (b.fst k))=true:=OD;have qA:=Yq (b:=b) k;have aH:b.aA.length-(k+1)<b.aA.length-k:=by omega
  have Br:=Gh MP;cases ho:(b.fst k).find? (fun o=>decide (o.num=c.num))with
  |some o=>
   rw[ho]at r4;have ID:eX (.i c.num) (oQ (b.fst k))=some (.agg [.i o.num,.i o.it,.i o.src,.i o.day,.i o.valid,.i o.diff.lo,.i o.diff.hi]):=r4;have heq:gV (.agg [.i o.num,.i o.it,.i o.src,.i o.day,.i o.valid,.i o.diff.lo,.i o.diff.hi]) (.agg [.i c.num,.i c.it,.i c.src,.i c.day,.i c.valid,.i c.diff.lo,.i c.diff.hi])=decide (o=c):=ZrP;cases e:decide (o=c)
   .rw[e]at heq;have h6:=vH 6 (Zf2 qN lQ (Zmo (List.mem_of_mem_take (WS k o (List.mem_of_find?_eq_some ho))) (dL MP) (by simpa using List.find?_some ho) (by simpa using e))) (by omega);simp[LH,aK,aI,↓hg,T9,ID,heq,-gV,XO,gK];exact⟨[],by simpa[aT,rB]using h6⟩
   .rw[e]at heq;have G5:o=c:=by simpa using e
    have aB:=hJ _ _ ⟨k+1,aI,rfl,Zh7 MP hs (fun o' h'=>by rw[ho]at h';cases h';exact G5),rfl⟩;unfold LH at aB;rw[Br]at aB;have RA:wT (b.fst k) c=b.fst k:=by unfold wT;rw[ho]
    rw[RA]at aB;simp[LH,aK,aI,↓hg,T9,ID,heq,-gV,XO,gK,hw];exact⟨_,_,aH,Sub.mk (by simp[aK]) (by simp[aK,Bk.cells]),aB⟩
  |none=>
   rw[ho]at r4;have ID:eX (.i c.num) (oQ (b.fst k))=none:=r4;have aB:=hJ _ _ ⟨k+1,aI,rfl,Zh7 MP hs (fun o' h'=>by rw[ho]at h';cases h'),rfl⟩;have RA:wT (b.fst k) c=b.fst k++[c]:=by unfold wT;rw[ho]
   have nH:mN (.i c.num) (.agg [.i c.num,.i c.it,.i c.src,.i c.day,.i c.valid,.i c.diff.lo,.i c.diff.hi]) (oQ (b.fst k))=oQ (b.fst k++[c]):=by
    unfold oQ;rw[Gp (fun x hx=>by rw[List.find?_eq_none]at ho;simpa using ho x hx)];unfold nU;rw[lI];rfl
   have sP:(((b.fst k).map fun c=>aN c.num)).length<=1000:=by rw[fQ];omega
   have sQ:(b.fst k).length+1<=1000000:=by omega
   unfold LH at aB;rw[Br,RA]at aB;simp[LH,aK,aI,↓hg,T9,ID,nH,XO,gK,hw,aP,sQ];exact⟨_,_,aH,Sub.mk (by simp[aK]) (by simp[aK,aN,Bk.cells]),aB⟩
 .have he:k=b.aA.length:=by omega
  subst he;clear hJ;have IJ:∀c∈b.aA,1<=c.num/\c.num<=999:=fun c sR=>by
   have:=qZ.1 e2 c sR
   unfold Bk.uX jC at this;simp only[dK,decide_eq_true_eq]at this;omega
  obtain⟨MH,p8⟩:=ZmT IJ hs;have MJ:b.nums.length=(b.fst b.aA.length).length:=by rw[<-MH,Hp,fQ]
  have hle:=Yq (b:=b) b.aA.length;have QH:zZ kI (oQ (b.fst b.aA.length))=true:=OD;have kK:=fun n=>Zqr IJ p8 hs (n:=n)
  have Sy:b.zY=false->xD b (oQ (b.fst b.aA.length)):=fun h=>Zoy (Bk.V7.1 (Gu qN lQ h)) hs
  have YM:b.zY=false->R (.bM [.ptr (.ret 0) 0,.pv (.i 0)]) [(.ret 0,.cells (aY b (.ret 1) mF)),(.ret 1,.map (oQ (b.fst b.aA.length)))]:=fun h=>by
   rw[<-hR];exact .inr ⟨Gu qN lQ h,_,Sy h,rfl,rfl⟩
  have Tf:(b.fst b.aA.length).map Ct.num≠[]:=by
   intro e;rw[List.map_eq_nil_iff]at e;unfold Bk.same at hs;rw[nC,e]at hs;cases EZ:b.aA with
   |nil=>exact cZ EZ
   |cons x r=>have:=hs x (by rw[EZ];simp);cases this
  have MC:=Zuo 3 ((b.fst b.aA.length).map Ct.num) Tf (by rw[fQ];omega);rw[MH,fQ,List.map_map,<-MJ]at MC;have oM:b.nums.length<=1000:=by omega
  have wB:((b.fst b.aA.length).map fun c=>aN c.num)=(b.fst b.aA.length).map (aN∘Ct.num):=rfl;generalize hES:oQ (b.fst b.aA.length)=es at *;have Az:(b.fst b.aA.length).length=b.nums.length:=MJ.symm;simp[LH,aK,hES,wB,Az];refine cM [.vec (.par 0) 1 0 b.nums.length] [(.par 0,.arr 3 1 ((b.fst b.aA.length).map (aN∘Ct.num)))] 87 [.loc 79 0] rfl MC (by simp[bX]) ?_;simp[cK,AS.lY,eY,gH,XO,Bk.cells];have iH:(b.nums.map aN).take b.nums.length=b.nums.map aN:=fH (by rw[fQ];exact fE _);refine dY (fun n τ=>∃k:Nat,k<=b.nums.length/\n=b.nums.length-k/\(∀(i:Nat) (x y:Int),i+1<k->b.nums[i]?=some x->b.nums[i+1]?=some y->(b.get x).day<=(b.get y).day)/\τ=TX b es k) ⟨b.nums.length,TX b es 0,Sub.trans' (Sub.mk (by simp[aM,AS.cH,AV.cH,iH]) (by simp[aM,AS.cH,aL.cH,AV.cH,AV.bB,Zq5,aY,Bk.cells,aK,iH])) (Sub.cH [.loc 79 0]),0,fT _,rfl,(fun i x y h=>by omega),rfl⟩ ?_;rintro J hJ n τ ⟨k,hk,rfl,hinv,rfl⟩;by_cases aI:k<b.nums.length
  .obtain⟨x,hx⟩:∃x,b.nums[k]?=some x:=⟨b.nums[k],aX aI⟩;have nX:(b.nums.map aN)[k]?=some (.i x):=by rw[bR,hx];rfl
   have hw:=bA (k:=k) (by omega);have aH:b.nums.length-(k+1)<b.nums.length-k:=by omega
   obtain⟨mL,T3,hxc⟩:=kK x (dL hx);by_cases hz:k=0
   .subst hz;have aB:=hJ _ _ ⟨1,aI,rfl,(fun i x y h=>by omega),rfl⟩;have G4:IntKind.i64.wrap 1=1:=rfl;simp[TX,aY,aI,↓nX,G4];exact⟨_,_,aH,Sub.mk (by simp) (by simp[aY,Bk.cells]),aB⟩
   .obtain⟨j,CO⟩:∃j,j+1=k:=⟨k-1,by omega⟩;have hj:j<b.nums.length:=by omega
    obtain⟨y,hy⟩:∃y,b.nums[j]?=some y:=⟨b.nums[j],aX _⟩;have IC:(b.nums.map aN)[j]?=some (.i y):=by rw[bR,hy];rfl
    obtain⟨Uk,T0,HK⟩:=kK y (dL hy);have pV:IntKind.i64.wrap ((k:Int)-1)=(j:Int):=by rw[wrap64 (by omega)];omega
    have hyx:y<x:=by
     have:=R0.1 (TI (b:=b)) j k hj aI (by omega)
     rw[aX hj]at hy;rw[aX aI]at hx;cases hy;cases hx;exact this
    have HT:decide ((0:Int)<(k:Int))=true:=by simp;omega
    have M3:0<k:=by omega
    have jD:decide ((k:Int)<(b.nums.length:Int))=true:=by simp;omega
    unfold Ct.pv at mL Uk;cases hd:decide ((b.get x).day<(b.get y).day)
    .have aB:=hJ _ _ ⟨k+1,aI,rfl,(fun i x' y' h e1 e2=>by
      rcases Nat.lt_succ_iff_lt_or_eq.1 h with h|h
      .exact hinv i x' y' h e1 e2
      .have:i=j:=by omega
       subst this;rw[CO]at e2;rw[hy]at e1;rw[hx]at e2;cases e1;cases e2;simp at hd;omega),rfl⟩
     simp[-decide_eq_true_eq,-decide_eq_false_iff_not,TX,aY,aI,↓nX,↓IC,pV,M3,QH,mL,Uk,gK,hd,hw];exact⟨_,_,aH,Sub.mk (by simp) (by simp[aY,Bk.cells]),aB⟩
    .have h6:=vH 6 (Zf2 qN lQ (Zmp hxc HK (by rw[T3,T0];exact hyx) (by simpa using hd))) (by omega);simp[-decide_eq_true_eq,-decide_eq_false_iff_not,TX,aY,aI,jD,hj,↓nX,↓IC,pV,HT,M3,QH,mL,Uk,gK,hd,hw];exact⟨[],by simpa[aT,rB]using h6⟩
  .have he:k=b.nums.length:=by omega
   subst he;clear hJ;have Z3:b.zY=false:=Zs5 p8 (fun x hx y hy e=>by
    have:=ZtQ (fun n=>(b.get n).day) TI (fun i x y e1 e2=>hinv i x y (bZ.1 e2).1 e1 e2) x.num ((Zfs IJ).2 ⟨x,hx,rfl⟩) y.num ((Zfs IJ).2 ⟨y,hy,rfl⟩) e
    rw[Yr p8 hx,Yr p8 hy]at this;exact this)
   have:=YM Z3
   simp[TX,aY];refine⟨[.loc 38 0,.loc 36 0],?_⟩;simp[aT,rB,Zlr,Zlo];exact this
end
section
def Cr.sub (a b:Cr):Prop:=b.lo<=a.lo/\a.hi<=b.hi
theorem Zqp {α β:Type}{f:α->Cr}{g:β->Cr}{l:List α}{l':List β}{e:Cr}(h:∀y∈l',∃x∈l,(f x).sub (g y)):(l.foldl (fun r c=>r.cut (f c)) e).sub (l'.foldl (fun r c=>r.cut (g c)) e):=by
 obtain⟨a1,a2,_⟩:=WI f l e;obtain⟨_,_,b3⟩:=WI g l' e;obtain⟨c1,c2,_⟩:=WH f l e;obtain⟨_,_,d3⟩:=WH g l' e;constructor
 .rcases b3 with b3|⟨y,hy,b3⟩
  .omega
  .obtain⟨x,hx,h1,_⟩:=h y hy
   have:=a2 x hx;omega
 .rcases d3 with d3|⟨y,hy,d3⟩
  .omega
  .obtain⟨x,hx,_,h1⟩:=h y hy
   have:=c2 x hx;omega
theorem Cr.sub.wider {a b:Cr}(h:a.sub b)(n:Int):(a.wider n).sub (b.wider n):=by
 unfold Cr.sub at h ⊢;unfold Cr.wider Cr.plus;simp only;omega
theorem Cr.sub.plus {a b:Cr}(h:a.sub b)(d:Cr):(a.plus d).sub (b.plus d):=by
 unfold Cr.sub at h ⊢;unfold Cr.plus;simp only;omega
theorem Cr.sub.refl (a:Cr):a.sub a:=⟨Int.le_refl _,Int.le_refl _⟩
theorem FQ {b:Bk}(hb:b.ok){c:Ct}(hc:c∈b.aA):∃n:Nat,c.num=n/\1<=n/\n<1000:=by
 have:=hb.ct c hc
 unfold Bk.uX jC at this;simp only[dK,decide_eq_true_eq]at this;exact⟨c.num.toNat,by omega,by omega,by omega⟩
theorem ZiA {b b':Bk}(hb:b.ok)(nO:b'.ok)(hi:∀c∈b.aA,b'.item c.src=b.item c.src)(hc:∀c∈b.aA,c∈b'.aA){bad yM:List Int}(lQ:∀x∈yM,x∈bad){x:Int}(hx:x∈b.held bad):x∈b'.held yM:=by
 have key:∀n:Nat,(n:Int)∈b.held bad->(n:Int)∈b'.held yM:=by
  intro n;induction n using Nat.strongRecOn with
  |_ n ih=>
  intro hx;obtain⟨c,MQ,FA,Cf⟩:=(KI hb).1 hx;refine(KI nO).2 ⟨c,hc c MQ,FA,?_⟩;unfold Bk.R4 at Cf ⊢;rw[dK,rR]at Cf ⊢;refine⟨?_,?_⟩
  .rcases Cf.1 with h|h
   .left;rw[hi c MQ];exact h
   .right;rw[oT]at h ⊢;obtain⟨o,ho,h1⟩:=h;rw[dK,jF]at h1;refine⟨o,hc o ho,?_⟩;rw[dK,jF];refine⟨h1.1,?_⟩;have h2:o.num<c.num:=by have:=h1.1;unfold yY at this;simp only[dK,decide_eq_true_eq]at this;exact this.1.2
    obtain⟨m,hm,_,_⟩:=FQ hb ho;have h3:=h1.2;rw[hm]at h3 ⊢;exact ih m (by omega) h3
  .have h:=Cf.2;rw[Bool.not_eq_true',Bool.eq_false_iff]at h ⊢;intro h';rw[jF]at h';exact h (jF.2 (lQ _ h'))
 obtain⟨c0,MR,e0,_⟩:=(KI hb).1 hx;obtain⟨n,hn,_,_⟩:=FQ hb MR;have e:x=n:=by omega
 rw[e]at hx ⊢;exact key n hx
theorem Hu {b:Bk}{held:List Int}{S:Int->Cr}{item day below:Int}(h:(b.item item).gZ=false):b.kF held S item day below=(b.aA.filter fun c=>Bk.pS item day below c&&held.contains c.num).foldl (fun r c=>r.cut ((S c.num).wider ((b.item item).dR*(day-c.day)))) I4:=by
 unfold Bk.kF;rw[if_neg (by rw[h];simp)]
theorem Ziv {b b':Bk}{S S':Int->Cr}{h h':List Int}{item day below:Int}(hi:b'.item item=b.item item)(hc:∀c∈b.aA,c∈b'.aA)(hh:∀x∈h,x∈h')(hS:∀c∈b.aA,c.num<below->c.num∈h->(S' c.num).sub (S c.num)):(b'.kF h' S' item day below).sub (b.kF h S item day below):=by
 cases hs:(b.item item).gZ with
 |true=>
  unfold Bk.kF;rw[hi,if_pos hs,if_pos hs];exact Cr.sub.refl _
 |false=>
  rw[Hu hs,Hu (by rw[hi];exact hs),hi];refine Zqp fun c mD=>?_
  rw[iY,dK,jF]at mD;obtain⟨h1,h2,h3⟩:=mD;have aI:c.num<below:=by unfold Bk.pS at h2;simp only[dK,decide_eq_true_eq]at h2;exact h2.1
  refine⟨c,?_,(hS c h1 aI h3).wider _⟩;rw[iY,dK,jF];exact⟨hc c h1,h2,hh _ h3⟩
theorem Zmz {b b':Bk}(hb:b.ok)(nO:b'.ok)(hi:∀c∈b.aA,b'.item c.src=b.item c.src)(hc:∀c∈b.aA,c∈b'.aA):∀c∈b.aA,c.num∈b.held []->(b'.span (b'.held []) c.num).sub (b.span (b.held []) c.num):=by
 have hh:∀x∈b.held [],x∈b'.held []:=fun x hx=>ZiA hb nO hi hc (fun _ h=>h) hx
 have key:∀n:Nat,∀c∈b.aA,c.num=n->c.num∈b.held []->(b'.span (b'.held []) c.num).sub (b.span (b.held []) c.num):=by
  intro n;induction n using Nat.strongRecOn with
  |_ n ih=>
  intro c mD hn hx;obtain⟨n',yG,h1,h2⟩:=FQ hb mD
  have:n'=n:=by omega
  subst this;have g1:b.get (n':Int)=c:=by rw[<-hn];exact u9 hb mD
  have g2:b'.get (n':Int)=c:=by rw[<-hn];exact u9 nO (hc c mD)
  rw[hn]at hx ⊢;rw[Ml h2,Ml h2,if_pos (jF.2 hx),if_pos (jF.2 (hh _ hx)),g1,g2];refine Cr.sub.plus (Ziv (hi c mD) hc hh fun o ho aI PU=>?_) _;obtain⟨m,hm,_,_⟩:=FQ hb ho;exact ih m (by omega) o ho hm PU
 intro c mD;obtain⟨n,hn,_,_⟩:=FQ hb mD;exact key n c mD hn
def Cr.lV (r:Cr)(B:Int):Prop:=-B<=r.lo/\r.lo<=B/\-B<=r.hi/\r.hi<=B
theorem Zqq {α:Type}{f:α->Cr}{l:List α}{B:Int}(hB:B<1099511627776)(cZ:l≠[])(h:∀x∈l,(f x).lV B):(l.foldl (fun r c=>r.cut (f c)) I4).lV B:=by
 obtain⟨x0,BV⟩:=List.exists_mem_of_ne_nil l cZ;obtain⟨_,a2,a3⟩:=WI f l I4;obtain⟨_,c2,c3⟩:=WH f l I4;have h0:=h x0 BV;have h1:=a2 x0 BV;have h2:=c2 x0 BV;have e1:I4.lo = -1099511627776:=rfl;have e2:I4.hi=1099511627776:=rfl;unfold Cr.lV at h0 ⊢;refine⟨by omega,?_,?_,by omega⟩
 .rcases a3 with a3|⟨y,hy,a3⟩
  .omega
  .have:=h y hy;unfold Cr.lV at this;omega
 .rcases c3 with c3|⟨y,hy,c3⟩
  .omega
  .have:=h y hy;unfold Cr.lV at this;omega
theorem wY {b:Bk}(hb:b.ok){c:Ct}(hc:c∈b.aA):1<=c.num/\c.num<=999/\0<=c.it/\c.it<b.items.length/\(b.item c.it).gZ=false/\0<=c.src/\c.src<b.items.length/\c.src≠c.it/\0<=c.day/\c.day<=1000/\0<=c.valid/\c.valid<=1000/\c.diff.lV 100000/\c.diff.lo<=c.diff.hi:=by
 have:=hb.ct c hc
 unfold Bk.uX jC Bk.uJ jC Cr.okB A1 jC at this;simp only[dK,decide_eq_true_eq,Bool.not_eq_true']at this;unfold Cr.lV;obtain⟨⟨⟨⟨⟨⟨⟨a1,a2⟩,a3⟩,a4⟩,a5⟩,a6⟩,a7⟩,a8⟩:=this;refine⟨a1.1,a1.2,a2.1,by omega,a3,a4.1,by omega,a5,a6.1,a6.2,a7.1,a7.2,?_,a8.2⟩;omega
theorem Zy {b:Bk}(hb:b.ok){i:Int}(h0:0<=i)(h1:i<b.items.length):0<=(b.item i).dR/\(b.item i).dR<=100/\(b.item i).val.lV 100000/\(b.item i).val.lo<=(b.item i).val.hi:=by
 have hm:b.item i∈b.items:=by
  unfold Bk.item;rw[aX (by omega)];exact zX _
 have:=hb.it _ hm
 unfold It.okB jC Cr.okB A1 jC at this;simp only[dK,decide_eq_true_eq]at this;unfold Cr.lV;omega
theorem Zk5 {b:Bk}(hb:b.ok){c:Ct}(hc:c∈b.aA){bad:List Int}(h:c.num∈b.held bad):(b.item c.src).gZ=true\/∃o∈b.aA,Bk.pS c.src c.day c.num o=true/\o.num∈b.held bad:=by
 obtain⟨c',sR,e,h1⟩:=(KI hb).1 h
 have:c'=c:=hb.one c' sR c hc e
 subst this;unfold Bk.R4 at h1;rw[dK,rR]at h1;rcases h1.1 with h2|h2
 .exact .inl h2
 .rw[oT]at h2;obtain⟨o,ho,h3⟩:=h2;rw[dK,jF,Na]at h3;exact .inr ⟨o,ho,h3.1,h3.2⟩
theorem Zmi {r:Cr}{A B d:Int}(h:r.lV A)(h0:0<=d)(h1:A+d<=B):(r.wider d).lV B:=by
 unfold Cr.lV at h ⊢;unfold Cr.wider Cr.plus;simp only;omega
theorem Xv {b:Bk}(hb:b.ok){o:Ct}(ho:o∈b.aA){day:Int}(Q2:o.on day=true):0<=(b.item o.it).dR*(day-o.day)/\(b.item o.it).dR*(day-o.day)<=100000:=by
 have h1:=wY hb ho;have h2:=Zy hb h1.2.2.1 h1.2.2.2.1;unfold Ct.on jC at Q2;simp only[dK,decide_eq_true_eq]at Q2;have h3:0<=day-o.day:=by omega
 have h4:day-o.day<=1000:=by omega
 exact⟨Int.mul_nonneg h2.1 h3,Int.le_trans (Int.mul_le_mul h2.2.1 h4 h3 (by omega)) (by omega)⟩
theorem Zx {b:Bk}(hb:b.ok){held:List Int}{S:Int->Cr}{item day below:Int}{A:Int}(h0:0<=item)(h1:item<b.items.length)(hA:100000<=A)(hA2:A+100000<1099511627776)(hex:(b.item item).gZ=true\/∃o∈b.aA,Bk.pS item day below o=true/\o.num∈held)(hS:∀c∈b.aA,c.num<below->c.num∈held->(S c.num).lV A):(b.kF held S item day below).lV (A+100000):=by
 cases hs:(b.item item).gZ with
 |true=>
  unfold Bk.kF;rw[if_pos hs]
  have:=(Zy hb h0 h1).2.2.1
  unfold Cr.lV at this ⊢;omega
 |false=>
  rw[Hu hs];obtain⟨o,ho,h2,h3⟩:∃o∈b.aA,Bk.pS item day below o=true/\o.num∈held:=by
   rcases hex with h|h
   .rw[hs]at h;cases h
   .exact h
  refine Zqq (by omega) (fun e=>?_) fun c hc=>?_
  .have:o∈(b.aA.filter fun c=>Bk.pS item day below c&&held.contains c.num):=by
    rw[iY,dK,jF];exact⟨ho,h2,h3⟩
   rw[e]at this;cases this
  .rw[iY,dK,jF]at hc;obtain⟨k1,k2,k3⟩:=hc;unfold Bk.pS at k2;simp only[dK,decide_eq_true_eq]at k2;have hf:=Xv hb k1 k2.2.2;rw[k2.2.1]at hf;exact Zmi (hS c k1 k2.1 k3) hf.1 (by omega)
theorem XL {b:Bk}(hb:b.ok):∀c∈b.aA,c.num∈b.held []->(b.span (b.held []) c.num).lV (300000*(c.num+1)):=by
 have key:∀n:Nat,∀c∈b.aA,c.num=n->c.num∈b.held []->(b.span (b.held []) c.num).lV (300000*(c.num+1)):=by
  intro n;induction n using Nat.strongRecOn with
  |_ n ih=>
  intro c mD hn hx;obtain⟨n',yG,h1,h2⟩:=FQ hb mD
  have:n'=n:=by omega
  subst this;have g1:b.get (n':Int)=c:=by rw[<-hn];exact u9 hb mD
  have II:=wY hb mD;have Ae:=Zk5 hb mD hx;rw[hn]at hx Ae ⊢;rw[Ml h2,if_pos (jF.2 hx),g1];have hi:=Zx hb (S:=b.span (b.held [])) (day:=c.day) (below:=(n':Int)) (A:=300000*(n':Int)) II.2.2.2.2.2.1 II.2.2.2.2.2.2.1 (by omega) (by omega) Ae fun o ho aI PU=>by
   obtain⟨m,hm,_,_⟩:=FQ hb ho
   have:=ih m (by omega) o ho hm PU
   unfold Cr.lV at this ⊢;omega
  have hd:=II.2.2.2.2.2.2.2.2.2.2.2.2.1;unfold Cr.lV at hi hd ⊢;unfold Cr.plus;simp only;omega
 intro c mD;obtain⟨n,hn,_,_⟩:=FQ hb mD;exact key n c mD hn
structure Cons (P:Program) where
 m:Nat
 S:Type
 X:S->List aL
 step:S->PV->S×Bool
 good:PV->Prop
 live:S->Prop
 m0:0<m
 len:∀s,(X s).length=m
 cl:∀s,ED m (X s)
 sH:∀s x,live s->good x->FU P 0 [.pv x] (laid 0 (X s)) (fun r B=>r=.pv (.bool (step s x).2)/\B=laid 0 (X (step s x).1))
 goes:∀s x,live s->good x->(step s x).2=true->live (step s x).1
def Cons.run {P:Program}(C:Cons P):C.S->List PV->C.S×Bool
 |s,[]=>(s,true)
 |s,x::r=>match(C.step s x).2 with
  |true=>C.run (C.step s x).1 r
  |false=>((C.step s x).1,false)
theorem Cons.Xl {P:Program}{C:Cons P}:∀(a b:List PV) (s:C.S),C.run s (a++b)=match(C.run s a).2 with
  |true=>C.run (C.run s a).1 b
  |false=>C.run s a
 |[],b,s=>rfl
 |x::a,b,s=>by
  rw[List.cons_append,Cons.run,Cons.run];split
  .exact Cons.Xl a b _
  .rfl
theorem Cons.Zxz {P:Program}{C:Cons P}(s:C.S)(x:PV):C.run s [x]=C.step s x:=by
 rw[Cons.run];split
 .rename_i h;rw[Cons.run];exact Prod.ext rfl h.symm
 .rename_i h;exact Prod.ext rfl h.symm
theorem Zdy {P:Program}{C:Cons P}{c:C.S}{k:Nat}:((laid 0 (C.X c)).filter fun p=>!p.1.fP k).map (fun p=>(p.1,p.2.bI k))=laid 0 (C.X c):=ZeA (C.cl c)
theorem OB {tm:List (Nat×AV)}{X:List aL}:xT ⟨tm,laid 0 X⟩ X:=by
 have:=TA (tm:=tm) (X:=X) (r:=[])
 rwa [wW]at this
def gB (l:List Int):List AV:=(List.range 1000).map fun i:Nat=>.pv (.bool (l.contains (i:Int)))
theorem ZhO {l:List Int}{n:Nat}(h:n<1000):(gB l)[n]?=some (.pv (.bool (l.contains (n:Int)))):=by
 unfold gB;rw[bR,List.getElem?_range h];rfl
theorem GD:mF=gB []:=by
 refine List.ext_getElem? (fun n=>?_);unfold mF gB;rw[bR];by_cases h:n<1000
 .rw[List.getElem?_range h,List.getElem?_replicate,if_pos h];rfl
 .rw[List.getElem?_replicate,if_neg h,List.getElem?_eq_none (by rw[List.length_range];omega)];rfl
theorem Zq3 {l:List Int}{n:Nat}(h:n<1000):(gB l).set n (.pv (.bool true))=gB (l++[(n:Int)]):=by
 refine List.ext_getElem? (fun k=>?_);by_cases hk:k<1000
 .rw[List.getElem?_set,ZhO hk,ZhO hk];by_cases e:n=k
  .subst e;rw[if_pos rfl,if_pos (by unfold gB;rw[fQ,List.length_range];exact h)];simp
  .rw[if_neg e];congr 3;rw[qQ,jF,jF,sE];constructor
   .exact .inl
   .rintro(h|h)
    .exact h
    .simp at h;omega
 .rw[List.getElem?_eq_none (by unfold gB;simp;omega),List.getElem?_eq_none (by unfold gB;simp;omega)]
theorem ZhN {l:List Int}:(gB l).length=1000:=by unfold gB;simp
theorem Zfz {α:Type}{f:α->PV}{d:Nat}:∀l:List α,AV.qR d (l.map fun x=>.pv (f x))=false
 |[]=>rfl
 |x::l=>by rw[iQ];simp only[AV.qR,AV.has,Zfz l];rfl
theorem ZfA {α:Type}{f:α->PV}{q:Site->Bool}:∀l:List α,AV.hZ q (l.map fun x=>.pv (f x))=true
 |[]=>rfl
 |x::l=>by rw[iQ];simp only[AV.hZ,AV.dC,ZfA l];rfl
theorem Zfx {α:Type}{f:α->PV}{d:Nat}(l:List α):(l.map fun x=>AV.pv (f x)).map (AV.bI d)=l.map fun x=>.pv (f x):=by
 rw[List.map_map];rfl
theorem Zfy {α:Type}{f:α->PV}{g:Site->Site}:∀l:List α,AV.iR g (l.map fun x=>.pv (f x))=l.map fun x=>.pv (f x)
 |[]=>rfl
 |x::l=>by rw[iQ];simp only[AV.iR,AV.map,Zfy l]
theorem ZaR {l:List Int}(d:Nat):AV.qR d (gB l)=false:=Zfz _
theorem I7 {l:List Int}(q:Site->Bool):AV.hZ q (gB l)=true:=ZfA _
theorem AO {l:List Int}(d:Nat):(gB l).map (AV.bI d)=gB l:=Zfx _
theorem W4 {l:List Int}(g:Site->Site):AV.iR g (gB l)=gB l:=Zfy _
theorem ZsP {fz outs:List Site}{rs:List oA}{R:AV->List (Site×aL)->Prop}{σ:AS}(h:aT outs rs R (bB fz σ)):rI rs R σ:=by
 obtain⟨l,h1,h2,h3,h4,h5⟩:=h;exact⟨fz,outs,l,h1,h2,h3,fun s hs b hb=>Zeq h4 s hs b hb,h5⟩
theorem ZhL {P:Program}(fz outs:List Site){f:FuncId}{F:aZ}{args:List AV}{B:List (Site×aL)}{R:AV->List (Site×aL)->Prop}(hm:P.follows .mixedOrders=true)(hf:fV P f=some F)(hn:args.length<=F.nt)
  (h:eL P F.code (lA (fun σ=>aT outs F.res R (bB fz σ))) ⟨eW 0 args,B⟩):cN P f args B R:=Hy hm hf hn (fun _ h=>ZsP h) (I8 h)
section
attribute [local simp] aL.bI Site.fP
attribute [local simp] oH bB AS.cH AV.cH AV.bB aL.cH AS.tidy AS.i7
theorem ZjM (b:Bk)(hi:b.items.length<=1000)(hc:b.aA.length<=1000):aD prog 203 [b.pv] (.i b.fault):=by
 have hr:=Fe b hi hc;refine cS L203 ?_;simp[L203,Bk.pv];refine cL [.pv b.pv] [] 7 [] rfl hr ?_
 rintro r0 B0 (⟨h0,rfl,rfl⟩|⟨h0,es,kZ,rfl,rfl⟩)
 .refine⟨rfl,by simp,?_⟩;simp[AV.map,gH,AS.lY,eY,cK]
 .refine⟨rfl,by simp[bX,aY,aL.dC,AV.dC,AV.hZ,GD,I7],?_⟩;simp[AV.map,AV.iR,gH,AS.lY,eY,cK,aL.iW,aY,GD,W4,h0]
structure WAt (b:Bk)(bad:List Int)(es:List (PV×PV))(X:List aL)(jw jm:Nat):Prop where
 w:X[jw]?=some (.cells (aY b (.par jm) (gB bad)))
 m:X[jm]?=some (.map es)
def OR (s:Site)(item day below:Int):AV:=.fn 133 [] [.ptr s 0,.pv (.ref [.i below]),.pv (.ref [.i item]),.pv (.ref [.i day])]
attribute [local simp] AS.exp jV aL.iW AV.map AV.iR dO Site.uI aL.dC AV.dC AV.hZ
theorem ZaS {l:List Int}{s:Site}{n:Nat}{xs:List PV}:AV.bB s n xs (gB l)=gB l:=by
 have:∀k:List Nat,AV.bB s n xs (k.map fun i:Nat=>.pv (.bool (l.contains (i:Int))))=k.map fun i:Nat=>.pv (.bool (l.contains (i:Int))):=fun k=>by
  induction k with
  |nil=>rfl
  |cons x k ih=>rw[iQ];simp only[AV.bB,AV.cH,ih]
 exact this _
def kG (b:Bk)(bad:List Int)(es:List (PV×PV)):List aL:=[.cells (aY b (.par 1) (gB bad)),.map es]
theorem BI (b:Bk)(bad:List Int)(es:List (PV×PV))(item day below:Int):cN prog 91 [.ptr (.par 0) 0,.pv (.i item),.pv (.i day),.pv (.i below)] (laid 0 (kG b bad es)) (fun r B=>r=OR (.ret 0) item day below/\B=(.ret 0,.cells [.ptr (.par 0) 0])::laid 0 (kG b bad es)):=by
 refine ZhL [.loc 5 0,.loc 6 0,.loc 7 0] [.loc 4 0,.par 0,.par 1] mixed L91_ok (tG rfl) ?_;generalize hR:(fun(r:AV) (B:List (Site×aL))=>r=OR (.ret 0) item day below/\B=(.ret 0,.cells [.ptr (.par 0) 0])::laid 0 (kG b bad es))=R;simp[L91,laid,kG,aY,eB,FD,AO,ZaS];simp[aT,rB,I7,W4,s6];rw[<-hR];refine⟨rfl,?_⟩;simp[laid,kG,aY]
end
attribute [local simp] ZfQ ZfP ZfO Zdt Zfl Zfm Zeo Zdy
attribute [local simp] AV.map AV.iR dO Site.uI aL.dC AV.dC AV.hZ AS.lY
def lU (l:List Ct):List PV:=l.map Ct.pv
def Bk.X4 (b:Bk)(item day below:Int)(k:Nat):List Ct:=((b.nums.take k).map b.get).filter (Bk.pS item day below)
theorem ZpT {b:Bk}{item day below:Int}{k:Nat}{n:Int}(h:b.nums[k]?=some n):b.X4 item day below (k+1)=b.X4 item day below k++(if Bk.pS item day below (b.get n)=true then[b.get n]else[]):=by
 unfold Bk.X4;rw[lX,h,lI,H9];congr 1;simp only[Option.toList,iQ,List.map_nil,xL,List.filter_nil]
theorem Zs6 {b:Bk}{item day below:Int}(k:Nat):b.qU item day below=b.X4 item day below k++((b.nums.drop k).map b.get).filter (Bk.pS item day below):=by
 unfold Bk.X4 Bk.qU;rw[<-H9,<-lI,List.take_append_drop]
theorem ZpU {b:Bk}{item day below:Int}:b.X4 item day below b.nums.length=b.qU item day below:=by
 unfold Bk.X4 Bk.qU;rw[nC]
theorem WX {b:Bk}:b.nums.length<=1000:=by
 unfold Bk.nums;rw[fQ];exact lJ (R3 _ _) (by rw[List.length_range];exact fE _)
theorem Fv {X:List aL}{j:Nat}{b:aL}(h:X[j]?=some b):(laid 0 X).lookup (.par j)=some b:=by
 have:=Zz X 0 j
 rw[rT]at this;rw[this,h]
theorem Fb (C:Cons prog)(b:Bk)(hb:b.ok)(bad:List Int)(es:List (PV×PV))(kZ:xD b es)(j0 jw jm:Nat)(hW:∀c,C.live c->WAt b bad es (C.X c) jw jm)(h0:∀c,C.live c->(C.X c)[j0]?=some (.cells [.ptr (.par jw) 0]))
  (item day below:Int) (c:C.S) (hc:C.live c) (hg:∀x∈b.qU item day below,C.good x.pv):
  cN prog 133 [.nM (.par 0),.ptr (.par j0) 0,.pv (.ref [.i below]),.pv (.ref [.i item]),.pv (.ref [.i day])] (laid 0 (C.X c)) (fun r B=>r=.pv (.bM [])/\B=laid 0 (C.X (C.run c (lU (b.qU item day below))).1)):=by
 have hlen:=WX (b:=b);refine Oq (dM C.m) mixed L133_ok (tG rfl) ?_;generalize hR:(fun(r:AV) (B:List (Site×aL))=>r=.pv (.bM [])/\B=laid 0 (C.X (C.run c (lU (b.qU item day below))).1))=R;have k0:=Fv (h0 c hc);have kw:=Fv (hW c hc).w;simp[L133,k0,kw,aY];refine dY (fun n τ=>∃(k:Nat) (c':C.S),k<=b.nums.length/\n=b.nums.length-k/\C.run c (lU (b.X4 item day below k))=(c',true)/\C.live c'/\τ=⟨[(0,.nM (.par 0)),(1,.ptr (.par j0) 0),(2,.pv (.ref [.i below])),(3,.pv (.ref [.i item])),(4,.pv (.ref [.i day])),(12,.pv (.aE false 1 (b.nums.map aN))),(13,.pv (.i b.nums.length)),(14,.pv (.i k))],laid 0 (C.X c')⟩)
  ⟨b.nums.length,⟨[(0,.nM (.par 0)),(1,.ptr (.par j0) 0),(2,.pv (.ref [.i below])),(3,.pv (.ref [.i item])),(4,.pv (.ref [.i day])),(12,.pv (.aE false 1 (b.nums.map aN))),(13,.pv (.i b.nums.length)),(14,.pv (.i 0))],laid 0 (C.X c)⟩,Sub.mk (by simp) (Hq OB),0,c,fT _,rfl,by simp[Bk.X4,lU,Cons.run],hc,rfl⟩ ?_
 rintro J hJ n τ ⟨k,c',hk,rfl,dF,zM,rfl⟩;have k0:=Fv (h0 c' zM);have kw:=Fv (hW c' zM).w;have km:=Fv (hW c' zM).m;unfold aY at kw;by_cases aI:k<b.nums.length
 .obtain⟨x,hx⟩:∃x,b.nums[k]?=some x:=⟨b.nums[k],aX aI⟩;have K5:=dL hx;have nX:(b.nums.map aN)[k]?=some (.i x):=by rw[bR,hx];rfl
  have hw:=bA (k:=k) (by omega);have aH:b.nums.length-(k+1)<b.nums.length-k:=by omega
  obtain⟨rP,nY⟩:=V9 hb K5;have mL:=kZ.f x;rw[if_pos K5]at mL;have T9:=kZ.k;have iI:=ZpT (item:=item) (day:=day) (below:=below) hx;have jO:=wY hb rP;have Q2:=Dz (b.get x) day (by rw[wrap64 (by omega)]);have gA:Bk.pS item day below (b.get x)=true->b.get x∈b.qU item day below:=fun h=>(AN hb).2 ⟨rP,h⟩
  have M0:Bk.pS item day below (b.get x)=false->J (b.nums.length-(k+1)) ⟨[(0,.nM (.par 0)),(1,.ptr (.par j0) 0),(2,.pv (.ref [.i below])),(3,.pv (.ref [.i item])),(4,.pv (.ref [.i day])),(12,.pv (.aE false 1 (b.nums.map aN))),(13,.pv (.i b.nums.length)),(14,.pv (.i (k+1:Nat)))],laid 0 (C.X c')⟩:=fun h=>by
   rw[if_neg (by simp[h]),wW]at iI;exact hJ _ _ ⟨k+1,c',aI,rfl,by rw[iI];exact dF,zM,rfl⟩
  have hB:Bk.pS item day below (b.get x)=(decide (x<below)&&(decide ((b.get x).it=item)&&(b.get x).on day)):=by unfold Bk.pS;rw[nY]
  generalize b.get x=y at *;obtain⟨yn,yi,ys,yd,yv,⟨yl,yh⟩⟩:=y;simp only at nY;subst nY;unfold Ct.pv at mL Q2;simp only at hB;cases e1:decide (yn<below)
  .rw[e1,Bool.false_and]at hB;simp[-decide_eq_true_eq,-decide_eq_false_iff_not,aI,↓nX,k0,kw,km,T9,mL,gK,e1,hw];exact⟨_,_,aH,Sub.mk (by simp) (Hq (by repeat (first|exact OB|exact TA|refine XG rfl ?_))),M0 hB⟩
  rw[e1,Bool.true_and]at hB;cases e2:decide (yi=item)
  .rw[e2,Bool.false_and]at hB;simp[-decide_eq_true_eq,-decide_eq_false_iff_not,aI,↓nX,k0,kw,km,T9,mL,gK,e1,e2,hw];exact⟨_,_,aH,Sub.mk (by simp) (Hq (by repeat (first|exact OB|exact TA|refine XG rfl ?_))),M0 hB⟩
  rw[e2,Bool.true_and]at hB;simp[-decide_eq_true_eq,-decide_eq_false_iff_not,aI,↓nX,k0,kw,km,T9,mL,gK,e1,e2];refine cG [.agg [.i yn,.i yi,.i ys,.i yd,.i yv,.i yl,.i yh],.i day] Q2 ?_;cases e3:Ct.on ⟨yn,yi,ys,yd,yv,⟨yl,yh⟩⟩ day
  .rw[e3]at hB;simp[-decide_eq_true_eq,-decide_eq_false_iff_not,hw];exact⟨_,_,aH,Sub.mk (by simp) (Hq (by repeat (first|exact OB|exact TA|refine XG rfl ?_))),M0 hB⟩
  rw[e3]at hB;have MM:=hg _ (gA hB);rw[if_pos hB]at iI;simp[-decide_eq_true_eq,-decide_eq_false_iff_not];refine ZlB 41 C.m (C.X c') rfl C.m0 (C.len c') (by repeat (first|exact OB|exact TA|refine XG rfl ?_)) (C.cl c') rfl (C.sH c' (Ct.pv ⟨yn,yi,ys,yd,yv,⟨yl,yh⟩⟩) zM MM) ?_;rintro r B ⟨rfl,rfl⟩;refine⟨C.X (C.step c' (Ct.pv ⟨yn,yi,ys,yd,yv,⟨yl,yh⟩⟩)).1,rfl,C.len _,C.cl _,rfl,?_⟩;have kC:C.run c (lU (b.X4 item day below (k+1)))=C.step c' (Ct.pv ⟨yn,yi,ys,yd,yv,⟨yl,yh⟩⟩):=by
   rw[iI,lU,lI,Cons.Xl];rw[show List.map Ct.pv (b.X4 item day below k)=lU (b.X4 item day below k) from rfl,dF];exact Cons.Zxz c' _
  cases hs:(C.step c' (Ct.pv ⟨yn,yi,ys,yd,yv,⟨yl,yh⟩⟩)).2
  .simp;refine Zia (L:=C.X (C.step c' (Ct.pv ⟨yn,yi,ys,yd,yv,⟨yl,yh⟩⟩)).1) rfl rfl (C.len _) (by repeat (first|exact OB|exact TA|refine XG rfl ?_)) (C.cl _) ?_;rw[<-hR];refine⟨rfl,?_⟩;have eS:C.run c (lU (b.qU item day below))=C.step c' (Ct.pv ⟨yn,yi,ys,yd,yv,⟨yl,yh⟩⟩):=by
    rw[Zs6 (k+1),lU,lI,Cons.Xl];rw[show List.map Ct.pv (b.X4 item day below (k+1))=lU (b.X4 item day below (k+1)) from rfl,kC,hs]
   rw[eS]
  .have aB:=hJ _ _ ⟨k+1,(C.step c' (Ct.pv ⟨yn,yi,ys,yd,yv,⟨yl,yh⟩⟩)).1,aI,rfl,by rw[kC];exact Prod.ext rfl hs,C.goes _ _ zM MM hs,rfl⟩;simp[hw];exact⟨_,_,aH,Sub.mk (by simp) (Hq (by repeat (first|exact OB|exact TA|refine XG rfl ?_))),aB⟩
 .have he:k=b.nums.length:=by omega
  subst he;simp;refine Zia (L:=C.X c') rfl rfl (C.len _) OB (C.cl _) ?_;rw[<-hR];exact⟨rfl,by rw[ZpU]at dF;rw[dF]⟩
end
end Go.Proofs.YthmbecacehfgfaaGreatDoor
