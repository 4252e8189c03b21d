import Derived.Test.YthmbecacehfgfabGreatDoorP0
import Derived.Test.YthmbecacehfgfabGreatDoorP1
import Derived.Test.YthmbecacehfgfabGreatDoorProg
import Derived.Shelf.Strings.Builder1
import Derived.Shelf.Strings.Builder2
import Derived.Shelf.Strings.OnBuilder
import Derived.Shelf.Small.Bits
import Derived.Shelf.Utf8.RuneCount
import Derived.Shelf.Strconv.Atoi
import Derived.Shelf.Strconv.Itoa0
import Derived.Shelf.Strconv.Itoa1
import Derived.Shelf.LaysM
import Derived.Shelf.Strconv.Itoa2
import Derived.Shelf.Strconv.Itoa3
import Derived.Shelf.Strconv.AtoiErrFast
import Derived.Shelf.Strconv.ParseIntEmpty
import Derived.Shelf.Strconv.AtoiFail
import Derived.Shelf.Strconv.Clone
import Derived.Shelf.Strconv.SyntaxError
import Derived.Shelf.LaysC
import Derived.Shelf.Strconv.ToError
import Derived.Shelf.Strconv.Lower
import Derived.Shelf.Strconv.ParseUint10
import Derived.Shelf.Strconv.ParseUint10Empty
import Derived.Shelf.Strconv.ParseUint10Any
import Derived.Shelf.Strconv.ParseInt10
import Derived.Shelf.Strconv.AtoiLong
import Derived.Shelf.Strconv.AtoiInnerAll
import Derived.Shelf.Strconv.RangeError
import Derived.Shelf.Strconv.ToErrorRange
import Derived.Shelf.Strconv.AtoiAll
import Derived.Shelf.Strconv.ErrVarAll
import Derived.Shelf.Strings.Search1
import Derived.Shelf.Strings.Search2
import Derived.Shelf.Strings.Search3
import Derived.Shelf.Strings.Count
import Derived.Shelf.Strings.Shaped
import Derived.Shelf.Strings.Prefix
import Derived.Shelf.Strings.Split
import Derived.Shelf.Strings.SplitShaped
import Derived.Shelf.Unicode.Decode
import Derived.Shelf.Strings.RuneCount
import Derived.Shelf.Strings.Explode
import Derived.Shelf.Bits.Mul64
import Derived.Shelf.Unicode.DecodeSlow
import Derived.Shelf.Unicode.DecodeAny
import Derived.Shelf.Slices.Reverse
import Derived.Ground.Names2Prog
import Derived.Shelf.Slices.Clone
import Derived.Shelf.Slices.SearchI
import Derived.Shelf.Slices.Cells
import Derived.Shelf.Slices.Empties
import Derived.Ground.SlgnProg
import Derived.Shelf.SlicesE.Clone
import Derived.RecoverIn
import Derived.Shelf.Sort.Plain
set_option linter.unusedSimpArgs false
set_option linter.unusedVariables false
set_option maxHeartbeats 32000000
set_option maxRecDepth 100000
namespace Go.Proofs.YthmbecacehfgfabGreatDoor
open Go.RowKit
open Tryz
@[simp]abbrev PV.i(n:Int):PV:=.int .i64 n
@[simp]abbrev _root_.Go.Value.i(n:Int):Go.Value:=.int .i64 n
noncomputable section
def L6:aW :=⟨88,S [O 2 (.dU (.c (.str ⟨#[]⟩))),OM 3 0] (.seq (aD [pY 16 0 15,Om 4 17] (aD [O5 18 4 0] (Cd 19 (S [Om 20 4,O 2 (.dU (.c (.str ⟨#[]⟩))),Om 3 20] .ret) .skip))) (aD [pY 22 0 16,mG 21 23 24 0 25 1,bM 5 24 25] (S [O 7 (.x (.Fo 53 5))] (S [O 26 (.yK 17 [] [.t 7]),Om 8 26] (.seq (aD [R0 27 5 0,bD 30 2 29 1,xY 32 31 0] (.block 0 (.loop (S [Ob 34 .lss 33 32] (.seq (Ce 34 0) (.seq (.block 1 (aD [Oi 35 4 31 33,Ot 36 4 35,ZAE 10 4 36] (cN [bM 37 8 5,EP 39 4 10 19 38,O 41 (.call (.t 37) [.t 40])]))) (cN [pX 42 33 1 33]))))))) (aD [pY 44 5 21,Ok 46 20 [.t 45,.c E0],mG 43 46 47 0 48 1,bM 11 47 48] (aD [Pm 49 8,Of 50 (.x (.sN 9 (.c (.str ⟨#[99,101,114,116,115]⟩)))),zA 51 5 0,Pa 54 0 53,Of 58 (.x (.sN 9 (.c (.str ⟨#[104,101,108,100]⟩)))),Pm 59 11,Of 60 (.len none (.t 59)),Of 61 (.x (.sN 3 (.t 60))),Of 62 (.x (.sN 9 (.c (.str ⟨#[98,97,100]⟩)))),zA 63 5 0,Pa 66 1 65,OG 55 54,Of 57 (.x (.sN 3 (.t 56))),OG 67 66,Of 69 (.x (.sN 3 (.t 68))),O 70 (.aQ 20 1 [.t 50,.t 57,.t 58,.t 61,.t 62,.t 69]),Ok 71 22 [.t 70],O 72 (.call (.t 49) [.t 71])] (aD [pY 74 5 24,Ok 76 23 [.t 75],mG 73 76 77 0 78 1,Oe 79 73 2,bM 13 77 78,Om 15 79] (S [Om 80 8,O 81 (.x (.sN 9 (.c (.str ⟨#[101,110,100]⟩)))),Om 82 14,O 83 (.x (.sN 3 (.t 82))),O 84 (.aQ 20 1 [.t 81,.t 83]),Ok 85 22 [.t 84],O 86 (.call (.t 80) [.t 85])] (S [Ok 87 25 [.t 7],Om 2 87,OM 3 0] .ret)))))))))),[.tm 2,.tm 3]⟩
def L8:aW :=⟨6,S [OM 2 0] (.seq (aD [pY 3 0 26,Oo 5 4] (Cd 5 (S [OM 2 3] .ret) .skip)) (S [OM 2 0] .ret)),[.tm 2]⟩
@[simp] def L9a:LT:=.alt (Of 69 (.call (C 30) [.t 68])) (.op (Of 70 (.x (.fT (.t 67) (.t 69)))) .done) .no
def L9:aW :=⟨118,S [O 2 (.dU (.c (.str ⟨#[]⟩)))] (aD [pY 13 0 27,mG 12 14 15 0 16 1,OI 3 5 15,Om 4 16] (S [O 5 (.dU (.c (.str ⟨#[]⟩)))] (.seq (S [OM 6 0] (.block 0 (.loop (.seq (aD [Om 17 6,bD 18 2 3 1,oD 20 19 17] (Ce 21 0)) (.seq (.block 1 (aD [bD 24 2 3 1,oC 26 6 4 25,Ot 28 4 27,ZAE 7 4 28] (S [OM 8 0] (.seq (S [OM 9 0] (.block 2 (.loop (.seq (aD [Om 29 9,bD 30 3 3 1,oD 32 31 29] (Ce 33 2)) (.seq (.block 3 (aD [Pa 36 3 3,Pm 38 9,Pa 42 0 7,Pl 37 36,JX 39 4 37 38 0,Pl 43 42,Of 44 (.bin false .eql (.t 41) (.t 43)),Pm 45 44,Gf 47 45 true (.fa 3 (.t 3)),Gf 49 45 true (M 9),Gf 46 45 true (.load true 5 (.t 3)),Je 48 45 47 50 45 4 49,Gf 51 45 true (.load true 4 (.t 50)),GF 52 45 28 46 51 45] (Cd 53 (cN [iK 54 8 1 8]) .skip))) (cN [iK 34 9 1 9])))))) (aD [Ot 57 5 3,EP 58 4 7 29 57,mG 56 59 60 0 61 1,bM 10 60 61] (.seq (.jA (.op (Pm 62 5) (.op (Pa 63 0 7) (.op (Pm 68 8) (.op (Pm 72 10) (.op (Pl 64 63) (.seq (.alt (Of 65 (.call (C 30) [.t 64])) (.op (Of 66 (.x (.fT (.c (.str ⟨#[108,111,116,32]⟩)) (.t 65)))) (.op (Of 67 (.x (.fT (.t 66) (.c (.str ⟨#[32,116,101,115,116,115,32]⟩))))) (.alt (Of 69 (.call (C 30) [.t 68])) (.op (Of 70 (.x (.fT (.t 67) (.t 69)))) (.alt (Of 71 (.aQ 9 1 [.c (.str ⟨#[]⟩),.c (.str ⟨#[32,97,99,99,101,112,116,101,100]⟩),.c (.str ⟨#[32,114,101,106,101,99,116,101,100]⟩),.c (.str ⟨#[32,111,112,101,110]⟩)])) (.op (Of 73 (.ia 1 none (.t 71) (.t 72))) (.op (Pl 74 73) .done)) .no)) (.alt (Of 71 (.aQ 9 1 [.c (.str ⟨#[]⟩),.c (.str ⟨#[32,97,99,99,101,112,116,101,100]⟩),.c (.str ⟨#[32,114,101,106,101,99,116,101,100]⟩),.c (.str ⟨#[32,111,112,101,110]⟩)])) (.op (Of 73 (.ia 1 none (.t 71) (.t 72))) (.op (Pl 74 73) L9a)) .no)))) (.alt (Of 71 (.aQ 9 1 [.c (.str ⟨#[]⟩),.c (.str ⟨#[32,97,99,99,101,112,116,101,100]⟩),.c (.str ⟨#[32,114,101,106,101,99,116,101,100]⟩),.c (.str ⟨#[32,111,112,101,110]⟩)])) (.op (Of 73 (.ia 1 none (.t 71) (.t 72))) (.op (Pl 74 73) (.alt (Of 65 (.call (C 30) [.t 64])) (.op (Of 66 (.x (.fT (.c (.str ⟨#[108,111,116,32]⟩)) (.t 65)))) (.op (Of 67 (.x (.fT (.t 66) (.c (.str ⟨#[32,116,101,115,116,115,32]⟩))))) L9a)) .no))) .no)) (.op (O 75 (.x (.fT (.t 70) (.t 74)))) (.op (O 76 (.x (.fT (.t 62) (.t 75)))) (.op (Om 5 76) .done)))))))))) (.seq (aD [bD 77 3 7 1] (Cd 78 (.region [Om 79 5,O 80 (.x (.fT (.t 79) (.c (.str ⟨#[32,112,97,115,115,101,100]⟩)))),Om 5 80]) .skip)) (.seq (aD [Ot 81 5 3,EP 82 4 7 31 81] (Cd 83 (.region [Om 84 5,O 85 (.x (.fT (.t 84) (.c (.str ⟨#[32,114,101,99,97,108,108,101,100]⟩)))),Om 5 85]) .skip)) (.region [Om 86 5,O 87 (.x (.fT (.t 86) (.c (.str ⟨#[10]⟩)))),Om 5 87]))))))))) (cN [iK 22 6 1 6])))))) (aD [Pm 88 5,Pa 89 0 3,Pa 102 1 3,OG 90 89,Pt 95 5 3,OG 103 102,Of 92 (.call (C 30) [.t 91]),Of 93 (.x (.fT (.c (.str ⟨#[99,101,114,116,115,32]⟩)) (.t 92))),Of 94 (.x (.fT (.t 93) (.c (.str ⟨#[32,104,101,108,100,32]⟩)))),Of 96 (.call (C 33) [.t 95]),Of 97 (.call (C 32) [.t 96,.c E0]),Of 98 (.len none (.t 97)),Of 99 (.call (C 30) [.t 98]),Of 100 (.x (.fT (.t 94) (.t 99))),Of 101 (.x (.fT (.t 100) (.c (.str ⟨#[32,98,97,100,32]⟩)))),Ok 105 30 [.t 104],O 106 (.x (.fT (.t 101) (.t 105))),O 107 (.x (.fT (.t 106) (.c (.str ⟨#[10]⟩)))),O 108 (.x (.fT (.t 88) (.t 107))),Om 5 108] (aD [Om 109 5,O 110 (.x (.fT (.t 109) (.c (.str ⟨#[101,110,100,32]⟩)))),bD 111 4 3 1,Ok 113 35 [.t 112],Ok 114 34 [.t 113],Ok 115 30 [.t 114],O 116 (.x (.fT (.t 110) (.t 115))),O 117 (.x (.fT (.t 116) (.c (.str ⟨#[10]⟩)))),Om 2 117] .ret))))),[.tm 2]⟩
def L10:aW :=⟨24,S [O 2 (.alloc (.agg [E0,E0,E0,E0,E0])),Pe 3,OM 4 0] (.seq (aD [pY 7 0 15,Om 5 8] (aD [O5 9 5 0] (Cd 10 (S [O 11 (.build (.agg [E0,E0,E0,E0,E0]) []),Om 12 5,Ns 5 2 11,Pe 3,Om 4 12] .ret) .skip))) (aD [pY 14 0 16,mG 13 15 16 0 17 1,Om 6 16,Om 3 17] (aD [R0 18 6 0,Q8 21 5 20 36,Om 23 3,Ns 5 2 22,Om 3 23,OM 4 0] .ret))),[.cell 2 true 5,.tm 3,.tm 4]⟩
def L13:aW :=⟨12,S [Pe 2,OM 3 0] (.seq (aD [pY 5 0 15,Om 4 6] (aD [O5 7 4 0] (Cd 8 (S [Om 9 4,Pe 2,Om 3 9] .ret) .skip))) (aD [pY 10 0 40,Om 2 11,OM 3 0] .ret)),[.tm 2,.tm 3]⟩
@[simp] def L19a:LT:=.alt (Of 42 (.call (C 45) [.t 41])) (.op (Of 43 (.x (.sN 9 (.t 42)))) .done) .no
def L19:aW :=⟨62,S [Ox 3 4 1,O 4 (.dU (.c (.str ⟨#[]⟩)))] (S [OM 5 0] (.seq (aD [R0 9 0 0,bD 12 3 11 1,xY 14 13 0] (.block 0 (.loop (S [Ob 16 .lss 15 14] (.seq (Ce 16 0) (.seq (.block 1 (aD [Fq 17 4 13 15 4 7,Ns 4 7 18] (aD [bD 19 0 7 1,bD 21 0 3 1,Ob 23 .eql 20 22,qK 24 23 0,G 26 24 true (.load true 4 (.t 7)),GF 27 24 39 25 26 24] (Cd 28 (cN [iK 29 5 1 5]) .skip)))) (cN [pX 31 15 1 15]))))))) (.seq (.jA (.op (Of 32 (.x (.sN 9 (.c (.str ⟨#[108,111,116]⟩))))) (.op (Pa 33 0 3) (.op (Of 36 (.x (.sN 9 (.c (.str ⟨#[116,101,115,116,115]⟩))))) (.op (Pm 37 5) (.op (Of 38 (.x (.sN 3 (.t 37)))) (.op (Pm 39 0) (.op (Pt 40 4 3) (.seq (.alt (Pl 34 33) (.op (Of 35 (.x (.sN 3 (.t 34)))) (.alt (Ok 41 46 [.t 39,.t 40]) L19a .no)) (.alt (Ok 41 46 [.t 39,.t 40]) (.op (Pl 34 33) (.op (Of 35 (.x (.sN 3 (.t 34)))) L19a)) .no)) (.alt (O 44 (.aQ 20 1 [.t 32,.t 35,.t 36,.t 38,.t 43])) (.alt (Ok 45 22 [.t 44]) (.op (Om 8 45) .done) .no) .no)))))))))) (.seq (aD [bD 46 3 3 1] (Cd 47 (.region [Om 48 8,O 49 (.x (.sN 9 (.t 48))),O 50 (.x (.sN 9 (.c (.str ⟨#[112,97,115,115,101,100]⟩)))),O 51 (.aQ 20 1 [.t 49,.t 50]),Ok 52 22 [.t 51],Om 8 52]) .skip)) (.seq (aD [Om 53 0,EP 54 4 3 47 53] (Cd 55 (.region [Om 56 8,O 57 (.x (.sN 9 (.t 56))),O 58 (.x (.sN 9 (.c (.str ⟨#[114,101,99,97,108,108,101,100]⟩)))),O 59 (.aQ 20 1 [.t 57,.t 58]),Ok 60 22 [.t 59],Om 8 60]) .skip)) (aD [jZ 61 8 4] .ret)))))),[.tm 4]⟩
def L28:aW :=⟨12,aD [Ox 2 5 0,tW 3 4 1] (aD [Pa 7 1 3,Pa 9 2 3,Pt 5 5 2,nF 8 7 10 9,Of 6 (.call (C 33) [.t 5]),Ok 11 64 [.t 6,.t 8,.t 10],Om 4 11] .ret),[.tm 4]⟩
def L30:aW :=⟨23,S [O 2 (.dU (.c (.str ⟨#[]⟩)))] (.seq (S [Om 3 0,Oc 4 .lss 3 0] (Cd 4 (S [Om 5 0,O 6 (.neg (.t 5)),Ok 7 30 [.t 6],O 8 (.x (.fT (.c (.str ⟨#[45]⟩)) (.t 7))),Om 2 8] .ret) .skip)) (.seq (S [Om 9 0,Oc 10 .lss 9 10] (Cd 10 (S [Om 11 0,O 12 (.bin false .add (I 48) (.t 11)),O 13 (.conv .u8 (.t 12)),Pb 14 5 1 13,O 15 (.x (.PK (.t 14))),Om 2 15] .ret) .skip)) (S [Om 16 0,Oc 17 .quo 16 10,Ok 18 30 [.t 17],Om 19 0,Oc 20 .rem 19 10,Ok 21 30 [.t 20],O 22 (.x (.fT (.t 18) (.t 21))),Om 2 22] .ret))),[.tm 2]⟩
def L36:aW :=⟨39,S [Ox 1 5 0,O 2 (.alloc (.agg [E0,E0,E0,E0,E0]))] (S [Pe 3] (.seq (aD [bD 6 4 1 1,xY 8 7 0] (.block 0 (.loop (S [Ob 10 .lss 9 8] (.seq (Ce 10 0) (.seq (.block 1 (S [Oi 11 3 7 9,Ot 12 3 11,O 5 (.alloc (.agg [Z0,Z0,E0])),Ns 3 5 12] (cN [Pm 13 3,Pa 14 0 5,Pa 16 1 5,Pa 18 2 5,nF 15 14 17 16,Pl 19 18,Of 20 (.call (C 72) [.t 19]),O 21 (.build (.agg [Z0,Z0,E0]) [(0,(1,(.t 15))),(1,(1,(.t 17))),(2,(1,(.t 20)))]),Q9 22 169 3 21 169 3 40 13 3]))) (cN [pX 24 9 1 9]))))))) (aD [Pa 25 0 1,Pa 28 1 1,Pa 31 2 1,Pa 34 3 1,Pm 37 3,nF 26 25 29 28,nF 32 31 35 34,Of 27 (.call (C 54) [.t 26]),Of 30 (.call (C 51) [.t 29]),Of 33 (.call (C 73) [.t 32]),Ok 36 74 [.t 35],O 38 (.build (.agg [E0,E0,E0,E0,E0]) [(0,(1,(.t 27))),(1,(1,(.t 30))),(2,(1,(.t 33))),(3,(1,(.t 36))),(4,(1,(.t 37)))]),Ns 5 2 38] .ret))),[.cell 2 true 5]⟩
def L37:aW :=⟨12,aD [tW 3 1 1] (aD [R0 5 0 0,bD 8 0 7 1,WZ 10 76 3 75 9,Om 4 11] .ret),[.tm 4]⟩
def L40:aW :=⟨20,S [Pe 2] (S [Pe 3] (.seq (aD [pH 6 0,OM 8 0] (.block 0 (.loop (S [Ob 9 .lss 8 7] (.seq (Ce 9 0) (.seq (.block 1 (aD [Om 10 8,xB 11 1 6 8 1,bM 4 10 12] (cN [bM 13 3 5,yZ 15 4 78 14,O 17 (.x (.WU 5 1 1 (.t 13) (.t 16))),Om 3 17]))) (cN [pX 18 8 1 8]))))))) (aD [jZ 19 3 2] .ret))),[.tm 2]⟩
def L42:aW :=⟨9,aD [tW 3 1 1] (aD [Om 5 0,WZ 6 80 3 79 5,Oo 8 7,Om 4 8] .ret),[.tm 4]⟩
def L53:aW :=⟨42,S [Pe 4] (aD [bM 8 0 1,Ok 10 91 [.t 8,.t 9],Om 5 10] (.seq (S [Om 11 5,Oc 12 .eql 11 (-1)] (Cd 12 (aD [jZ 13 0 4] .ret) .skip)) (.seq (aD [iK 14 5 1 6] (.block 0 (.loop (.seq (aD [bM 16 6 0,oD 18 17 16] (Ce 19 0)) (.seq (.block 1 (aD [bM 22 0 6,Oi 24 7 22 23,Ot 25 7 24,O 7 (.alloc (.agg [Z0,Z0,Z0,Z0,Z0,Z0,Z0])),Ns 7 7 25] (aD [Om 26 1,AX 27 7 7 26,Oo 29 28] (Cd 29 (aD [bM 30 0 5,Ot 32 7 7,Oi 33 7 30 31,Ns 7 33 32] (cN [iK 34 5 1 5])) .skip)))) (cN [iK 20 6 1 6])))))) (aD [bM 36 0 5,O 38 (.J4 7 none (.t 36) (some (.t 37)) none none),N (.x (.clear 7 (.agg [Z0,Z0,Z0,Z0,Z0,Z0,Z0]) (.t 38)))] (aD [bM 39 0 5,O 41 (.J4 7 none (.t 39) none (some (.t 40)) none),Om 4 41] .ret))))),[.tm 4]⟩
theorem L53_ok:fV prog 53=some L53:=by kernel_rfl
def L66:aW :=⟨73,S [Ox 2 2 0,OM 4 0,OM 5 0,Pf 6] (S [OM 7 0,OM 8 0] (.seq (S [OM 9 0] (.block 0 (.loop (.seq (aD [Om 12 9,bD 13 1 2 1,oD 15 14 12] (Ce 16 0)) (.seq (.block 1 (aD [bD 19 1 2 1,oC 21 9 3 20,Ot 23 3 22,KA 10 3 23] (.seq (aD [pH 24 1,Om 26 7,bD 27 0 10 1,Ob 29 .add 26 28,Ob 30 .lss 25 29] (Cd 30 (S [Pm 31 7,Pa 32 0 10,Pm 35 1,Of 36 (.len none (.t 35)),Of 4 (.dU (I 3)),Pl 33 32,Ob 34 .add 31 33,Ob 37 .sub 34 36,Om 5 37,O 6 (.dU Bt)] .ret) .skip)) (.seq (aD [jZ 38 7 11] (.block 2 (.loop (.seq (aD [bM 39 11 7,bD 41 0 10 1,Ob 43 .add 40 42,Ob 44 .lss 39 43] (Ce 44 2)) (.seq (.block 3 (aD [bM 47 1 11,xB 49 1 47 48 1] (Cd 50 (cN [iK 51 8 1 8]) .skip))) (cN [iK 45 11 1 11])))))) (aD [Om 53 7,bD 54 0 10 1,FG 56 53 55 7] (.seq (aD [Om 57 8,bD 58 1 10 1,Ob 60 .leq 57 59] (Cd 60 (aD [pH 61 1,Om 63 7,Ob 64 .eql 62 63,OM 4 1,OM 5 0,Om 6 64] .ret) .skip)) (aD [Om 65 8,bD 66 2 10 1,Ob 68 .geq 65 67] (Cd 68 (aD [pH 69 1,Om 71 7,Ob 72 .eql 70 71,OM 4 2,OM 5 0,Om 6 72] .ret) .skip)))))))) (cN [iK 17 9 1 9])))))) (S [OM 4 0,OM 5 0,Pf 6] .ret))),[.tm 4,.tm 5,.tm 6]⟩
def L69:aW :=⟨9,S [Pe 0] (aD [O 1 (.build (.agg [Z0,.bool false,Z0,Z0]) [(1,(1,Bt))]),O 2 (.build (.agg [Z0,Z0]) [(0,(1,(I (-2)))),(1,(1,(I 2)))]),ZzC 3 1 1 2 2 2 0 1 1 0 1 1 215 1 0] .ret),[.tm 0]⟩
def L80:aW :=⟨8,S [Pf 3] (S [Ol 4 1 1,Om 5 0,O 6 (.call (.t 4) [.t 5]),Oo 7 6,Om 3 7] .ret),[.tm 3]⟩
def L82:aW :=⟨48,S [Om 10 1,O 11 (.call (C 125) [.t 10,.c (.str ⟨#[32]⟩)]),Om 4 11] (.seq (.jA (.op (Pm 14 4) (.op (Pj 15 1 14 0) (.op (Pl 16 15) (.seq (.alt (Of 13 (.call (C 126) [])) (.op (Of 17 (.x (.look ⟨false,[.str]⟩ (.agg [Z0,.dP]) true (.t 13) (.t 16)))) (.op (Om 12 17) (.op (Oe 18 12 0) (.op (Oe 19 12 1) (.alt (Of 5 (.alloc (.agg [Z0,.dP]))) (.alt (Ns 2 5 18) .done .no) .no))))) (.alt (Of 5 (.alloc (.agg [Z0,.dP]))) (.alt (Of 13 (.call (C 126) [])) (.op (Of 17 (.x (.look ⟨false,[.str]⟩ (.agg [Z0,.dP]) true (.t 13) (.t 16)))) (.op (Om 12 17) (.op (Oe 18 12 0) (.op (Oe 19 12 1) (.alt (Ns 2 5 18) .done .no))))) .no) .no)) (.op (Om 6 19) .done)))))) (aD [Om 20 6,qK 21 20 4,G 23 21 true (.len none (.t 22)),F9 24 21 0 5 21,G 26 21 true (.bin false .add (.t 25) (I 1)),G 27 21 true (.bin false .eql (.t 23) (.t 26)),Pp 28 21 27,Ok 29 127 [.t 28,I 4]] (S [Pe 7] (.seq (aD [Om 30 4,O 31 (.J4 1 none (.t 30) (some (I 1)) none none),xY 32 31 0] (.block 0 (.loop (S [Ob 34 .lss 33 32] (.seq (Ce 34 0) (.seq (.block 1 (aD [xB 35 1 31 33 1,Om 9 36] (cN [bM 37 7 9,Ok 39 128 [.t 38],Q9 40 3 1 39 3 1 8 37 7]))) (cN [pX 42 33 1 33]))))))) (cN [bD 43 1 5 1,bM 45 0 7,O 47 (.call (.t 44) [.t 45,.t 46])]))))),[]⟩
@[simp] def L84a:LT:=.alt (Ok 16 129 [.t 11,.t 13,.t 15]) (.op (Om 9 16) (.op (Oe 17 9 0) (.op (Oe 18 9 1) (.alt (Ns 2 7 17) .done .no)))) .no
@[simp] def L84b:LT:=.alt (Ok 16 129 [.t 11,.t 13,.t 15]) (.op (Om 9 16) (.op (Oe 17 9 0) (.op (Oe 18 9 1) (.alt (Of 7 (.alloc (.agg [Z0,Z0]))) (.alt (Ns 2 7 17) .done .no) .no)))) (.alt (Of 7 (.alloc (.agg [Z0,Z0]))) L84a .no)
@[simp] def L84c:LT:=.alt (Ok 11 21 [.t 10]) (.op (Pl 15 14) L84a) (.alt (Pl 15 14) (.alt (Ok 11 21 [.t 10]) L84a .no) .no)
@[simp] def L84d:LT:=.alt (Ok 11 21 [.t 10]) (.op (Pl 13 12) L84a) (.alt (Pl 13 12) (.alt (Ok 11 21 [.t 10]) L84a .no) .no)
@[simp] def L84e:LT:=.alt (Ok 11 21 [.t 10]) L84b (.alt (Of 7 (.alloc (.agg [Z0,Z0]))) (.alt (Ok 11 21 [.t 10]) L84a .no) .no)
def L84:aW :=⟨26,S [Ox 4 4 1,Pf 6] (.seq (.jA (.op (Pm 10 0) (.op (Pa 12 1 4) (.op (Pa 14 2 4) (.seq (.alt (Ok 11 21 [.t 10]) (.op (Pl 13 12) (.op (Pl 15 14) L84b)) (.alt (Pl 13 12) (.alt (Ok 11 21 [.t 10]) (.op (Pl 15 14) L84b) (.alt (Pl 15 14) L84e (.alt (Of 7 (.alloc (.agg [Z0,Z0]))) L84c .no))) (.alt (Pl 15 14) (.alt (Ok 11 21 [.t 10]) (.op (Pl 13 12) L84b) (.alt (Pl 13 12) L84e (.alt (Of 7 (.alloc (.agg [Z0,Z0]))) L84d .no))) (.alt (Of 7 (.alloc (.agg [Z0,Z0]))) (.alt (Ok 11 21 [.t 10]) (.op (Pl 13 12) (.op (Pl 15 14) L84a)) (.alt (Pl 13 12) L84c (.alt (Pl 15 14) L84d .no))) .no)))) (.op (Om 8 18) .done)))))) (aD [bD 19 3 4 1,bD 21 0 7 1,Ob 23 .add 20 22,Om 24 2,Ob 25 .geq 23 24,Om 6 25] .ret)),[.tm 6]⟩
def L89:aW :=⟨10,S [Ox 4 1 0,Ox 5 1 1,Ox 6 1 2,Ox 7 1 3,O 8 (.dU (.c .dP))] (S [O 9 (.yK 138 [] [.t 4,.t 7,.t 5,.t 6]),Om 8 9] .ret),[.tm 8]⟩
theorem L89_ok:fV prog 89=some L89:=by kernel_rfl
def L98:aW :=⟨18,aD [tW 1 2 0] (aD [bD 3 0 1 1,Ok 5 144 [.t 4],F8 6 5 1 1,TO 9 6 144 8 6,F8 11 10 0 1,F9 14 11 1 1 11,Qm 16 11 13 15 11,Om 2 17] .ret),[.tm 2]⟩
def L109:aW :=⟨93,aD [Ox 2 5 0,TK 4 0] (.seq (aD [Om 8 1,V6 9 1 8 0 1,UQ 11 158 10 1 99,WW 13 12 1 1 1 1 158 4 30,WW 20 19 1 1 2 1 158 0 1000] (Cd 26 (aD [uP 27 5 2 5 4 5 2] .ret) .skip)) (.seq (aD [rL 29 1 1 0,Pt 28 5 2,Pl 31 30,Ok 32 159 [.t 28,.t 31],Oc 33 .geq 32 0] (Cd 33 (aD [uP 34 5 2 5 4 5 6] .ret) .skip)) (aD [Ot 35 5 2,OI 6 5 35] (S [Oa 36 2 6,N (.store 1 (.t 36) (.c E0))] (.seq (S [OM 7 0] (.block 0 (.loop (.seq (aD [Pm 37 7,Pa 38 2 2,OG 39 38,Of 41 (.bin false .lss (.t 37) (.t 40)),Pm 42 41,Gf 43 42 true (.fa 2 (.t 2)),Gf 45 42 true (M 7),Gf 49 42 true (M 1),Gf 50 42 true (.ia 1 none (.t 49) (I 0)),Je 44 42 43 46 42 4 45,Gf 47 42 true (.fa 0 (.t 46)),Pi 48 42 47,Pi 51 42 50,Qo 52 42 48 51 42] (Ce 53 0)) (.seq (.block 1 (cN [Pa 56 2 6,Pa 58 2 2,Pm 60 7,Pl 57 56,TN 59 58 61 4 60,Pt 62 4 61,YX 63 86 4 62 86 4 32 57,Oa 65 2 6,Ns 1 65 64])) (cN [iK 54 7 1 7])))))) (aD [Pa 66 2 6,rL 68 1 1 0,rL 71 1 1 1,rL 74 1 1 2,nF 67 66 70 69,nF 73 72 76 75,Of 77 (.build (.agg [Z0,Z0,Z0,.bool false]) [(0,(1,(.t 70))),(1,(1,(.t 73))),(2,(1,(.t 76)))]),YX 78 86 4 77 86 4 32 67,Oa 80 2 6,Ns 1 80 79] (aD [Pa 81 2 6,Pa 83 2 2,Pa 85 2 6,nF 82 81 84 83,OG 86 85,Of 88 (.bin false .sub (.t 87) (I 1)),Of 89 (.J4 4 none (.t 84) (some (.t 88)) none none),Py 90 86 4 32 82 89,Oa 91 2 6,Ns 1 91 90] (aD [uP 92 5 6 5 4 5 0] .ret)))))))),[.cell 4 true 5,.tm 5]⟩
def L122:aW :=⟨15,S [OM 4 0] (aD [pH 5 0,pH 7 1,Ob 9 .sub 6 8,bM 10 0 1,Ok 12 166 [.t 10,.t 11],O 13 (.aQ 3 1 [.t 9,.t 12]),Ok 14 165 [.t 13],Om 4 14] .ret),[.tm 4]⟩
def L128:aW :=⟨26,S [OM 2 0] (aD [pY 6 0 174,mG 5 7 8 0 9 1,bM 3 8 9] (aD [Om 10 4,O 11 (.x (.MJ false (.t 10))),qK 12 11 3,G 14 12 true (.call (C 58) [.t 13]),Pn 15 12 0,G 16 12 true (.x (.eqv false ⟨false,[.str]⟩ (.t 14) (.t 15))),Pp 17 12 16,qK 18 17 0,G 20 18 true (.call (C 175) [.t 19,.c (.str ⟨#[45]⟩)]),G 21 18 true (.x (.rP (.t 20))),G 22 18 true (.bin false .leq (.t 21) (I 9)),Pp 23 18 22,Ok 24 127 [.t 23,I 4]] (aD [jZ 25 3 2] .ret))),[.tm 2]⟩
theorem L128_ok:fV prog 128=some L128:=by kernel_rfl
def L130:aW :=⟨79,S [Ox 1 2 0,OM 2 0] (.seq (.block 0 (aD [bD 8 1 1 1,On 10 9,Oc 11 .gtr 10 3,Om 7 11] (Cd 7 (S [OM 2 3] .ret) (aD [bD 13 0 1 1,UQ 15 179 14 1 30,Om 17 16,rK 18 17 1 1 17 1,G 20 17 false (.len none (.t 19)),G 21 17 false (.bin false .eql (.t 20) (I 0)),Pq 22 17 21,Om 23 22,rK 24 23 1 1 23 1,G 26 23 false (.call (C 180) [.t 25,C 181]),V5 27 23 26 23,Om 12 28] (Cd 12 (S [OM 2 1] .ret) .skip))))) (S [OM 3 0] (aD [O 29 (.build (.agg [Z0,Z0,Z0]) [(0,(1,(I 0))),(1,(1,(I (-1)))),(2,(1,(I 0)))]),KA 4 3 29] (.seq (aD [bD 30 1 1 1,xY 32 31 0] (.block 1 (.loop (S [Ob 34 .lss 33 32] (.seq (Ce 34 1) (.seq (.block 2 (aD [Oi 35 3 31 33,Ot 36 3 35,KA 6 3 36] (.seq (aD [bD 37 0 6 1,bD 39 0 1 1,Om 41 3,Ob 42 .sub 40 41,Ob 43 .gtr 38 42] (Cd 43 (S [OM 2 1] .ret) .skip)) (aD [Om 44 3,bD 45 0 6 1,FG 47 44 46 3] (.seq (aD [bD 48 1 6 1,bD 50 1 4 1,Ob 52 .lss 49 51,Om 53 52,rK 54 53 2 6 53 1,rK 56 53 2 4 53 1,G 58 53 false (.bin false .lss (.t 55) (.t 57)),Pq 59 53 58,Om 60 59,rK 61 60 2 6 60 1,rK 63 60 1 6 60 1,G 65 60 false (.bin false .add (.t 64) (I 1)),G 66 60 false (M 3),G 67 60 false (.bin false .add (.t 66) (I 1)),G 68 60 false (.call (C 179) [.t 62,.t 65,.t 67]),V5 69 60 68 60] (Cd 70 (S [OM 2 1] .ret) .skip)) (.region [Ot 71 3 6,Ns 3 4 71])))))) (cN [pX 72 33 1 33]))))))) (.seq (aD [bD 73 2 4 1,bD 75 1 4 1,Oc 77 .add 76 1,Ob 78 .neq 74 77] (Cd 78 (S [OM 2 1] .ret) .skip)) (S [OM 2 0] .ret)))))),[.tm 2]⟩
def L131:aW :=⟨15,S [Ox 2 3 0,O 4 (.dU (.c (.int .u8 (0))))] (.seq (.block 0 (aD [Om 6 1,bD 7 1 2 1,Ob 9 .leq 6 8,Om 5 9] (Cd 5 (S [O 4 (.dU (.c (.int .u8 (1))))] .ret) (aD [Om 11 1,bD 12 2 2 1,Ob 14 .geq 11 13,Om 10 14] (Cd 10 (S [O 4 (.dU (.c (.int .u8 (2))))] .ret) .skip))))) (S [O 4 (.dU (.c (.int .u8 (3))))] .ret)),[.tm 4]⟩
def L135:aW :=⟨52,aD [Ox 2 2 0,tW 3 7 1] (aD [bD 5 0 3 1,Ok 7 88 [.t 6],OH 8 7 2 2,F9 10 8 1 3 8,GF 12 8 163 9 11 8,F8 14 13 0 2,F9 17 14 1 3 14,G 19 14 true (.ia 4 none (.t 16) (.t 18)),F9 20 14 1 19 14,JZ 22 14 21 14,OH 24 23 2 2,F9 26 24 2 3 24,GF 28 24 163 25 27 24,F8 30 29 2 3,F9 33 30 1 3 30,G 35 30 true (.bin false .neq (.t 32) (.t 34)),Pp 36 30 35,F8 37 36 3 3,TO 40 37 164 39 37,F8 42 41 4 3,TO 45 42 164 44 42,Om 47 46,Ph 48 47 5 3,G 49 47 true (.load true 2 (.t 48)),TO 50 47 184 49 47,Om 4 51] .ret),[.tm 4]⟩
def L151:aW :=⟨11,S [Ox 1 3 0,OM 2 0] (.seq (.block 0 (aD [bD 4 2 1 1,Oc 6 .eql 5 (-1),Om 3 6] (Cd 3 (S [OM 2 0] .ret) (aD [bD 8 1 1 1,Oc 10 .eql 9 (-1),Om 7 10] (Cd 7 (S [OM 2 1] .ret) .skip))))) (S [OM 2 2] .ret)),[.tm 2]⟩
def L157:aW :=⟨42,aD [tW 1 2 0] (aD [Q8 7 2 1 115,Om 3 8] (.seq (S [OM 4 0] (.block 0 (.loop (.seq (aD [Om 9 4,bD 10 1 1 1,oD 12 11 9] (Ce 13 0)) (.seq (.block 1 (aD [bD 16 1 1 1,oC 18 4 7 17,Ot 20 7 19,j4 5 7 20] (aD [Ot 21 2 1,Om 22 3,bD 23 1 5 1,bD 25 3 5 1,Ok 27 114 [.t 21,.t 22,.t 24,.t 26,I 1000],TJ 6 2 27] (aD [zA 28 3 2000,Pa 32 0 5,nF 31 30 33 32,Of 34 (.call (C 70) [.t 31,.t 33]),Pm 35 34,Gf 36 35 true (.fa 0 (.t 6)),Gf 38 35 true (.fa 1 (.t 6)),Pi 37 35 36,Pi 39 35 38,G 40 35 true (.bin false .gtr (.t 37) (.t 39)),Pp 41 35 40] (Cd 41 (S [O 2 (.dU Bt)] .ret) .skip))))) (cN [iK 14 4 1 4])))))) (S [Pf 2] .ret))),[.tm 2]⟩
def L158:aW :=⟨15,S [Pf 6] (aD [bM 7 0 1,Ob 9 .geq 7 8,TI 10 9 0 2 6] .ret),[.tm 6]⟩
def L164:aW :=⟨5,S [Pf 2] (S [Om 3 0,Ok 4 137 [.t 3,I 0,I 1000],Om 2 4] .ret),[.tm 2]⟩
def L165:aW :=⟨18,S [OM 2 0] (S [OM 3 0] (.seq (aD [pH 6 0,OM 8 0] (.block 0 (.loop (S [Ob 9 .lss 8 7] (.seq (Ce 9 0) (.seq (.block 1 (aD [xB 10 1 6 8 1,Om 5 11] (aD [bM 12 5 3,Ob 14 .neq 12 13] (Cd 14 (aD [jZ 15 5 2] .ret) .skip)))) (cN [pX 16 8 1 8]))))))) (aD [jZ 17 3 2] .ret))),[.tm 2]⟩
def L166:aW :=⟨36,S [OM 4 0] (.seq (aD [pH 9 0,OM 11 0] (.block 0 (.loop (S [Ob 12 .lss 11 10] (.seq (Ce 12 0) (.seq (.block 1 (aD [Om 13 11,xB 14 1 9 11 1,bM 5 13 15] (.seq (aD [bM 16 5 1,On 18 17,Ob 19 .geq 16 18] (Cd 19 (S [OM 4 1] .ret) .skip)) (aD [bM 20 1 5,xB 22 1 20 21 1,Om 7 23] (aD [bM 24 6 7,Ok 26 203 [.t 24,.t 25],Om 8 26] (aD [O5 27 8 0] (Cd 28 (aD [jZ 29 8 4] .ret) .skip))))))) (cN [pX 30 11 1 11]))))))) (.seq (aD [pH 31 0,Om 33 1,oD 34 33 32] (Cd 35 (S [OM 4 (-1)] .ret) .skip)) (S [OM 4 0] .ret))),[.tm 4]⟩
def L169:aW :=⟨43,aD [bM 6 0 1,V6 8 1 7 0 1,Ok 10 37 [.t 6,.t 9],Ok 11 127 [.t 10,I 7]] (aD [zA 13 0 0,Pa 16 1 15,rL 18 1 1 0,nF 17 16 20 19,Ok 21 211 [.t 17,.t 20],mG 12 21 22 0 23 1,bM 4 22 23] (S [Om 24 5,Oo 25 24,Ok 26 127 [.t 25,I 6]] (.jA (.op (Pm 27 0) (.op (Pm 28 0) (.op (Pz 29 28) (.op (Pa 30 0 29) (.op (Pa 31 1 30) (.op (Pm 34 4) (.op (Pm 35 1) (.op (Pj 36 1 35 0) (.op (Pl 32 31) (.op (Pl 37 36) (.seq (.alt (Of 33 (.call (C 51) [.t 32])) (.alt (Of 38 (.aQ 3 1 [.t 37])) .done .no) (.alt (Of 38 (.aQ 3 1 [.t 37])) (.alt (Of 33 (.call (C 51) [.t 32])) .done .no) .no)) (.alt (Ok 39 212 [.t 33,.t 34,.t 38]) (.op (Oz 40 27) (.op (Oa 41 0 40) (.op (Oa 42 1 41) (.alt (Ns 1 42 39) .done .no)))) .no))))))))))))))),[]⟩
def L170:aW :=⟨57,aD [Om 6 1,V6 7 1 6 0 1,Ok 9 213 [.t 8,I 1,I 99],WV 10 9 1 1 1 213 4 30,WV 16 15 1 1 2 213 0 1000,Ok 22 127 [.t 21,I 2]] (aD [bM 24 0 1,V6 26 1 25 0 1,Ok 28 214 [.t 24,.t 27],mG 23 28 29 0 30 1,bM 4 29 30] (S [Om 31 5,Oo 32 31,Ok 33 127 [.t 32,I 6]] (.jA (.op (Pm 34 0) (.op (Pm 35 0) (.op (Pz 36 35) (.op (Pa 37 0 36) (.op (Pa 38 2 37) (.op (Pm 41 4) (.op (Pm 42 1) (.op (Pj 43 1 42 0) (.op (Pm 45 1) (.op (Pj 46 1 45 1) (.op (Pm 48 1) (.op (Pj 49 1 48 2) (.op (Pl 39 38) (.op (Pl 44 43) (.op (Pl 47 46) (.op (Pl 50 49) (.op (Of 51 (.build (.agg [Z0,Z0,Z0,.bool false]) [(0,(1,(.t 44))),(1,(1,(.t 47))),(2,(1,(.t 50)))])) (.seq (.alt (Of 40 (.call (C 73) [.t 39])) (.alt (Of 52 (.aQ 62 4 [.t 51])) .done .no) (.alt (Of 52 (.aQ 62 4 [.t 51])) (.alt (Of 40 (.call (C 73) [.t 39])) .done .no) .no)) (.alt (Ok 53 215 [.t 40,.t 41,.t 52]) (.op (Oz 54 34) (.op (Oa 55 0 54) (.op (Oa 56 2 55) (.alt (Ns 1 56 53) .done .no)))) .no)))))))))))))))))))))),[]⟩
def L172:aW :=⟨62,aD [bM 8 0 1,V6 10 1 9 0 1,Ok 12 214 [.t 8,.t 11],mG 7 12 13 0 14 1,bM 4 13 14] (S [Om 15 5,Ok 16 127 [.t 15,I 7]] (aD [R0 17 0 0,bD 20 2 19 1,oC 22 4 4 21,bD 24 3 23 1,Oo 26 25,Ok 27 127 [.t 26,I 6]] (aD [bM 28 0 0,z7 30 29 0,bD 32 2 31 1,oC 34 4 4 33,EP 36 4 35 46 28,Om 6 37] (aD [ZAy 38 6 3,Ok 40 127 [.t 39,I 8]] (S [Om 41 6,O 42 (.bin false .eql (.t 41) (.c (.int .u8 (1)))),Ok 43 127 [.t 42,I 11]] (aD [bM 44 0 0,z7 46 45 0,bD 48 2 47 1,Ok 50 73 [.t 49],z7 51 44 0,Oa 53 2 52,Ns 1 53 50] (cN [R0 54 0 0,bD 57 2 56 1,oC 59 4 4 58,Oa 61 3 60,N (.store 1 (.t 61) Bt)]))))))),[]⟩
def Y178_0a:bH :=(cN [j4 11 7 47])
def Y178_0b:bH :=(.block 1 (aD [Ol 48 1 9,AX 49 7 11 48] (Cd 50 (cN [Of 56 (.fa 0 (.t 11)),Of 72 (.fa 3 (.t 11)),Of 51 (.load true 2 (.t 10)),Ll 52 1 4 2,Ql 55 1 54 57 1 56,Of 58 (.x (.look ⟨false,[.int .i64]⟩ (.agg [Z0,Z0]) false (.t 55) (.t 57))),Ll 59 1 4 0,Ll 62 1 61 0,Of 65 (.fa 0 (.t 64)),Of 66 (.load false 1 (.t 65)),Of 67 (.load false 1 (.t 5)),Of 68 (.ia 4 none (.t 66) (.t 67)),Of 69 (.fa 0 (.t 68)),Of 70 (.load false 1 (.t 69)),Ql 71 1 6 73 1 72,Of 74 (.bin false .sub (.t 71) (.t 73)),Of 75 (.bin false .mul (.t 70) (.t 74)),Of 76 (.call (C 226) [.t 58,.t 75]),Ok 77 225 [.t 51,.t 76],Ns 2 10 77]) .skip)))
noncomputable def L178:aW :=⟨79,S [Ox 4 1 0,Ox 5 1 1,Ox 6 1 2,O 8 (.alloc (.agg [Z0,Z0]))] (.seq (aD [LK 12 4 0,LK 15 14 0,Pa 18 0 17,Pl 19 18,Pl 20 5,JX 21 4 19 20 1] (Cd 23 (aD [LK 24 4 0,LK 27 26 0,Pa 30 0 29,Pl 31 30,Pl 32 5,Of 33 (.ia 4 none (.t 31) (.t 32)),Pa 34 2 33,Pt 35 2 34,Ns 2 8 35] .ret) .skip)) (S [Ol 36 1 4,O 37 (.yK 222 [.t 36] []),O 9 (.alloc .dP),Ns 1 9 37] (aD [Ok 38 224 [],TJ 10 2 38] (.seq (aD [Pm 45 3,LK 39 4 0,Pl 42 41,Pl 43 5,Pl 44 6,Ok 46 89 [.t 42,.t 43,.t 44,.t 45]] (.block 0 (.vM 79 (.t 46) (fX prog 178 0) Y178_0a Y178_0b [47]))) (S [Ot 78 2 10,Ns 2 8 78] .ret))))),[.cell 8 true 2]⟩
theorem L178_ok:fV prog 178=some L178:=by kernel_rfl
def L180:aW :=⟨9,aD [tW 3 1 1] (aD [Om 5 0,WZ 6 228 3 227 5,Oo 8 7,Om 4 8] .ret),[.tm 4]⟩
def L210:aW :=⟨57,S [Ox 1 2 0,Pe 2,OM 3 0] (aD [Q8 13 2 1 87,mG 12 14 15 0 16 1,bM 4 15 16] (.seq (.block 0 (aD [O5 18 5 0,Om 17 19] (Cd 17 (S [Om 20 5,Pe 2,Om 3 20] .ret) (aD [pY 22 4 176,Ok 24 177 [.t 23],Oo 25 24,Om 21 25] (Cd 21 (S [Pe 2,OM 3 7] .ret) .skip))))) (S [Pe 6] (.seq (aD [z6 26 4,bD 28 3 27 1,xY 30 29 0] (.block 1 (.loop (S [Ob 32 .lss 31 30] (.seq (Ce 32 1) (.seq (.block 2 (aD [xB 33 1 29 31 1,O 8 (.alloc Z0),Ns 1 8 34] (S [Ot 35 2 1,O 9 (.alloc (.agg [E0,E0])),Ns 2 9 35] (aD [bD 36 1 1 1,Ok 38 54 [.t 37],WZ 39 254 8 53 38,Oa 41 1 9,Ns 1 41 40] (aD [Q8 43 2 9 87,mG 42 44 45 0 46 1,bM 10 45 46] (aD [pY 47 10 176,Ok 49 177 [.t 48],Oo 50 49] (Cd 50 (cN [Om 51 6,Ol 52 1 8,Q9 53 3 1 52 3 1 8 51 6]) .skip))))))) (cN [pX 55 31 1 31]))))))) (aD [jZ 56 6 2,OM 3 0] .ret))))),[.tm 2,.tm 3]⟩
def L223:aW :=⟨28,S [Ox 2 2 0,Ox 3 2 1,O 4 (.alloc (.agg [Z0,Z0]))] (S [O 7 (.build (.agg [.dP]) [(0,(1,(C 269)))]),O 8 (.build (.agg [.dP]) [(0,(1,(C 270)))]),O 5 (.alloc (.agg [.dP])),O 6 (.alloc (.agg [.dP])),Ns 1 5 7,Ns 1 6 8] (S [Pa 9 0 5,Pa 13 0 5,Pa 18 0 6,Pa 22 0 6,Pl 10 9,Pt 11 2 2,Pl 14 13,Pt 15 2 3,Pl 19 18,Pt 20 2 2,Pl 23 22,Pt 24 2 3,Of 12 (.call (.t 10) [.t 11]),Of 16 (.call (.t 14) [.t 15]),Of 17 (.bin false .add (.t 12) (.t 16)),Of 21 (.call (.t 19) [.t 20]),O 25 (.call (.t 23) [.t 24]),Ob 26 .add 21 25,O 27 (.build (.agg [Z0,Z0]) [(0,(1,(.t 17))),(1,(1,(.t 26)))]),Ns 2 4 27] .ret)),[.cell 4 true 2]⟩
def L224:aW :=⟨2,S [O 0 (.alloc (.agg [Z0,Z0]))] (S [O 1 (.build (.agg [Z0,Z0]) [(0,(1,(I (-1099511627776)))),(1,(1,(I 1099511627776)))]),Ns 2 0 1] .ret),[.cell 0 true 2]⟩
def L226:aW :=⟨11,S [Ox 2 2 0,O 4 (.alloc (.agg [Z0,Z0]))] (S [Ot 5 2 2,Om 6 1,O 7 (.neg (.t 6)),Om 8 1,O 9 (.build (.agg [Z0,Z0]) [(0,(1,(.t 7))),(1,(1,(.t 8)))]),Ok 10 223 [.t 5,.t 9],Ns 2 4 10] .ret),[.cell 4 true 2]⟩
def L228:aW :=⟨8,aD [tW 2 3 0] (aD [Ol 4 1 1,AX 5 3 2 4,Oo 7 6,Om 3 7] .ret),[.tm 3]⟩
def L248:aW :=⟨15,S [Pf 6] (aD [bM 7 0 1,Ob 9 .geq 7 8,TI 10 9 0 2 6] .ret),[.tm 6]⟩
def L249:aW :=⟨6,S [Pf 2] (aD [bM 3 0 0,Ob 5 .neq 3 4,Om 2 5] .ret),[.tm 2]⟩
def L269:aW :=⟨5,S [Ox 1 2 0,OM 2 0] (aD [bD 3 0 1 1,Om 2 4] .ret),[.tm 2]⟩
def L296:aW :=⟨10,S [Ox 2 2 0,Pf 3] (aD [Ol 4 1 1,bD 5 0 2 1,bD 7 1 2 1,Ok 9 145 [.t 4,.t 6,.t 8],Om 3 9] .ret),[.tm 3]⟩
end
noncomputable section
def L3:aW :=⟨41,S [Pf 2] (.seq (aD [pY 6 0 4,Oo 8 7] (Cd 8 (S [Ok 9 5 [],Om 2 9] .ret) .skip)) (aD [pY 11 0 7,Ok 13 6 [.t 12],mG 10 13 14 0 15 1,bM 3 14 15] (.seq (aD [pY 16 0 8,Om 5 17] (aD [O5 18 5 0] (Cd 19 (aD [bM 20 4 5,Ob 22 .eql 20 21,qK 23 22 3,G 25 23 true (.x (.eqv false ⟨false,[.str]⟩ (.t 24) (.c (.str ⟨#[]⟩)))),Pp 26 23 25,Om 27 26,G 28 27 true (.call (C 5) []),Pp 29 27 28,Om 2 29] .ret) .skip))) (aD [LJ 30 4 0,qK 32 31 3,Pn 34 32 0,G 35 32 true (.call (C 9) [.t 34]),G 36 32 true (.x (.eqv false ⟨false,[.str]⟩ (.t 33) (.t 35))),Pp 37 32 36,Om 38 37,G 39 38 true (.call (C 5) []),Pp 40 38 39,Om 2 40] .ret)))),[.tm 2]⟩
def L7:aW :=⟨6,S [Pe 2] (S [O 3 (.aQ 9 1 []),Om 4 0,O 5 (.iR 9 1 16 (.t 3) (.t 4)),Om 2 5] .ret),[.tm 2]⟩
def L15:aW :=⟨13,S [OM 2 0] (S [O 3 (.dU (C 41))] (.seq (aD [pH 4 0,Oc 6 .gtr 5 50,ZA 7 6 0,G 9 7 false (M 3),G 10 7 false (.call (C 42) [.t 8,.t 9]),V5 11 7 10 7] (Cd 12 (S [OM 2 3] .ret) .skip)) (S [OM 2 0] .ret))),[.tm 2]⟩
def L16:aW :=⟨25,S [O 2 (.dU (.c .eX)),Pe 3] (S [O 8 (.build (.agg [E0,E0,E0,E0,E0]) []),Ox 9 5 8,Om 4 9] (S [Pe 5] (.seq (aD [pH 10 0,OM 12 0] (.block 0 (.loop (S [Ob 13 .lss 12 11] (.seq (Ce 13 0) (.seq (.block 1 (aD [xB 14 1 10 12 1,Om 7 15] (cN [bM 16 5 4,yZ 18 7 43 17,Q9 20 25 1 19 25 1 8 16 5]))) (cN [pX 22 12 1 12]))))))) (aD [bM 23 4 5,bM 2 23 24] .ret)))),[.tm 2,.tm 3]⟩
def L17:aW :=⟨6,.region [Om 3 0,O 4 (.x (.fT (.t 3) (.c (.str ⟨#[10]⟩)))),Ok 5 18 [.t 1,.t 4]],[]⟩
def L23:aW :=⟨43,S [Ox 1 2 0,Pe 2,OM 3 0,OM 4 0] (.seq (aD [Q8 10 2 1 60,Om 5 11] (aD [O5 12 5 0] (Cd 13 (S [Om 14 5,Pe 2,OM 3 0,Om 4 14] .ret) .skip))) (aD [Q8 16 2 1 61,mG 15 17 18 0 19 1,bM 6 18 19] (.seq (S [Om 20 7,Oo 21 20] (Cd 21 (S [Pe 2,OM 3 0,OM 4 9] .ret) .skip)) (.seq (aD [z6 22 6,bD 24 2 23 1,xY 26 25 0] (.block 0 (.loop (S [Ob 28 .lss 27 26] (.seq (Ce 28 0) (.seq (.block 1 (aD [Fq 29 4 25 27 4 9,Ns 4 9 30] (cN [Om 31 2,bD 32 0 1 1,On 34 33,O 35 (.x (.FL 4 (.t 9) (.t 34))),Ok 36 51 [.t 35],Q9 37 32 1 36 32 1 24 31 2]))) (cN [pX 39 27 1 27]))))))) (aD [bM 40 2 2,On 42 41,bM 2 40 42,OM 4 0] .ret))))),[.tm 2,.tm 3,.tm 4]⟩
def L24:aW :=⟨10,S [O 2 (.alloc (.agg [E0,E0]))] (aD [zA 4 0 0,ZAa 7 4 6 3 62 0 1 3 1 1,Ns 2 2 9] .ret),[.cell 2 true 2]⟩
def L29:aW :=⟨66,S [Ox 2 5 0,Ox 3 4 1,OM 4 0,OM 5 0] (S [Pe 6] (.seq (S [OM 7 0] (.block 0 (.loop (.seq (aD [Om 11 7,bD 12 3 2 1,oD 14 13 11] (Ce 15 0)) (.seq (.block 1 (.seq (aD [Pa 18 3 2,Pm 20 7,Pa 24 0 3,Pl 19 18,JX 21 4 19 20 0,Pl 25 24,Of 26 (.bin false .neq (.t 23) (.t 25)),ZAe 27 26 29 3 2 31 7 5 2 30 1 29 32 4 30 31 33 4 32,G 34 27 false (.call (C 28) [.t 28,.t 33]),V5 35 27 34 27] (Cd 36 (.exit 1) .skip)) (aD [Pm 37 6,Pa 39 3 2,Pm 41 7,Pa 44 2 3,Pt 38 5 2,TN 40 39 42 4 41,Pt 43 4 42,Pl 45 44,Ok 46 65 [.t 38,.t 43,.t 45],Oo 47 46,Q9 48 4 1 47 4 1 1 37 6] (aD [bD 51 1 3 1,Ok 53 67 [.t 52],yZ 54 6 66 53,mG 50 55 56 0 57 1,Oe 58 50 2,bM 8 56 57,Om 10 58] (aD [O5 59 8 3] (Cd 60 (aD [bM 61 8 6,On 63 62,bM 4 61 63] .ret) .skip)))))) (cN [iK 16 7 1 7])))))) (aD [pH 64 6,OM 4 3,Om 5 65] .ret))),[.tm 4,.tm 5]⟩
def L35:aW :=⟨8,S [O 2 (.alloc (.agg [E0,E0]))] (S [O 3 (.build (.agg [Z0,Z0]) [(0,(1,(I 10))),(1,(1,(I 13)))]),Pb 4 166 2 3,O 5 (.aQ 167 1 [.t 4,.c E0]),Om 6 0,O 7 (.build (.agg [E0,E0]) [(0,(1,(.t 5))),(1,(1,(.t 6)))]),Ns 2 2 7] .ret),[.cell 2 true 2]⟩
def L41:aW :=⟨6,S [Pf 2] (aD [Jd 3 0,Oc 5 .leq 4 200,Om 2 5] .ret),[.tm 2]⟩
def L47:aW :=⟨13,aD [tW 3 4 1] (aD [bD 5 3 3 1,qK 7 6 0,ZAz 9 7 4 3 7 46 8,G 11 7 true (.bin false .neq (.t 10) (.c (.int .u8 (1)))),Pp 12 7 11,Om 4 12] .ret),[.tm 4]⟩
def L48:aW :=⟨48,aD [Ox 2 2 0,YY 4 0] (aD [Q8 11 2 2 87,mG 10 12 13 0 14 1,bM 6 13 14] (.seq (aD [O5 15 7 0] (Cd 16 (S [Om 17 7,O 4 (.dU (.c .eX)),Om 5 17] .ret) .skip)) (.seq (aD [pH 18 1,OM 20 0] (.block 0 (.loop (S [Ob 21 .lss 20 19] (.seq (Ce 21 0) (.seq (.block 1 (aD [Om 22 20,xB 23 1 18 20 1,bM 8 22 24] (.seq (aD [pY 25 9 88,Oo 27 26,ZA 28 27 8,G 30 28 false (.bin false .gtr (.t 29) (I 0)),G 31 28 false (M 30),Pn 32 31 9,Pn 33 31 1,Pn 34 31 8,G 35 31 true (.bin false .sub (.t 34) (I 1)),G 36 31 true (.ia 1 none (.t 33) (.t 35)),Pg 37 31 36,G 38 31 true (.bin false .leq (.t 32) (.t 37)),WX 39 28 31 38 28] (Cd 40 (aD [YY 4 2] .ret) .skip)) (cN [bM 41 6 9,z7 43 41 4,O 45 (.ia 1 (some 1000) (.t 44) (.t 42)),N (.store 1 (.t 45) Bt)])))) (cN [pX 46 20 1 20]))))))) (aD [jZ 47 6 4,OM 5 0] .ret)))),[.tm 4,.tm 5]⟩
def L51:aW :=⟨8,S [Pe 2] (.seq (S [Om 3 0,O 4 (.yJ .sl false (.t 3))] (Cd 4 (S [Pe 2] .ret) .skip)) (S [O 5 (.aQ 3 1 []),Om 6 0,O 7 (.iR 3 1 8 (.t 5) (.t 6)),Om 2 7] .ret)),[.tm 2]⟩
def L52:aW :=⟨8,S [Pf 3] (S [Ol 4 1 1,Om 5 0,O 6 (.x (.look ⟨false,[.int .i64]⟩ (.bool false) false (.t 4) (.t 5))),Oo 7 6,Om 3 7] .ret),[.tm 3]⟩
def L62:aW :=⟨4,S [Pe 0] (S [O 1 (.build (.agg [Z0,Z0]) [(0,(1,(I 10))),(1,(1,(I 13)))]),Pb 2 204 2 1,O 3 (.aQ 201 1 [.t 2,.c E0]),Om 0 3] .ret),[.tm 0]⟩
@[simp] def L65a:LT:=.alt (Ok 19 114 [.t 12,.t 14,.t 16,.t 18,I 1000]) (.op (Of 20 (.NX false 0 1 (.t 19))) .done) .no
def L65:aW :=⟨24,S [Ox 3 5 0,Ox 4 4 1,Pf 6] (aD [Q8 8 5 3 33,O 7 (.alloc (.agg [E0,E0])),Ns 2 7 9] (.seq (.jA (.op (Pa 10 3 4) (.op (Pa 15 1 4) (.op (Pa 17 2 4) (.op (Pm 22 2) (.op (Pt 12 2 7) (.op (Pt 13 2 7) (.op (Pl 16 15) (.op (Pl 18 17) (.seq (.alt (Pl 11 10) (.alt (Of 14 (.call (C 115) [.t 13])) L65a .no) (.alt (Of 14 (.call (C 115) [.t 13])) (.alt (Pl 11 10) L65a (.alt (Ok 19 114 [.t 12,.t 14,.t 16,.t 18,I 1000]) (.op (Of 20 (.NX false 0 1 (.t 19))) (.op (Pl 11 10) .done)) .no)) .no)) (.op (Ob 21 .add 11 20) (.op (Ob 23 .geq 21 22) (.op (Om 6 23) .done))))))))))))) .ret)),[.tm 6]⟩
def L68:aW :=⟨53,S [Ox 4 2 0,Ox 5 7 1,Pf 8] (aD [bD 11 0 4 1,bD 13 2 5 1,Oi 15 4 12 14,bD 16 1 15 1,Om 9 17] (.seq (S [OM 10 0] (.block 0 (.loop (.seq (aD [Om 18 10,bD 19 1 4 1,oD 21 20 18] (Ce 22 0)) (.seq (.block 1 (cN [Pm 25 9,ZAe 26 25 28 1 4 30 10 7 5 29 1 28 31 7 29 30 32 7 31,Gf 33 26 false (.call (C 116) [.t 27,.t 32]),Gf 34 26 false (M 33),Gf 35 34 true (M 3),Gf 36 34 true (.fa 1 (.t 4)),Gf 38 34 true (M 10),Je 37 34 36 39 34 7 38,Gf 40 34 true (.fa 0 (.t 39)),Pi 41 34 40,G 42 34 true (.call (C 70) [.t 35,.t 41]),WX 43 26 34 42 26,Om 9 44])) (cN [iK 23 10 1 10])))))) (aD [Om 45 9,qK 46 45 2,F9 48 46 0 5 46,G 50 46 true (.call (C 70) [.t 47,.t 49]),JZ 51 46 50 46,Om 8 52] .ret))),[.tm 8]⟩
def Y77_0a:bH :=(cN [j4 17 7 72])
def Y77_0b:bH :=(.block 4 (.seq (.jA (.op (Of 74 (.fa 0 (.t 17))) (.op (Of 73 (.load false 1 (.t 12))) (.op (Of 75 (.load false 1 (.t 74))) (.op (Of 76 (.x (.look ⟨false,[.int .i64]⟩ E0 false (.t 73) (.t 75)))) (.op (Of 78 (.load false 1 (.t 14))) (.seq (.alt (Of 77 (.call (C 51) [.t 76])) (.alt (Of 79 (.aQ 3 1 [.t 78])) .done .no) (.alt (Of 79 (.aQ 3 1 [.t 78])) (.alt (Of 77 (.call (C 51) [.t 76])) .done .no) .no)) (.alt (O 80 (.app 3 1 8 (.t 77) (.t 79))) (.op (Om 18 80) .done) .no)))))))) (aD [Ol 81 1 11,AX 82 7 17 81,Om 84 83,ZzI 85 84 1 16 84 84 18 1 16 122 0 84,O 93 (.pick (.t 84) (.t 92) Bf)] (Cd 93 (.region [Om 94 18,Ns 1 16 94]) .skip))))
def Y77_1a:bH :=(cN [j4 20 7 115])
def Y77_1b:bH :=(.block 6 (aD [Ol 116 1 12,bD 117 0 20 1,O 119 (.x (.look ⟨false,[.int .i64]⟩ E0 false (.t 116) (.t 118))),Om 21 119] (aD [Ol 120 1 11,AX 121 7 20 120,Om 123 122,ZzI 124 123 1 19 123 123 21 1 19 122 0 123,O 132 (.pick (.t 123) (.t 131) Bf)] (Cd 132 (.region [Om 133 21,Ns 1 19 133]) .skip))))
noncomputable def L77:aW :=⟨136,S [Ox 3 2 0,Pe 6,OM 7 0] (aD [Ot 23 2 3,bM 24 1 2,Ok 26 120 [.t 23,.t 24,.t 25],mG 22 26 27 0 28 1,Oe 29 22 2,O 9 (.alloc .cV),Om 8 27,Ns 1 9 28,Om 10 29] (.seq (.block 0 (aD [O5 31 10 0,Om 30 32] (Cd 30 (S [Om 33 10,Pe 6,Om 7 33] .ret) (aD [R0 35 8 0,bD 38 0 37 1,oC 40 1 4 39,bD 42 1 41 1,Om 34 43] (Cd 34 (S [Pe 6,OM 7 0] .ret) .skip))))) (S [O 44 (.yK 121 [] [.t 9]),O 11 (.alloc .dP),Ns 1 11 44] (S [O 45 (.x .G7),O 12 (.alloc .cV),Ns 1 12 45] (.seq (aD [z6 46 8,bD 48 3 47 1,xY 50 49 0] (.block 1 (.loop (S [Ob 52 .lss 51 50] (.seq (Ce 52 1) (.seq (.block 2 (aD [xB 53 1 49 51 1,O 14 (.alloc Z0),Ns 1 14 54] (aD [zA 55 8 2,Pl 58 57,Zz8 59 14 58 15,Ns 7 15 60] (.seq (aD [Ol 61 1 11,AX 62 7 15 61,Oo 64 63] (Cd 64 (.exit 2) .skip)) (S [O 16 (.alloc E0)] (.seq (aD [Om 65 8,bD 66 2 15 1,bD 68 3 15 1,Ol 70 1 14,Ok 71 89 [.t 65,.t 67,.t 69,.t 70]] (.block 3 (.vM 136 (.t 71) (fX prog 77 0) Y77_0a Y77_0b [72]))) (.seq (aD [zA 95 8 0,Pa 98 0 97,Pa 100 2 15,nF 99 98 101 100,JX 102 4 99 101 1] (Cd 104 (.region [Ol 105 1 14,Pb 106 3 1 105,Ns 1 16 106]) .skip)) (.region [Ol 107 1 12,Ol 108 1 14,Ol 109 1 16,N (.x (.iQ ⟨false,[.int .i64]⟩ (.t 107) (.t 108) (.t 109)))])))))))) (cN [pX 110 51 1 51]))))))) (S [O 19 (.alloc E0)] (.seq (aD [bM 111 8 1,Om 113 2,Ok 114 89 [.t 111,.t 112,.t 113,I 1000]] (.block 5 (.vM 136 (.t 114) (fX prog 77 1) Y77_1a Y77_1b [115]))) (S [Ol 134 1 19,Ok 135 51 [.t 134],Om 6 135,OM 7 0] .ret)))))))),[.tm 6,.tm 7]⟩
theorem L77_ok:fV prog 77=some L77:=by kernel_rfl
def L78:aW :=⟨47,S [O 4 (.dU (.c (.str ⟨#[]⟩)))] (S [Om 8 1,Oc 9 .add 8 1,O 10 (.bin false .mul (I 11) (.t 9)),Om 5 10] (.seq (aD [Om 11 0,O 12 (.x (.BS 5 (.t 11))),xY 13 12 0] (.block 0 (.loop (S [Ob 15 .lss 14 13] (.seq (Ce 15 0) (.seq (.block 1 (aD [Om 16 14,xB 17 1 12 14 1,bM 6 16 18] (cN [bM 19 5 6,Oc 21 .add 20 1,Om 22 7,O 23 (.conv .i64 (.t 22)),Oc 24 .add 23 1,Ob 25 .mul 21 24,FG 26 19 25 5]))) (cN [pX 27 14 1 14]))))))) (aD [Jd 28 0,Ok 30 123 [.t 29,I 3],O 31 (.x (.fT (.c (.str ⟨#[123]⟩)) (.t 30))),O 32 (.x (.fT (.t 31) (.c (.str ⟨#[58]⟩)))),Jd 33 0,O 35 (.bin false .sub (I 999) (.t 34)),Ok 36 123 [.t 35,I 3],O 37 (.x (.fT (.t 32) (.t 36))),O 38 (.x (.fT (.t 37) (.c (.str ⟨#[58]⟩)))),Om 39 5,Oc 40 .rem 39 99991,Ok 41 123 [.t 40,I 5],O 42 (.x (.fT (.t 38) (.t 41))),O 43 (.x (.fT (.t 42) (.c (.str ⟨#[125]⟩)))),Om 44 0,O 45 (.x (.fT (.t 43) (.t 44))),O 46 (.x (.fT (.t 45) (.c (.str ⟨#[10]⟩)))),Om 4 46] .ret))),[.tm 4]⟩
def L91:aW :=⟨19,S [OM 4 0] (.seq (aD [pH 6 0,OM 8 0] (.block 0 (.loop (S [Ob 9 .lss 8 7] (.seq (Ce 9 0) (.seq (.block 1 (aD [jZ 10 8 5] (aD [bM 11 1 0,oC 13 5 7 12,AX 15 7 14 11] (Cd 16 (aD [jZ 17 5 4] .ret) .skip)))) (cN [pX 18 8 1 8]))))))) (S [OM 4 (-1)] .ret)),[.tm 4]⟩
theorem L91_ok:fV prog 91=some L91:=by kernel_rfl
def L92:aW :=⟨19,S [OM 4 0] (.seq (aD [pH 6 0,OM 8 0] (.block 0 (.loop (S [Ob 9 .lss 8 7] (.seq (Ce 9 0) (.seq (.block 1 (aD [jZ 10 8 5] (aD [bM 11 1 0,oC 13 5 1 12,Ol 15 1 14,Ob 16 .eql 11 15] (Cd 16 (aD [jZ 17 5 4] .ret) .skip)))) (cN [pX 18 8 1 8]))))))) (S [OM 4 (-1)] .ret)),[.tm 4]⟩
def L96:aW :=⟨5,S [Pf 2] (S [Om 3 0,Ok 4 97 [.t 3,C 98],Om 2 4] .ret),[.tm 2]⟩
def L104:aW :=⟨9,S [O 0 (.alloc (.agg [Z0,Z0,Z0,Z0]))] (.seq (S [OM 2 0] (.block 0 (.loop (S [Oc 3 .lss 2 4] (.seq (Ce 3 0) (.seq (.block 1 (aD [jZ 4 2 1] (.region [Om 5 1,O 6 (.ia 1 (some 4) (.t 0) (.t 5)),N (.store 1 (.t 6) (I (-1)))]))) (cN [pX 7 2 1 2]))))))) (S [Ot 8 4 0,Ns 4 0 8] .ret)),[.cell 0 true 4]⟩
def L108:aW :=⟨64,aD [Ox 2 5 0,TK 4 0] (.seq (aD [Ot 8 5 2,yZ 9 1 155 8,Oo 11 10] (Cd 11 (aD [uP 12 5 2 5 4 5 7] .ret) .skip)) (.seq (aD [bD 13 1 2 1,yZ 15 1 70 14] (Cd 16 (aD [uP 17 5 2 5 4 5 6] .ret) .skip)) (aD [Ot 18 5 2,OI 6 5 18] (S [Oa 19 1 6,N (.store 1 (.t 19) (.c E0))] (.seq (S [OM 7 0] (.block 0 (.loop (.seq (aD [Om 20 7,bD 21 1 2 1,oD 23 22 20,F8 25 24 1 2,Qr 28 25 7 25 1 27,Pg 30 25 29,Pn 31 25 1,Qo 32 25 30 31 25] (Ce 33 0)) (.seq (.block 1 (cN [Pa 36 1 6,Pa 38 1 2,Pm 40 7,Pl 37 36,TN 39 38 41 1 40,Pl 42 41,YX 43 3 1 42 3 1 8 37,Oa 45 1 6,Ns 1 45 44])) (cN [iK 34 7 1 7])))))) (aD [bD 46 1 6 1,Om 48 1,Pb 49 3 1 48,Py 50 3 1 8 47 49,Oa 51 1 6,Ns 1 51 50] (aD [Pa 52 1 6,Pa 54 1 2,Pa 56 1 6,nF 53 52 55 54,OG 57 56,Of 59 (.bin false .sub (.t 58) (I 1)),Of 60 (.J4 1 none (.t 55) (some (.t 59)) none none),Py 61 3 1 8 53 60,Oa 62 1 6,Ns 1 62 61] (aD [uP 63 5 6 5 4 5 0] .ret)))))))),[.cell 4 true 5,.tm 5]⟩
def L114:aW :=⟨95,S [Ox 5 2 0,O 10 (.alloc (.agg [Z0,Z0]))] (aD [bD 17 0 5 1,oC 19 2 4 18,Ot 21 4 20,O 11 (.alloc (.agg [Z0,.bool false,Z0,Z0])),Ns 4 11 21] (.seq (aD [bD 22 1 11 1] (Cd 23 (S [Oa 24 2 11,Ot 25 2 24,Ns 2 10 25] .ret) .skip)) (aD [O 26 (.build (.agg [Z0,Z0]) [(0,(1,(I (-1099511627776)))),(1,(1,(I 1099511627776)))]),TJ 12 2 26] (.seq (S [OM 13 0] (.block 0 (.loop (.seq (aD [Om 27 13,bD 28 1 5 1,oD 30 29 27] (Ce 31 0)) (.seq (.block 1 (aD [bD 34 1 5 1,oC 36 13 7 35,Ot 38 7 37,j4 14 7 38] (.seq (aD [Pa 39 1 14,Pm 41 2,Pl 40 39,Of 42 (.bin false .neq (.t 40) (.t 41)),Pm 43 42,Gf 44 43 false (.fa 0 (.t 14)),Gf 46 43 false (M 4),Gf 45 43 false (.load false 1 (.t 44)),Gf 47 43 false (.bin false .geq (.t 45) (.t 46)),Of 48 (.pick (.t 43) Bt (.t 47)),Pm 49 48,Gf 51 49 false (M 3),Gf 50 49 false (.load true 7 (.t 14)),Gf 52 49 false (.call (C 113) [.t 50,.t 51]),Gf 53 49 false (.not (.t 52)),Of 54 (.pick (.t 49) Bt (.t 53)),Pm 55 54,Gf 56 55 false (M 1),Gf 57 55 false (.vW (.t 56)),Gf 58 55 false (.fa 2000 (.t 57)),Gf 60 55 false (.fa 0 (.t 14)),Gf 59 55 false (.load false 1 (.t 58)),Gf 61 55 false (.load false 1 (.t 60)),G 62 55 false (.call (C 70) [.t 59,.t 61]),V5 63 55 62 55] (Cd 64 (.exit 1) .skip)) (aD [bD 65 0 11 1,Om 67 3,bD 68 3 14 1,Ob 70 .sub 67 69,Ob 71 .mul 66 70,Om 15 71] (S [Pm 72 1,Pa 73 0 14,Pz 75 72,Pa 76 0 75,Pl 74 73,Of 77 (.ia 2 (some 1000) (.t 76) (.t 74)),Pt 78 2 77,Of 16 (.alloc (.agg [Z0,Z0])),Ns 2 16 78] (cN [bD 79 0 12 1,bD 81 0 16 1,Om 83 15,Ob 84 .sub 82 83,O 85 (.jC true (.t 80) (.t 84)),bD 86 1 12 1,bD 88 1 16 1,Om 90 15,Ob 91 .add 89 90,O 92 (.jC false (.t 87) (.t 91)),O 93 (.build (.agg [Z0,Z0]) [(0,(1,(.t 85))),(1,(1,(.t 92)))]),Ns 2 12 93])))))) (cN [iK 32 13 1 13])))))) (S [Ot 94 2 12,Ns 2 10 94] .ret))))),[.cell 10 true 2]⟩
def L116:aW :=⟨23,aD [Ox 2 7 0,tW 3 7 1] (aD [bD 5 1 3 1,bD 7 2 2 1,Ob 9 .eql 6 8,F8 10 9 0 3,F9 13 10 0 2 10,Qo 15 10 12 14 10,OH 17 16 7 3,F9 19 17 3 2 17,GF 21 17 113 18 20 17,Om 4 22] .ret),[.tm 4]⟩
def L117:aW :=⟨18,S [Ox 1 2 0,Pe 2] (S [Pe 3] (.seq (S [OM 4 1] (.block 0 (.loop (.seq (aD [Om 5 4,bD 6 1 1 1,On 8 7,Ob 9 .leq 5 8] (Ce 9 0)) (.seq (.block 1 (.region [Om 12 3,Ot 13 2 1,Om 14 4,Ok 15 161 [.t 13,.c E0,I 0,.t 14],Py 16 32 1 24 12 15,Om 3 16])) (cN [iK 10 4 1 4])))))) (aD [jZ 17 3 2] .ret))),[.tm 2]⟩
def L118:aW :=⟨25,S [Ox 2 2 0,OM 4 0] (S [OM 5 0] (.seq (S [OM 6 0] (.block 0 (.loop (.seq (aD [bM 7 6 1,oD 9 8 7] (Ce 10 0)) (.seq (.block 1 (cN [Pm 13 5,Pa 14 1 2,TM 16 1 6 1,nF 15 14 19 18,JX 20 3 15 19 0,FG 23 13 22 5])) (cN [iK 11 6 1 6])))))) (aD [jZ 24 5 4] .ret))),[.tm 4]⟩
def L127:aW :=⟨9,S [Om 4 0,Oo 5 4] (Cd 5 (.region [Om 6 1,O 7 (.build (.agg [Z0]) [(0,(1,(.t 6)))]),O 8 (.x (.sN 177 (.t 7))),N (.x (.B8 (.t 8)))]) .skip),[]⟩
theorem L127_ok:fV prog 127=some L127:=by kernel_rfl
def L129:aW :=⟨33,S [Ox 3 2 0,O 6 (.alloc (.agg [Z0,Z0])),OM 7 0] (aD [Ot 13 2 3,bM 14 1 2,Ok 16 120 [.t 13,.t 14,.t 15],mG 12 16 17 0 18 1,Oe 19 12 2,bM 8 17 18,Om 10 19] (.seq (aD [O5 20 10 0] (Cd 21 (S [O 22 (.build (.agg [Z0,Z0]) []),Om 23 10,Ns 2 6 22,Om 7 23] .ret) .skip)) (aD [pY 24 8 176,Om 11 25] (.seq (aD [pY 26 11 177] (Cd 27 (S [O 28 (.build (.agg [Z0,Z0]) []),Ns 2 6 28,OM 7 9] .ret) .skip)) (aD [bM 29 11 1,Om 31 2,Ok 32 178 [.t 29,.t 30,.t 31,I 1000],Ns 2 6 32,OM 7 0] .ret))))),[.cell 6 true 2,.tm 7]⟩
def L133:aW :=⟨21,aD [tW 1 4 0] (aD [bD 3 0 1 1,Ok 5 137 [.t 4,I 0,I 100],Om 6 5,Ph 7 6 2 1,G 8 6 true (.load true 2 (.t 7)),TO 9 6 184 8 6,F8 11 10 1 1,Pn 14 11 13,G 15 14 false (.fa 2 (.t 1)),G 16 14 false (.load true 2 (.t 15)),G 17 14 false (.build (.agg [Z0,Z0]) []),G 18 14 false (.x (.eqv false ⟨true,[.int .i64,.int .i64]⟩ (.t 16) (.t 17))),G 19 11 true (.pick (.t 14) Bt (.t 18)),Pp 20 11 19,Om 2 20] .ret),[.tm 2]⟩
def L136:aW :=⟨11,aD [pH 3 0,Om 2 4] (cN [bM 5 0 2,Om 7 2,O 8 (.conv .u64 (.t 7)),Ok 9 187 [.t 8],Ok 10 186 [.t 5,I 0,.t 6,.t 9]]),[]⟩
def L143:aW :=⟨8,S [Ox 2 2 0,Pf 3] (aD [Ol 4 1 1,AX 5 2 2 4,Oo 7 6,Om 3 7] .ret),[.tm 3]⟩
def L144:aW :=⟨5,S [Pf 2] (S [Om 3 0,Ok 4 145 [.t 3,I 0,I 39],Om 2 4] .ret),[.tm 2]⟩
def L154:aW :=⟨65,S [OM 2 0,Pf 3] (S [Pf 4,OM 5 0] (.seq (aD [Jd 7 0,Oc 9 .gtr 8 0,qK 10 9 0,G 12 10 true (.x (.B3 (.t 11) (I 0))),G 13 10 true (.bin false .eql (.t 12) (.c (.int .u8 (45)))),Pp 14 10 13] (Cd 14 (.region [O 4 (.dU Bt),OM 5 1]) .skip)) (.seq (aD [Jd 15 0,Om 17 5,Ob 18 .eql 16 17,ZA 19 18 0,G 21 19 false (.x (.rP (.t 20))),G 22 19 false (M 5),G 23 19 false (.bin false .sub (.t 21) (.t 22)),G 24 19 false (.bin false .gtr (.t 23) (I 9)),Pq 25 19 24,Yi 26 25 0 5,G 30 26 false (.bin false .eql (.t 29) (.c (.int .u8 (48)))),G 31 26 false (M 30),Pn 32 31 0,G 33 31 true (.x (.rP (.t 32))),G 34 31 true (.bin false .gtr (.t 33) (I 1)),WX 35 26 31 34 26] (Cd 36 (S [OM 2 0,Pf 3] .ret) .skip)) (S [OM 6 0] (.seq (.block 0 (.loop (.seq (aD [bM 37 5 0,O 39 (.x (.rP (.t 38))),Ob 40 .lss 37 39] (Ce 40 0)) (.seq (.block 1 (.seq (aD [bM 43 0 5,O 45 (.x (.B3 (.t 43) (.t 44))),O 46 (.bin false .lss (.t 45) (.c (.int .u8 (48)))),Yi 47 46 0 5,G 51 47 false (.bin false .gtr (.t 50) (.c (.int .u8 (57)))),Pq 52 47 51] (Cd 52 (S [OM 2 0,Pf 3] .ret) .skip)) (cN [Om 53 6,O 54 (.bin false .mul (I 10) (.t 53)),bM 55 0 5,O 57 (.x (.B3 (.t 55) (.t 56))),O 58 (.bin false .sub (.t 57) (.c (.int .u8 (48)))),O 59 (.conv .i64 (.t 58)),FG 60 54 59 6]))) (cN [iK 41 5 1 5]))))) (.seq (S [Om 61 4] (Cd 61 (.region [Om 62 6,O 63 (.neg (.t 62)),Om 6 63]) .skip)) (aD [jZ 64 6 2,O 3 (.dU Bt)] .ret))))))),[.tm 2,.tm 3]⟩
@[simp] def L161a:LT:=.alt (Of 32 (.app 3 1 8 (.t 29) (.t 31))) .done .no
@[simp] def L161b:LT:=.alt (Pt 26 2 4) (.alt (Of 29 (.iR 3 1 8 (.t 27) (.t 28))) L161a .no) (.alt (Of 29 (.iR 3 1 8 (.t 27) (.t 28))) (.alt (Pt 26 2 4) L161a (.alt (Of 32 (.app 3 1 8 (.t 29) (.t 31))) (.op (Pt 26 2 4) .done) .no)) .no)
@[simp] def L161c:LT:=.alt (Of 29 (.iR 3 1 8 (.t 27) (.t 28))) (.alt (Of 31 (.aQ 3 1 [.t 30])) L161a .no) (.alt (Of 31 (.aQ 3 1 [.t 30])) (.alt (Of 29 (.iR 3 1 8 (.t 27) (.t 28))) L161a .no) .no)
@[simp] def L161d:LT:=.alt (Of 27 (.aQ 3 1 [])) (.alt (Of 29 (.iR 3 1 8 (.t 27) (.t 28))) L161a .no) .no
def L161:aW :=⟨40,S [Ox 4 2 0,Pe 8] (.seq (aD [LJ 11 3 0] (Cd 12 (S [O 13 (.aQ 3 1 []),Om 14 1,O 15 (.iR 3 1 8 (.t 13) (.t 14)),Pb 16 32 1 15,Om 8 16] .ret) .skip)) (S [Pe 9] (.seq (aD [jZ 17 2 10] (.block 0 (.loop (.seq (aD [Om 18 10,bD 19 1 4 1,oD 21 20 18] (Ce 22 0)) (.seq (.block 1 (.jA (.op (Pm 25 9) (.op (Pm 28 1) (.op (Pm 30 10) (.op (Pm 33 10) (.op (Of 34 (.bin false .add (.t 33) (I 1))) (.op (Pm 35 3) (.op (Of 36 (.bin false .sub (.t 35) (I 1))) (.seq (.alt (Pt 26 2 4) (.alt (Of 27 (.aQ 3 1 [])) L161c (.alt (Of 31 (.aQ 3 1 [.t 30])) L161d .no)) (.alt (Of 27 (.aQ 3 1 [])) (.alt (Pt 26 2 4) L161c (.alt (Of 29 (.iR 3 1 8 (.t 27) (.t 28))) (.alt (Pt 26 2 4) (.alt (Of 31 (.aQ 3 1 [.t 30])) L161a .no) (.alt (Of 31 (.aQ 3 1 [.t 30])) (.alt (Pt 26 2 4) L161a (.alt (Of 32 (.app 3 1 8 (.t 29) (.t 31))) (.op (Pt 26 2 4) .done) .no)) .no)) (.alt (Of 31 (.aQ 3 1 [.t 30])) L161b .no))) (.alt (Of 31 (.aQ 3 1 [.t 30])) (.alt (Pt 26 2 4) L161d (.alt (Of 27 (.aQ 3 1 [])) L161b .no)) .no))) (.alt (Ok 37 161 [.t 26,.t 32,.t 34,.t 36]) (.alt (Py 38 32 1 24 25 37) (.op (Om 9 38) .done) .no) .no))))))))))) (cN [iK 23 10 1 10])))))) (aD [jZ 39 9 8] .ret)))),[.tm 8]⟩
def L162:aW :=⟨72,S [Ox 5 2 0,OM 10 0] (.seq (aD [Om 13 3,bD 14 0 5 1,On 16 15,Ob 17 .eql 13 16] (Cd 17 (S [OM 10 0] .ret) .skip)) (aD [Ot 18 2 5,bM 19 1 2,Om 21 3,Oc 22 .add 21 1,Om 23 4,Ok 24 162 [.t 18,.t 19,.t 20,.t 22,.t 23],Om 11 24] (.seq (S [OM 12 0] (.block 0 (.loop (.seq (aD [bM 25 12 1,oD 27 26 25] (Ce 28 0)) (.seq (.block 1 (.seq (aD [Pm 31 4,TM 32 1 12 1,Pl 35 34,Of 36 (.ia 1 none (.t 31) (.t 35)),Pl 37 36,Pm 38 37,Gf 40 38 false (M 1),Gf 41 38 false (M 12),Gf 42 38 false (.ia 1 none (.t 40) (.t 41)),Gf 44 38 false (M 3),Gf 45 38 false (M 2),Gf 39 38 false (.load true 2 (.t 5)),Gf 43 38 false (.load false 1 (.t 42)),G 46 38 false (.call (C 202) [.t 39,.t 43,.t 44,.t 45]),V5 47 38 46 38] (Cd 48 (.exit 1) .skip)) (aD [bM 49 4 1,oC 51 12 1 50,Ol 53 1 52,Oi 54 1 49 53,N (.store 1 (.t 54) Bt)] (aD [Om 55 11,Ot 56 2 5,bM 57 1 2,Om 59 3,Oc 60 .add 59 1,Om 61 4,Ok 62 162 [.t 56,.t 57,.t 58,.t 60,.t 61],O 63 (.bin false .add (I 1) (.t 62)),O 64 (.jC true (.t 55) (.t 63)),Om 11 64] (cN [bM 65 4 1,oC 67 12 1 66,Ol 69 1 68,Oi 70 1 65 69,N (.store 1 (.t 70) Bf)]))))) (cN [iK 29 12 1 12])))))) (aD [jZ 71 11 10] .ret)))),[.tm 10]⟩
def L163:aW :=⟨11,S [Ox 2 2 0,Pf 4] (aD [Om 5 1,bD 6 0 2 1,On 8 7,Oc 9 .sub 8 1,Ok 10 137 [.t 5,I 0,.t 9],Om 4 10] .ret),[.tm 4]⟩
def L168:aW :=⟨61,aD [bM 5 0 1,V6 7 1 6 0 1,Ok 9 37 [.t 5,.t 8],Oo 10 9,Ok 11 127 [.t 10,I 6]] (aD [Pm 12 0,zA 13 0 0,Pa 16 0 15,rL 18 1 1 0,rL 21 1 1 1,rL 24 1 1 2,rL 27 1 1 3,rL 30 1 1 4,rL 33 1 1 5,rL 36 1 1 6,nF 17 16 20 19,nF 23 22 26 25,nF 29 28 32 31,nF 35 34 38 37,Of 39 (.build (.agg [Z0,Z0]) [(0,(1,(.t 35))),(1,(1,(.t 38)))]),Of 40 (.build (.agg [Z0,Z0,Z0,Z0,Z0,Z0,Z0]) [(0,(1,(.t 20))),(1,(1,(.t 23))),(2,(1,(.t 26))),(3,(1,(.t 29))),(4,(1,(.t 32))),(5,(2,(.t 39)))]),Ok 41 207 [.t 17,.t 40],z7 42 12 0,Oa 44 0 43,Ns 1 44 41] (aD [pY 45 0 209,Ok 47 208 [.t 46],Om 4 47] (aD [LJ 48 4 0,yZ 50 4 127 49] (aD [pY 53 0 21,Ok 55 210 [.t 54],mG 52 55 56 0 57 1,Om 4 57] (cN [LJ 58 4 7,Ok 60 127 [.t 59,I 9]]))))),[]⟩
def L171:aW :=⟨107,aD [Om 11 1,V6 12 1 11 1 1,Ok 14 213 [.t 13,I 2,I 5],WV 15 14 1 1 2 213 0 1000,WV 21 20 1 1 3 213 0 2000,Ok 27 127 [.t 26,I 2]] (aD [bM 29 0 1,V6 31 1 30 0 1,Ok 33 214 [.t 29,.t 32],mG 28 33 34 0 35 1,bM 4 34 35] (S [Om 36 5,Ok 37 127 [.t 36,I 7]] (aD [R0 38 0 0,bD 41 2 40 1,oC 43 4 4 42,Ot 45 4 44,ZAE 6 4 45] (aD [bD 46 3 6 1,Oo 48 47,qK 49 48 0,ZAz 51 49 4 6 49 46 50,G 53 49 true (.bin false .eql (.t 52) (.c (.int .u8 (3)))),Pp 54 49 53,Ok 55 127 [.t 54,I 8]] (S [OM 7 0] (.seq (aD [R0 56 0 0,bD 59 3 58 1,xY 61 60 0] (.block 0 (.loop (S [Ob 63 .lss 62 61] (.seq (Ce 63 0) (.seq (.block 1 (aD [Fq 64 4 60 62 4 9,Ns 4 9 65] (aD [bD 66 0 9 1,bD 68 0 6 1,Ob 70 .eql 67 69] (Cd 70 (cN [iK 71 7 1 7]) .skip)))) (cN [pX 73 62 1 62]))))))) (aD [Om 74 7,bD 75 1 6 1,Ob 77 .lss 74 76,Ok 78 127 [.t 77,I 3]] (aD [rL 79 1 1 0,rL 82 1 1 1,rL 85 1 1 2,rL 88 1 1 3,nF 81 80 84 83,nF 87 86 90 89,O 91 (.build (.agg [Z0,Z0,Z0,Z0]) [(0,(1,(.t 81))),(1,(1,(.t 84))),(2,(1,(.t 87))),(3,(1,(.t 90)))]),Of 10 (.alloc (.agg [Z0,Z0,Z0,Z0])),Ns 4 10 91] (aD [Om 92 0,EP 93 4 10 39 92,Ok 95 127 [.t 94,I 10]] (cN [Pm 96 0,zA 97 0 0,Pa 100 3 99,Pl 101 100,Pt 102 4 10,Ok 103 216 [.t 101,.t 102],z7 104 96 0,Oa 106 3 105,Ns 1 106 103])))))))))),[]⟩
def L179:aW :=⟨15,S [Pf 6] (aD [bM 7 1 0,Ob 9 .leq 7 8,TI 10 9 0 2 6] .ret),[.tm 6]⟩
def L181:aW :=⟨6,aD [tW 1 3 0] (aD [bD 3 0 1 1,Oc 5 .geq 4 1,Om 2 5] .ret),[.tm 2]⟩
def L185:aW :=⟨8,aD [tW 2 7 0] (aD [Ol 4 1 1,AX 5 7 2 4,Oo 7 6,Om 3 7] .ret),[.tm 3]⟩
def L186:aW :=⟨134,S [O 8 (.dU Bt)] (S [O 9 (.dU Bt)] (.block 0 (.loop (.block 1 (aD [bM 19 2 1,Ob 21 .sub 19 20,Om 10 21] (.seq (S [Om 22 10,Oc 23 .leq 22 12] (Cd 23 (aD [bM 24 0 1,PF 26 2 231 24 25] .ret) .skip)) (.seq (aD [LJ 28 3 0] (Cd 29 (aD [bM 30 0 1,PF 32 2 232 30 31] .ret) .skip)) (.seq (S [Om 34 8,Oo 35 34] (Cd 35 (aD [bM 36 0 1,PF 38 2 233 36 37] (.region [Om 40 3,Oc 41 .sub 40 1,Om 3 41])) .skip)) (aD [bM 43 0 1,PF 45 2 234 43 44,mG 42 46 47 0 48 1,bM 11 47 48] (.seq (aD [LJ 49 12 2] (Cd 50 (aD [bM 51 0 1,PF 53 2 235 51 52] (aD [Om 55 2,Oc 56 .sub 55 1,bM 57 11 1,Ob 59 .sub 57 58,Ob 60 .sub 56 59,Om 11 60] (.region [OM 12 1]))) .skip)) (.seq (aD [Om 61 8,qK 62 61 9,Pp 64 62 63,qK 65 64 12,WY 67 65 66 1 65] (Cd 68 (aD [bM 69 0 1,PF 71 2 236 69 70] (Cd 72 .ret .skip)) .skip)) (.seq (aD [Pm 73 1,Of 74 (.bin false .gtr (.t 73) (I 0)),Pm 75 74,YZ 76 75 0 75 1,Gf 78 75 true (.bin false .sub (.t 77) (I 1)),Gf 79 75 true (.ia 1 none (.t 76) (.t 78)),YZ 81 75 0 75 11,Gf 83 75 true (.ia 1 none (.t 81) (.t 82)),Pi 80 75 79,Pi 84 75 83,G 85 75 true (.call (C 237) [.t 80,.t 84]),JZ 86 75 85 75] (Cd 87 (aD [bM 88 0 1,bM 90 2 11,Ok 92 238 [.t 88,.t 89,.t 90,.t 91],Om 13 92] (aD [jZ 93 13 1] (.exit 1))) .skip)) (aD [bM 95 0 1,bM 97 2 11,Ok 99 239 [.t 95,.t 96,.t 97,.t 98],mG 94 99 100 0 101 1,bM 14 100 101] (aD [jZ 102 15 9] (aD [bM 103 14 1,Ob 105 .sub 103 104,bM 106 2 14,Ob 108 .sub 106 107,bM 16 105 108] (S [Om 109 10,Oc 110 .quo 109 8,Om 18 110] (aD [bM 111 16 17,Ob 113 .lss 111 112] (Cd 113 (aD [bM 114 16 18,Ob 116 .geq 114 115,Om 8 116] (aD [bM 117 0 1,bM 119 14 3,Ok 121 186 [.t 117,.t 118,.t 119,.t 120]] (cN [iK 122 14 1 1]))) (aD [bM 124 17 18,Ob 126 .geq 124 125,Om 8 126] (aD [bM 127 0 14,Oc 129 .add 128 1,bM 130 2 3,Ok 132 186 [.t 127,.t 129,.t 130,.t 131]] (cN [jZ 133 14 2]))))))))))))))))))))),[]⟩
def L200:aW :=⟨20,S [Ox 3 3 1,Pe 4] (aD [zA 5 0 2,Pa 9 2 3,Pa 11 1 3,Pa 16 2 3,nF 8 7 10 9,Of 13 (.ia 4 none (.t 8) (.t 10)),Pl 12 11,Of 14 (.ia 1 (some 4) (.t 13) (.t 12)),nF 15 14 17 16,O 18 (.build (.agg [Z0,Z0,Z0]) [(0,(1,(.t 15))),(1,(1,(I (-1)))),(2,(1,(.t 17)))]),Pb 19 256 3 18,Om 4 19] .ret),[.tm 4]⟩
def L202:aW :=⟨58,S [Ox 4 2 0,Pf 8] (aD [bD 13 1 4 1,oC 15 1 3 14,Ot 17 3 16,O 9 (.alloc (.agg [Z0,Z0,E0])),Ns 3 9 17] (aD [bD 18 2 9 1,oC 20 2 1 19,Ol 22 1 21,F8 23 22 1 9,Pn 26 23 3,Qm 27 23 25 26 23,Om 10 28] (.seq (S [OM 11 0] (.block 0 (.loop (.seq (aD [Om 29 11,bD 30 0 4 1,oC 32 2 1 31,Ol 34 1 33,oD 35 34 29] (Ce 36 0)) (.seq (.block 1 (aD [bD 39 0 4 1,oC 41 2 1 40,Ol 43 1 42,oC 44 11 2 43,Ot 46 2 45,TJ 12 2 46] (cN [Om 47 10,qK 48 47 3,F9 50 48 0 12 48,F9 52 48 1 12 48,G 54 48 true (.call (C 248) [.t 49,.t 51,.t 53]),JZ 55 48 54 48,Om 10 56]))) (cN [iK 37 11 1 11])))))) (aD [jZ 57 10 8] .ret)))),[.tm 8]⟩
def L203:aW :=⟨20,S [OM 4 0] (aD [pY 7 0 249,Om 5 8] (aD [pY 9 1 249,Om 6 10] (.seq (S [Om 11 5] (Cd 11 (.seq (S [Om 12 6] (Cd 12 (S [OM 4 0] .ret) .skip)) (S [OM 4 (-1)] .ret)) .skip)) (.seq (S [Om 13 6] (Cd 13 (S [OM 4 1] .ret) .skip)) (.seq (aD [bM 14 0 1,Ob 16 .lss 14 15] (Cd 16 (S [OM 4 (-1)] .ret) .skip)) (.seq (aD [bM 17 0 1,Ob 19 .gtr 17 18] (Cd 19 (S [OM 4 1] .ret) .skip)) (S [OM 4 0] .ret))))))),[.tm 4]⟩
def L208:aW :=⟨11,S [Ox 1 2 0,OM 2 0] (aD [Q8 6 2 1 87,mG 5 7 8 0 9 1,bM 3 8 9] (aD [jZ 10 4 2] .ret)),[.tm 2]⟩
def L237:aW :=⟨17,S [Pf 4] (aD [pY 5 0 249,qK 7 6 1,G 9 7 true (.call (C 249) [.t 8]),JZ 10 7 9 7,ZA 12 11 0,G 14 12 false (M 1),G 15 12 false (.bin false .lss (.t 13) (.t 14)),Pq 16 12 15,Om 4 16] .ret),[.tm 4]⟩
def L254:aW :=⟨8,aD [tW 2 7 0] (aD [bD 4 0 2 1,Ol 6 1 1,Ob 7 .eql 5 6,Om 3 7] .ret),[.tm 3]⟩
def L258:aW :=⟨49,S [OM 6 0,Pf 7] (aD [pH 12 0,Om 8 13] (S [Om 14 8,OM 9 0,Om 10 14] (.seq (.block 0 (.loop (.seq (aD [bM 15 9 10,Ob 17 .lss 15 16] (Ce 17 0)) (.block 1 (aD [bM 18 9 10,ZAq 20 18 19 1 11] (aD [bM 24 2 0,oC 26 11 4 25,Ot 28 4 27,Om 29 1,O 30 (.call (.t 24) [.t 28,.t 29]),Oc 31 .lss 30 0] (Cd 31 (cN [iK 32 11 1 9]) (cN [jZ 34 11 10])))))))) (aD [bM 35 9 9,Om 37 8,Ob 38 .lss 36 37,qK 39 38 2,Pn 41 39 0,Qr 42 39 9 39 4 41,G 44 39 true (.load true 4 (.t 43)),Pn 45 39 1,G 46 39 true (.call (.t 40) [.t 44,.t 45]),WY 47 39 46 0 39,bM 6 35 48] .ret)))),[.tm 6,.tm 7]⟩
def L293:aW :=⟨25,S [OM 2 0] (.seq (aD [pH 5 0,Oc 7 .lss 6 1] (Cd 7 (.region [O 8 (.x (.sN 9 (.c (.str ⟨#[115,108,105,99,101,115,46,77,97,120,58,32,101,109,112,116,121,32,108,105,115,116]⟩)))),N (.x (.B8 (.t 8)))]) .skip)) (aD [Om 9 0,V6 10 1 9 0 1,Om 3 11] (.seq (S [OM 4 1] (.block 0 (.loop (.seq (aD [bM 12 4 0,oD 14 13 12] (Ce 15 0)) (.seq (.block 1 (cN [bM 18 3 0,oC 20 4 1 19,Ol 22 1 21,O 23 (.jC true (.t 18) (.t 22)),Om 3 23])) (cN [iK 16 4 1 4])))))) (aD [jZ 24 3 2] .ret)))),[.tm 2]⟩
end
noncomputable section
noncomputable def P4:List ((Nat×List Nat)×(bH×bH×(Code×Code))):=[((64,[42]),(Y49_0a,Y49_0b,fX prog 49 0)),((136,[72]),(Y77_0a,Y77_0b,fX prog 77 0)),((136,[115]),(Y77_1a,Y77_1b,fX prog 77 1)),((61,[49]),(Y120_0a,Y120_0b,fX prog 120 0)),((79,[47]),(Y178_0a,Y178_0b,fX prog 178 0)),((50,[15]),(Y199_0a,Y199_0b,fX prog 199 0))]
theorem L49_tab:kV (pM P4) L49.code:=by repeat' (first|exact trivial|rfl|apply And.intro)
theorem L77_tab:kV (pM P4) L77.code:=by repeat' (first|exact trivial|rfl|apply And.intro)
theorem L120_tab:kV (pM P4) L120.code:=by repeat' (first|exact trivial|rfl|apply And.intro)
theorem L178_tab:kV (pM P4) L178.code:=by repeat' (first|exact trivial|rfl|apply And.intro)
theorem L199_tab:kV (pM P4) L199.code:=by repeat' (first|exact trivial|rfl|apply And.intro)
theorem mixed:prog.follows .mixedOrders=true:=by kernel_rfl
end
theorem cS (F:aW){f:FuncId}{args:List AV}{B:List (Site×aJ)}{R:AV->List (Site×aJ)->Prop}(h:eM prog F.code (lF (B6 F.res R)) ⟨eZ 0 args,B⟩)(hf:fV prog f=some F:=by kernel_rfl)(hn:args.length<=F.nt:=by exact tR rfl):cU prog f args B R:=Qk mixed hf hn h
theorem cB (o:List Site)(F:aW){f:FuncId}{args:List AV}{B:List (Site×aJ)}{R:AV->List (Site×aJ)->Prop}(h:eM prog F.code (lF (aT o F.res R)) ⟨eZ 0 args,B⟩)(hf:fV prog f=some F:=by kernel_rfl)(hn:args.length<=F.nt:=by exact tR rfl):cU prog f args B R:=Qj o mixed hf hn h
theorem cF (o:List Site)(F:aW){f:FuncId}{args:List AV}{B:List (Site×aJ)}{R:AV->List (Site×aJ)->Prop}(h:eM prog F.code (lF (oL o F.res R)) ⟨eZ 0 args,B⟩)(hf:fV prog f=some F:=by kernel_rfl)(hn:args.length<=F.nt:=by exact tR rfl):cU prog f args B R:=Qi o mixed hf hn h
theorem O1 (F:aW){f:FuncId}{args:List AV}{B:List (Site×aJ)}{Q:AV->List (Site×aJ)->Prop}(h:∀R,Q=R->eM prog F.code (lF (B6 F.res R)) ⟨eZ 0 args,B⟩)(hf:fV prog f=some F:=by kernel_rfl)(hn:args.length<=F.nt:=by exact tR rfl):cU prog f args B Q:=cS F (h _ rfl) hf hn
theorem O2 (o:List Site)(F:aW){f:FuncId}{args:List AV}{B:List (Site×aJ)}{Q:AV->List (Site×aJ)->Prop}(h:∀R,Q=R->eM prog F.code (lF (aT o F.res R)) ⟨eZ 0 args,B⟩)(hf:fV prog f=some F:=by kernel_rfl)(hn:args.length<=F.nt:=by exact tR rfl):cU prog f args B Q:=cB o F (h _ rfl) hf hn
theorem Q6 (o:List Site)(F:aW){f:FuncId}{args:List AV}{B:List (Site×aJ)}{Q:AV->List (Site×aJ)->Prop}(h:∀R,Q=R->eM prog F.code (lF (oL o F.res R)) ⟨eZ 0 args,B⟩)(hf:fV prog f=some F:=by kernel_rfl)(hn:args.length<=F.nt:=by exact tR rfl):cU prog f args B Q:=cF o F (h _ rfl) hf hn
theorem cG (xs:List PV){σ:AS}{f:bB}{args:List bB}{d:Nat}{K:AV->AS->Prop}{g:FuncId}{y:PV}(hc:aC prog g xs y)(hK:K (.pv y) σ){X:Prop}(h1:(σ.o f).snap σ 0=some (.fn g [] []):=by rfl)(h2:jL (AV.snap σ 0) (args.map σ.o)=some xs:=by rfl)(hy:y.flat=true:=by rfl):zD prog f args d K σ\/X:=gH (k:=0) (fs:=[]) (xs:=xs) (cs:=[]) h1 h2 (by simpa using hc) hy hK
theorem cP (fz:List Site)(xs:List PV){σ:AS}{f:bB}{args:List bB}{d:Nat}{K:AV->AS->Prop}{g:FuncId}{y:PV}(h1:(aL fz σ).o f=.pv (.fn g [] []))(h2:(aL fz σ).tY args=some xs)(hc:cU prog g (xs.map .pv) [] (fun r B=>r=.pv y/\B=[]))(hK:K (.pv y) ((aL fz σ).bG d)):zD prog f args d K σ:=Zaj fz (fs:=[]) (xs:=xs) (cs:=[]) h1 h2 (by simpa using hc) hK
theorem cQ (fz:List Site)(xs:List PV){σ:AS}{f:bB}{args:List bB}{d:Nat}{K:AV->AS->Prop}{g:FuncId}{y:PV}(hc:cU prog g (xs.map .pv) [] (fun r B=>r=.pv y/\B=[]))(hK:K (.pv y) ((aL fz σ).bG d))(h1:(aL fz σ).o f=.pv (.fn g [] []):=by rfl)(h2:(aL fz σ).tY args=some xs:=by rfl):zD prog f args d K σ:=cP fz xs h1 h2 hc hK
theorem cL (gG:List AV)(B:List (Site×aJ))(d:Nat)(aE:List Site){σ:AS}{f:bB}{args:List bB}{d0:Nat}{K:AV->AS->Prop}{g:FuncId}{fs cs:List AV}{R:AV->List (Site×aJ)->Prop}(hB:pD σ aE 0 aE=some B)(hC:cU prog g gG B R)(hK:∀r B',R r B'->r.dC (cA aE)=true/\(∀p∈B',cA aE p.1=true/\p.2.dC (cA aE)=true)/\K (r.map (gI aE d)) (((cT aE σ).bG d).lX (fB aE d B')))(h1:mT (σ.o f)=some (g,fs,cs):=by rfl)(h2:EY aE=true:=by rfl)(h3:aE.all (fun s=>!s.fP d)=true:=by rfl)(h4:AV.hZ (fun x=>aE.contains x) (fs++args.map σ.o++cs)=true:=by rfl)(ha:AV.iT (kF aE) (fs++args.map σ.o++cs)=gG:=by rfl):zD prog f args d0 K σ\/(GX prog f args K σ\/GY prog f args K σ):=xU (gG:=gG) (B:=B) d aE h1 h2 h3 hB h4 ha hC hK
theorem cM (gG:List AV)(B:List (Site×aJ))(d:Nat)(aE:List Site){σ:AS}{f:bB}{args:List bB}{d0:Nat}{K:AV->AS->Prop}{g:FuncId}{fs cs:List AV}{a:AV}{b:List (Site×aJ)}(hB:pD σ aE 0 aE=some B)(hC:cU prog g gG B (fun r B=>r=a/\B=b))(hp:∀p∈b,cA aE p.1=true/\p.2.dC (cA aE)=true)(hK:K (a.map (gI aE d)) (((cT aE σ).bG d).lX (fB aE d b)))(ho:a.dC (cA aE)=true:=by rfl)(h1:mT (σ.o f)=some (g,fs,cs):=by rfl)(h2:EY aE=true:=by rfl)(h3:aE.all (fun s=>!s.fP d)=true:=by rfl)(h4:AV.hZ (fun x=>aE.contains x) (fs++args.map σ.o++cs)=true:=by rfl)(ha:AV.iT (kF aE) (fs++args.map σ.o++cs)=gG:=by rfl):zD prog f args d0 K σ\/(GX prog f args K σ\/GY prog f args K σ):=cL gG B d aE hB hC (fun r B' h=>by obtain⟨rfl,rfl⟩:=h;exact⟨ho,hp,hK⟩) h1 h2 h3 h4 ha
section
attribute [local simp] aJ.bG Site.fP
theorem Zom {l:List PV}{q:PV->Bool}{k:Nat}{x:PV}(hx:l[k]?=some x)(hb:q x=true)(hinv:∀(j:Nat) (y:PV),j<k->l[j]?=some y->q y=false):l.findIdx? q=some k:=by
 obtain⟨aI,e⟩:=cD.1 hx;rw[JY];refine⟨aI,by rw[e];exact hb,fun j hj=>?_⟩
 have:=hinv j l[j] hj (bC (by omega))
 simp[this]
theorem Zok {l:List PV}{q:PV->Bool}(hinv:∀(j:Nat) (y:PV),j<l.length->l[j]?=some y->q y=false):l.findIdx? q=none:=by
 rw[List.findIdx?_eq_none_iff];intro x hx;obtain⟨j,hj⟩:=iO.1 hx;exact hinv j x (cD.1 hj).1 hj
def lIx (row:Bool)(n:Nat):aW:=⟨19,(.seq (.region [⟨(some 4),none,(.dU (.c (.i 0))),true⟩]) (.seq (.seq (.region [⟨(some 6),none,(.dU (.t 0)),true⟩,⟨(some 7),none,(.len none (.t 6)),true⟩,⟨(some 8),none,(.dU (.c (.i 0))),true⟩]) (.block 0 (.loop (.seq (.region [⟨(some 9),none,(.bin false .lss (.t 8) (.t 7)),true⟩]) (.seq (.cond (.t 9) .skip (.exit 0)) (.seq (.block 1 (.seq (.region [⟨(some 10),none,(.dU (.t 8)),true⟩,⟨(some 5),none,(.dU (.t 10)),true⟩]) (.seq (.region [⟨(some 11),none,(.dU (.t 1)),true⟩,⟨(some 12),none,(.dU (.t 0)),true⟩,⟨(some 13),none,(.dU (.t 5)),true⟩,⟨(some 14),none,(.ia n none (.t 12) (.t 13)),true⟩,⟨(some 15),none,(.load row n (.t 14)),true⟩,⟨(some 16),none,(.call (.t 11) [(.t 15)]),true⟩]) (.cond (.t 16) (.seq (.region [⟨(some 17),none,(.dU (.t 5)),true⟩,⟨(some 4),none,(.dU (.t 17)),true⟩]) .ret) .skip)))) (.region [⟨(some 18),none,(.bin false .add (.t 8) (.c (.i 1))),true⟩,⟨(some 8),none,(.dU (.t 18)),true⟩]))))))) (.seq (.region [⟨(some 4),none,(.dU (.c (.i (-1)))),true⟩]) .ret))),[(.tm 4)]⟩
def elB:Bool->Nat->PV->Prop
 |true,n,x=>∃cs,x=.agg cs/\cs.length=n
 |false,n,x=>n=1/\((∃b m ys,x=.aF b m ys)\/∃s,x=.str s)
theorem UC {f:FuncId}{row:Bool}{n:Nat}{l:List PV}{g:FuncId}{fs cs:List PV}{q:PV->Bool}(hq:∀x∈l,aC prog g (fs++[x]++cs) (.bool (q x)))(hl:l.length<=1000000)(hc:∀x∈l,elB row n x)(hL:fV prog f=some (lIx row n):=by kernel_rfl):
  aC prog f [.aF false n l,.fn g fs cs] (.i (match l.findIdx? q with|some i=>i|none=>-1)):=by
 refine Qk mixed hL (tR rfl) ?_;simp[lIx];refine eP (fun m τ=>∃k:Nat,k<=l.length/\m=l.length-k/\(∀j x,j<k->l[j]?=some x->q x=false)/\τ=⟨[(0,.pv (.aF false n l)),(1,.pv (.fn g fs cs)),(7,.pv (.i l.length)),(8,.pv (.i k))],[]⟩)
  ⟨l.length,_,Sub.mk (by simp) (by simp),0,by omega,rfl,(fun j x hj=>by omega),rfl⟩ ?_
 rintro J hJ m τ ⟨k,hk,rfl,hinv,rfl⟩;by_cases aI:k<l.length
 .have hx:l[k]?=some l[k]:=bC aI;have hm:=A2 aI;generalize l[k]=x at hx hm;have hg:=hq _ hm;have hw:IntKind.i64.wrap ((k:Int)+1)=((k+1:Nat):Int):=by rw[IntKind.wrap_i64];omega
  have IJ:=hc x hm;clear hc hL;cases row with
  |true=>
   obtain⟨ys,rfl,rfl⟩:=IJ;simp[aI,↓hx,aN];refine gH (k:=0) rfl rfl hg rfl ?_;cases hb:q _
   .simp[hw];exact⟨_,_,(by omega:l.length-(k+1)<l.length-k),Sub.mk (by simp) (by simp),hJ _ _ ⟨k+1,by omega,rfl,fun j x hj DG=>by
     rcases Nat.lt_succ_iff_lt_or_eq.1 hj with h|h
     .exact hinv j x h DG
     .subst h;rw[hx]at DG;cases DG;exact hb,rfl⟩⟩
   .simp[Zom hx hb hinv]
  |false=>
   obtain⟨rfl,⟨b,m,ys,rfl⟩|⟨s,rfl⟩⟩:=IJ
   all_goals
    simp[aI,↓hx];refine gH (k:=0) rfl rfl hg rfl ?_;cases hb:q _
    .simp[hw];exact⟨_,_,(by omega:l.length-(k+1)<l.length-k),Sub.mk (by simp) (by simp),hJ _ _ ⟨k+1,by omega,rfl,fun j x hj DG=>by
      rcases Nat.lt_succ_iff_lt_or_eq.1 hj with h|h
      .exact hinv j x h DG
      .subst h;rw[hx]at DG;cases DG;exact hb,rfl⟩⟩
    .simp[Zom hx hb hinv]
 .have he:k=l.length:=by omega
  subst he;simp[Zok hinv]
def lCn (fi:FuncId):aW:=⟨9,(.seq (.region [⟨(some 4),none,(.dU (.c (.bool false))),true⟩]) (.seq (.region [⟨(some 5),none,(.dU (.t 0)),true⟩,⟨(some 6),none,(.dU (.t 1)),true⟩,⟨(some 7),none,(.call (.c (.fn fi [] [])) [(.t 5),(.t 6)]),true⟩,⟨(some 8),none,(.bin false .geq (.t 7) (.c (.i 0))),true⟩,⟨(some 4),none,(.dU (.t 8)),true⟩]) .ret)),[(.tm 4)]⟩
theorem wY {f:FuncId}(fi:FuncId){n:Nat}{l:List PV}{g:FuncId}{fs cs:List PV}{q:PV->Bool}(hi:aC prog fi [.aF false n l,.fn g fs cs] (.i (match l.findIdx? q with|some i=>i|none=>-1)))(hL:fV prog f=some (lCn fi):=by kernel_rfl):aC prog f [.aF false n l,.fn g fs cs] (.bool (l.any q)):=by
 refine Qk mixed hL (tR rfl) ?_;simp[lCn];refine gH (k:=0) rfl rfl hi rfl ?_;cases hf:l.findIdx? q with
 |none=>
  have:l.any q=false:=by rw[List.any_eq_false];intro x hx;simpa using List.findIdx?_eq_none_iff.1 hf x hx
  simp[this]
 |some i=>
  have:l.any q=true:=by
   obtain⟨hi,h1,_⟩:=JY.1 hf;exact pB.2 ⟨_,A2 hi,h1⟩
  simp[this]
def lAl (fc f1:FuncId):aW:=⟨9,(.seq (.region [⟨(some 3),none,(.box 1 (.t 1)),true⟩,⟨(some 4),none,(.dU (.c (.bool false))),true⟩]) (.seq (.region [⟨(some 5),none,(.dU (.t 0)),true⟩,⟨(some 6),none,(.yK f1 [] [(.t 3)]),true⟩,⟨(some 7),none,(.call (.c (.fn fc [] [])) [(.t 5),(.t 6)]),true⟩,⟨(some 8),none,(.not (.t 7)),true⟩,⟨(some 4),none,(.dU (.t 8)),true⟩]) .ret)),[(.tm 4)]⟩
theorem O4 {f:FuncId}(fc f1:FuncId){n:Nat}{l:List PV}{g:FuncId}{fs cs:List PV}{q:PV->Bool}(ha:aC prog fc [.aF false n l,.fn f1 [] [.ref [.fn g fs cs]]] (.bool (l.any fun x=>!q x)))(hL:fV prog f=some (lAl fc f1):=by kernel_rfl):aC prog f [.aF false n l,.fn g fs cs] (.bool (l.all q)):=by
 refine Qk mixed hL (tR rfl) ?_;simp[lAl];refine gH (k:=4) rfl rfl ha rfl ?_;simp[List.not_any_eq_all_not]
end
def P3 (w:World)(m:Mem)(ρ:Site->Loc)(B:List (Site×aJ))(Rp:PV->List (Site×aJ)->Prop)(e:Ending)(w':World):Prop:=
 ∃v,e=.panicked [{ v,recovered:=false }]/\lI w m ρ B (fun r B'=>∃x,r=.pv x/\Rp x B') (.returned v) w'
def x9 (P:Program)(f:FuncId)(bU:List AV)(B:List (Site×aJ))(Rp:PV->List (Site×aJ)->Prop):Prop:=
 jS P f/\∀(w:World) (m:Mem) (ρ:Site->Loc) (vs:Array Value),vH ρ m w B->(Le m w.mem/\nP m w/\(B.map (·.1)).Nodup)->vs.size=bU.length->(∀(j:Nat) (d:Value) (c:AV),vs[j]?=some d->bU[j]?=some c->bQ ρ m d c)->
  Calls P f vs w (P3 w m ρ B Rp)
theorem x9.mono {P:Program}{f:FuncId}{bU:List AV}{B:List (Site×aJ)}{R R':PV->List (Site×aJ)->Prop}(h:x9 P f bU B R)(hp:∀r B',R r B'->R' r B'):x9 P f bU B R':=
 ⟨h.1,fun w m ρ vs h1 h2 h3 h4=>(h.2 w m ρ vs h1 h2 h3 h4).mono fun e w' ⟨v,k0,v',r,B',bX,m',k1,⟨x,k2,k3⟩,k4⟩=>⟨v,k0,v',r,B',bX,m',k1,⟨x,k2,hp _ _ k3⟩,k4⟩⟩
def X3 (P:Program)(f:bB)(args:List bB)(Qp:PV->AS->Prop)(σ:AS):Prop:=
 ∃(d:Nat) (fz aE:List Site) (g:FuncId) (fs cs:List AV) (B:List (Site×aJ)),
  ((aL fz σ).o f=.fn g fs cs\/∃tP iM,(aL fz σ).o f=.pv (.fn g tP iM)/\fs=tP.map .pv/\cs=iM.map .pv)/\aE.Nodup/\aE.all (fun s=>!s.fP d)=true/\pD (aL fz σ) aE 0 aE=some B/\
  AV.hZ (fun x=>aE.contains x) (fs++args.map (aL fz σ).o++cs)=true/\
  x9 P g (AV.iT (kF aE) (fs++args.map (aL fz σ).o++cs)) B (fun x B'=>(∀p∈B',cA aE p.1=true/\p.2.dC (cA aE)=true)/\Qp x (((cT aE (aL fz σ)).bG d).lX (fB aE d B')))
def wC (P:Program)(o:LO)(Qp:PV->AS->Prop)(σ:AS):Prop:=o.g=none/\((∃f args,o.op=.call f args/\X3 P f args Qp σ)\/∃y t a,o.op=.x (.B8 y)/\σ.o y=.pv (.iface t a)/\Qp (.iface t a) σ)
def K0 (P:Program):List LO->(AS->Prop)->(PV->AS->Prop)->AS->Prop
 |[],K,_,σ=>K σ
 |o::r,K,Qp,σ=>pS P o (K0 P r K Qp) σ\/wC P o Qp σ
def fO (P:Program):bH->(sK->AS->Prop)->(PV->AS->Prop)->AS->Prop
 |.region ops,Q,Qp,σ=>K0 P ops (Q .normal) Qp σ
 |.seq a b,Q,Qp,σ=>fO P a (iV (fO P b Q Qp) Q) Qp σ
 |.cond c a b,Q,Qp,σ=>match σ.o c with
  |.pv (.bool t)=>if t=true then fO P a Q Qp σ else fO P b Q Qp σ
  |_=>False
 |.block id c,Q,Qp,σ=>fO P c (j9 id Q) Qp σ
 |.loop c,Q,Qp,σ=>∃(I:Nat->AS->Prop) (n:Nat) (τ:AS),Sub τ σ/\I n τ/\∀n τ,I n τ->fO P c (iV (fun zI=>∃k S3,k<n/\Sub S3 zI/\I k S3) Q) Qp τ
 |l,Q,_,σ=>uO P l Q σ
theorem ZnJ {P:Program}{Qp:PV->AS->Prop}:∀{l:List LO} {K:AS->Prop} {σ:AS},oN P l K σ->(∀(o:LO) (K K':AS->Prop) σ,(∀τ,K τ->K' τ)->pS P o K σ->pS P o K' σ)->K0 P l K Qp σ
 |[],K,σ,h,_=>h
 |o::r,K,σ,h,hm=>.inl (hm o _ _ σ (fun τ h=>ZnJ h hm) h)
section
variable {P:Program}{N:Nat}{w0:World}{m0:Env w0}{pl:List Nat}{σ:AS}{ρ:Site->Loc}{m:Mem}{act:Act}{w:World}{o:Oper}{lo:LO}{ops:Array Oper}{Qp:PV->AS->Prop}
def GQ (N:Nat)(w0:World)(m0:Env w0)(pl:List Nat)(Qp:PV->AS->Prop)(ch:List PanicEntry)(act:Act)(w:World):Prop:=
 ∃v x τ ρ m bE,ch=[{ v,recovered:=false }]/\bE.defers=act.defers/\(m0.strict=true->bE=act)/\Qp x τ/\Sat N w0 m0 pl τ ρ m bE w/\bQ ρ m v (.pv x)
theorem ZqW {ro:Option Nat}{f:bB}{args:List bB}(hl:aZ P o.op=.call f args)(h:X3 P f args Qp σ)(hS:Sat N w0 m0 pl σ ρ m act w){nx:Act->World->Prop}{Q:Exit->Act->World->Prop}
  (hQ:∀ch w',GQ N w0 m0 pl Qp ch act w'->Q (.panic ch) act w'):o.wpIn (FF ro) 1 P act w nx Q:=by
 obtain⟨c,fo,ho,hc,hf,ha⟩:=Pr hl;obtain⟨d,fz,aE,g,fs,cs,B,qH,qE,tC,hB,eV,hC⟩:=h;obtain⟨m1,_,hF⟩:=hS.aL fz;generalize aL fz σ=lN at qH hB eV hC hF;obtain⟨q1,q2⟩:=LD ha;obtain⟨oH,gB,uJ,yN⟩:=CJ hF qE tC hB;have s6:∃vf vc:Array Value,act.eval fo=.func (.func g) vf vc/\vf.size=fs.length/\vc.size=cs.length/\(∀(j:Nat) (d:Value) (c:AV),vf[j]?=some d->fs[j]?=some c->bQ ρ m1 d c)/\(∀(j:Nat) (d:Value) (c:AV),vc[j]?=some d->cs[j]?=some c->bQ ρ m1 d c):=by
  have h1:=hF.aU hf;rcases qH with qH|⟨tP,iM,qH,rfl,rfl⟩
  .rw[qH]at h1;exact Ni h1
  .rw[qH]at h1;obtain⟨vf,vc,e1,e2,e3,e4,e5⟩:=Gg h1.nN;refine⟨vf,vc,e1,by simpa using e2,by simpa using e3,fun j d c k1 k2=>?_,fun j d c k1 k2=>?_⟩
   .rw[bY]at k2;obtain⟨x,k3,rfl⟩:=eB.1 k2;exact .pv _ _ (e4 j d x k1 k3)
   .rw[bY]at k2;obtain⟨x,k3,rfl⟩:=eB.1 k2;exact .pv _ _ (e5 j d x k1 k3)
 obtain⟨vf,vc,hv,f1,f2,f3,f4⟩:=s6;have fI:(c.args.map act.eval).size=(args.map lN.o).length:=by simp;simpa using q1
 obtain⟨b1,b2⟩:=Zh3 (ρ:=ρ) (m:=m1) (va:=c.args.map act.eval) (xs:=args.map lN.o) f1 fI f2 f3 (fun j u y hu hy=>by
  rw[Array.getElem?_map]at hu;obtain⟨x,k1,rfl⟩:=eB.1 hu;obtain⟨y',k2,k3⟩:=q2 j x (by simpa using k1);rw[bY,k2]at hy;cases hy;exact hF.aU k3) f4
 unfold Oper.wpIn;refine⟨fun _ _=>trivial,?_⟩;rw[Oper.semAt_eq _ _ _ (fun c' e=>by rw[ho]at e;cases e),F7 ho hc hv hC.1,Oper.uponIn_enter];refine⟨FF.one,Gr ?_⟩;refine(hC.2 w m1 oH _ uJ ⟨hF.mem,hF.uL,Qh hB⟩ (by rw[KZ];exact b1) (fun j u y hu hy=>by
  rw[KY]at hy;obtain⟨a,k1,rfl⟩:=eB.1 hy;exact(b2 j u a hu k1).map gB (W4 eV k1))).mono ?_
 rintro e w' ⟨v,rfl,h⟩;obtain⟨v',r,B',bX,m',e1,⟨x,rfl,hx,hq⟩,Bu⟩:=h;cases e1;obtain⟨v2,r2,B2,PH,m2,e2,hK,k1,k2,_⟩:=yN (fun r B'=>∃x,r=.pv x/\Qp x (((cT aE lN).bG d).lX (fB aE d B'))) (.returned v) w' ⟨v,.pv x,B',bX,m',rfl,⟨rfl,hx,x,rfl,hq⟩,Bu⟩;cases e2;obtain⟨y,rfl,Tu⟩:=hK;exact hQ _ _ ⟨v,y,_,PH,m2,act,rfl,rfl,fun _=>rfl,Tu,k1,k2⟩
theorem ZfF {fn:Func}{tm:Array Value}{R:Ending->World->Prop}{ch:List PanicEntry}:∀(ds:List Nat) {w:World},ds.Nodup->(∀D∈ds,(w0.heap.size<=D\/D∈pl)/\w.heap[D]?=some (.deferred (some [])))->act.defers=[]->Sat N w0 m0 pl σ ρ m act w->
  ∃w2,Sat N w0 m0 pl σ ρ m act w2/\(LeavesIn (FF none) 1 P fn tm R [] (.panicking ch) w2->LeavesInM (FF none) 1 P fn tm R (ds.map XM) (.panicking ch) w)
 |[],w,_,_,_,hS=>⟨w,hS,fun h=>h⟩
 |D::r,w,hn,hd,ha,hS=>by
  obtain⟨d1,d2⟩:=hd D (by simp);have yO:=List.nodup_cons.1 hn;have wP:Sat N w0 m0 pl σ ρ m act (w.putObj D (.deferred none)):=hS.write (k:=D) (fun s b hs hr=>(hS.bx s b hs).Yn hr d2) (fun o=>by
   cases hv:m D o with
   |none=>rfl
   |some v=>
    have:=hS.mem D o v hv
    simp[World.mem,World.cell?,d2]at this) d1 (.inr ha) (Jb _ _ _)
  obtain⟨w2,k1,k2⟩:=ZfF (ch:=ch) (tm:=tm) r yO.2 (fun D' DZ=>by
   refine⟨(hd D' (by simp[DZ])).1,?_⟩;have dA:D'≠D:=fun e=>yO.1 (by rw[<-e];exact DZ)
   rw[World.putObj_heap_other dA];exact(hd D' (by simp[DZ])).2) ha wP
  exact⟨w2,k1,fun h=>⟨by simp,.inl ⟨D,_,rfl,run_takeDeferred d2,k2 h⟩⟩⟩
theorem ZkN {lt:Bool}(hl:qU P N ops lt o=some lo){f:bB}{args:List bB}(h:lo.op=.call f args):aZ P o.op=.call f args:=by
 obtain⟨e0,e1,e2,e3,e4⟩:=FE hl;rw[e2]at h;rcases Qd (ops:=ops) (l:=aZ P o.op)with⟨mK,_⟩|⟨e,n,b,x,y,H7,mK⟩
 .rw[mK]at h;exact h
 .rw[mK]at h;cases h
theorem ZrG {lt:Bool}(hl:qU P N ops lt o=some lo){y:bB}(h:lo.op=.x (.B8 y)):aZ P o.op=.x (.B8 y):=by
 obtain⟨e0,e1,e2,e3,e4⟩:=FE hl;rw[e2]at h;rcases Qd (ops:=ops) (l:=aZ P o.op)with⟨mK,_⟩|⟨e,n,b,x,y,H7,mK⟩
 .rw[mK]at h;exact h
 .rw[mK]at h;cases h
theorem Zn4 {op:Op}{y:bB}(h:aZ P op=.x (.B8 y)):∃x,op=.panic x/\aU x=some y:=by
 unfold aZ at h;split at h
 .rename_i z hz;cases h;unfold X6 at hz;split at hz
  .rename_i z' hx;cases hz;exfalso;unfold pT at hx;split at hx<;>(repeat' (first|(cases hx;done)|split at hx))
  .rename_i hx;clear hx;unfold nZ at hz;split at hz<;>(repeat' (first|(cases hz;done)|split at hz));rename_i e;cases hz;exact⟨_,rfl,e⟩
 .exact absurd h ZiB
theorem ZuM {ro:Option Nat}{y:bB}{t:TypeId}{x:PV}(hl:aZ P o.op=.x (.B8 y))(he:σ.o y=.pv (.iface t x))(hq:Qp (.iface t x) σ)(hS:Sat N w0 m0 pl σ ρ m act w){nx:Act->World->Prop}{Q:Exit->Act->World->Prop}
  (hQ:∀ch w',GQ N w0 m0 pl Qp ch act w'->Q (.panic ch) act w'):o.wpIn (FF ro) 1 P act w nx Q:=by
 obtain⟨z,ho,hz⟩:=Zn4 hl;have h1:=hS.aU hz;rw[he]at h1;obtain⟨v,e⟩:∃v,act.eval z=.iface t v:=by
  have h2:=h1.nN;generalize act.eval z=u at h2;cases h2 with|iface _ v _ _=>exact⟨v,rfl⟩
 unfold Oper.wpIn;refine⟨fun _ _=>trivial,?_⟩;rw[Oper.semAt_eq _ _ _ (fun c' e=>by rw[ho]at e;cases e)];have hr:(execOp act.eval o).run P w=.halt (.panic (.iface t v)) w:=by
  unfold execOp;simp only[ho,e];rfl
 rw[hr,Oper.uponIn_panic];rw[e]at h1;exact hQ _ _ ⟨_,_,σ,ρ,m,act,rfl,rfl,fun _=>rfl,hq,hS,h1⟩
theorem ZlZ {lt:Bool}(hl:qU P N ops lt o=some lo)(h:lo.g=none)(t:Nat->Option Bool):o.guard=none:=by
 obtain⟨e0,e1,e2,e3,e4⟩:=FE hl;rcases e4 with⟨hg,_⟩|⟨j,want,t,_,WC,_⟩
 .exact hg
 .rw[h]at WC;cases WC
theorem ZrM {ro:Option Nat}{lt:Bool}{Q:Exit->Act->World->Prop}(hl:qU P N ops lt o=some lo)(h:wC P lo Qp σ)(hS:Sat N w0 m0 pl σ ρ m act w){nx:Act->World->Prop}
  (U8:∀ch bE w',GQ N w0 m0 pl Qp ch bE w'->Q (.panic ch) bE w'):Region.wanted o (yielded ops act.tmps)=true/\o.wpIn (FF ro) 1 P act w nx Q:=by
 obtain⟨hg,h⟩:=h;have hw:=ZlZ hl hg (fun _=>none);refine⟨by simp[Region.wanted,hw],?_⟩;rcases h with⟨f,args,hop,hp⟩|⟨y,t,a,hop,he,hq⟩
 .exact ZqW (ZkN hl hop) hp hS (fun ch w' k=>U8 ch act w' k)
 .exact ZuM (ZrG hl hop) he hq hS (fun ch w' k=>U8 ch act w' k)
theorem YV {ro:Option Nat}{K:AS->Prop}{Q:Exit->Act->World->Prop}(lC:GU ops=true)(U8:∀ch bE w',GQ N w0 m0 pl Qp ch bE w'->Q (.panic ch) bE w'):∀(l:List (Nat×Bool)) (qT:List LO) {σ:AS} {ρ:Site->Loc} {m:Mem} {act:Act} {w:World},rT P ops l=true->lA P N ops (l.map fun p=>(C7 P ops p.1,ops.getD p.1 default))=some qT->
  K0 P qT K Qp σ->Sat N w0 m0 pl σ ρ m act w->(∀bE w',G6 N w0 m0 pl K bE w'->Q .normal bE w')->XI ro P ops Q (R9 P ops) (xW P) l act w
 |[],qT,σ,ρ,m,act,w,hk,hl,h,hS,hQ=>by
  simp[lA]at hl;subst hl;exact hQ _ _ ⟨σ,ρ,m,h,hS⟩
 |(i,b)::r,qT,σ,ρ,m,act,w,hk,hl,h,hS,hQ=>by
  simp only[iS]at hl;unfold lA at hl;split at hl
  .rename_i a l h1 h2;cases hl;cases b with
   |false=>
    simp only[rT,dK]at hk;cases ho:ops[i]? with
    |none=>rw[ho]at hk;simp at hk
    |some o=>
     rw[ho]at hk;have hg:ops.getD i default=o:=by simp[Array.getD_eq_getD_getElem?,ho]
     rw[hg]at h1;have iC:=hk.1;simp only[sD]at iC;rcases h with h|⟨_,⟨f,args,hop,_⟩|⟨y,t,a,hop,_⟩⟩
     .cases bS:xW P o with
      |true=>
       obtain⟨v,k1,⟨τ,bX,m',k2,k3⟩,_⟩:=KW (G:=fun _=>True) h1 h hS (.inl bS);exact⟨o,v,fun _=>True,fun _ _ _ _=>trivial,fun _ _=>trivial,trivial,ho,k1,YV lC U8 r l hk.2 h2 k2 k3 hQ⟩
      |false=>
       have IQ:(aZ P o.op).GH=true:=by
        rcases iC with iC|iC
        .rw[bS]at iC;cases iC
        .exact iC
       obtain⟨v,k1,⟨τ,bX,m',k2,k3⟩,_⟩:=KW (G:=fW σ ρ m w) h1 h hS (.inr ⟨IQ,fun _ h=>h⟩);exact⟨o,v,fW σ ρ m w,fun _ _ hs hx=>fW.Yo hS hs hx,(fun e=>by rw[bS]at e;cases e),.refl hS,ho,k1,YV lC U8 r l hk.2 h2 k2 k3 hQ⟩
     .have hc:=ZkN h1 hop;unfold xW at iC;rw[hc]at iC;rcases iC with iC|iC<;>cases iC
     .have hc:=ZrG h1 hop;unfold xW at iC;rw[hc]at iC;rcases iC with iC|iC<;>cases iC
   |true=>
    simp only[rT,dK]at hk;cases ho:ops[i]? with
    |none=>rw[ho]at hk;simp at hk
    |some o=>
     have hg:ops.getD i default=o:=by simp[Array.getD_eq_getD_getElem?,ho]
     rw[hg]at h1;show wpOpIn (FF ro) 1 P ops Q i _ act w;unfold wpOpIn;simp only[ho];rcases h with h|h
     .rcases Hm h1 h hS with⟨q1,q2⟩|⟨q1,q2⟩
      .rw[if_pos q1];cases bS:xW P o with
       |true=>
        obtain⟨v,k1,⟨τ,bX,m',k2,k3⟩,_⟩:=KW (G:=fun _=>True) h1 h hS (.inl bS);rcases k1 with⟨_,k1⟩|⟨k1,_⟩
        .unfold Oper.wpIn;refine⟨fun _ _=>trivial,?_⟩;rw[Oper.semAt_eq _ _ _ (YR lC ho),k1 w trivial,Oper.uponIn_value];exact⟨fun _=>Ext.tS _,YV lC U8 r l hk.2 h2 k2 k3 hQ⟩
        .rw[k1]at q1;cases q1
       |false=>
        have K9:iW (R9 P ops) ops i=true->o.op.vY=true\/((aZ P o.op).OJ=true/\C7 P ops i=false)\/(tF ops (aZ P o.op)).KD=true:=fun tA=>by
         unfold iW at tA;rw[ho]at tA;unfold R9 at tA;unfold xW at bS;simp only[bS,Bool.or_false,sD]at tA;rcases tA with(h'|h')|h'
         .exact .inl h'
         .simp only[dK,Bool.not_eq_true']at h';exact .inr (.inl h')
         .exact .inr (.inr h')
        exact Oper.wpIn_mono (fun bE w' ⟨⟨τ,bX,m',k2,k3⟩,k4⟩=>⟨fun tA=>k4 (K9 tA),YV lC U8 r l hk.2 h2 k2 k3 hQ⟩) (Mr h1 q2 hS)
      .rw[if_neg (by rw[q1];simp)];exact⟨fun _ _=>trivial,fun _=>Ext.tS _,YV lC U8 r l hk.2 h2 q2 (hS.pC (FE h1).2.2.2.1 XH) hQ⟩
     .obtain⟨q1,q2⟩:=ZrM (ro:=ro) (Q:=Q) h1 h hS U8;rw[if_pos q1];exact q2
  .cases hl
theorem Zfy {ro:Option Nat}{K:AS->Prop}{Q:Exit->Act->World->Prop}(U8:∀ch bE w',GQ N w0 m0 pl Qp ch bE w'->Q (.panic ch) bE w'):∀(l:List Oper) (qT:List LO) {σ:AS} {ρ:Site->Loc} {m:Mem} {act:Act} {w:World},lA P N ops (l.map fun o=>(true,o))=some qT->K0 P qT K Qp σ->Sat N w0 m0 pl σ ρ m act w->(∀bE w',G6 N w0 m0 pl K bE w'->Q .normal bE w')->wpListIn (FF ro) 1 P ops Q l act w
 |[],qT,σ,ρ,m,act,w,hl,h,hS,hQ=>by
  simp[lA]at hl;subst hl;exact hQ _ _ ⟨σ,ρ,m,h,hS⟩
 |o::r,qT,σ,ρ,m,act,w,hl,h,hS,hQ=>by
  rw[iS]at hl;unfold lA at hl;split at hl
  .rename_i a l h1 h2;cases hl;rcases h with h|h
   .exact ZfP h1 h hS (fun bE w' ⟨τ,bX,m',k1,k2⟩=>Zfy U8 r l h2 k1 k2 hQ)
   .unfold wpListIn;obtain⟨q1,q2⟩:=ZrM (ro:=ro) (Q:=Q) h1 h hS U8;rw[if_pos q1];exact q2
  .cases hl
theorem ZlX {ro:Option Nat}{K:AS->Prop}{Q:Exit->Act->World->Prop}{id:Nat}{draw:Bool}{qT:List LO}(hm:P.follows .mixedOrders=true)(hl:CI P N ops draw=some qT)(h:K0 P qT K Qp σ)(hS:Sat N w0 m0 pl σ ρ m act w)(hQ:∀bE w',G6 N w0 m0 pl K bE w'->Q .normal bE w')
  (U8:∀ch bE w',GQ N w0 m0 pl Qp ch bE w'->Q (.panic ch) bE w') (hp:draw=true->∀c (a:Act) (d:Tmp) (v:Value) w,Q (.panic c) (a.put (some d) v) w->Q (.panic c) a w):(Code.region id ops draw).wpIn (FF ro) 1 P Q act w:=by
 unfold CI at hl;split at hl
 .rename_i hd;subst hd;dsimp only at hl;split at hl
  .rename_i hc;simp only[dK,decide_eq_true_eq]at hc;obtain⟨⟨⟨⟨c1,Fj⟩,c2⟩,c3⟩,c4⟩:=hc;have Wq:Sat N w0 m0 pl σ ρ m act w.drew:=hS.ext (Ext.dr w);exact Zdn _ _ _ hm (hp rfl) c1 Fj c2 c3 (YV Fj U8 _ qT c4 hl h Wq hQ)
  .cases hl
 .rename_i hd
  have:draw=false:=by simpa using hd
  subst this;exact wpIn_region_list (Zfy U8 _ qT hl h hS hQ)
def P1 (N:Nat)(w0:World)(m0:Env w0)(pl:List Nat)(Q:sK->AS->Prop)(Qp:PV->AS->Prop):Exit->Act->World->Prop
 |.panic ch,a,w=>GQ N w0 m0 pl Qp ch a w
 |e,a,w=>oE N w0 m0 pl Q e a w
theorem P1.of {Q:sK->AS->Prop}{e:Exit}{a:Act}{w:World}(h:oE N w0 m0 pl Q e a w):P1 N w0 m0 pl Q Qp e a w:=by
 cases e with
 |panic ch=>exact h.elim
 |_=>exact h
def nX:Code->Bool
 |.region _ _ d=>!d
 |.seq a b=>nX a&&nX b
 |.cond _ a b=>nX a&&nX b
 |.block _ c=>nX c
 |.loop c=>nX c
 |.scope c=>nX c
 |_=>true
theorem ZkR {a b:Code}(h:nX (.seq a b)=true):nX a=true/\nX b=true:=by simpa[nX]using h
theorem Ziw {c:Operand}{a b:Code}(h:nX (.cond c a b)=true):nX a=true/\nX b=true:=by simpa[nX]using h
theorem Zg8 {ro:Option Nat}(QS:Gq ro w0 pl)(hm:P.follows .mixedOrders=true):∀(c:Code) (l:bH) (Q:sK->AS->Prop) {σ:AS} {ρ:Site->Loc} {m:Mem} {act:Act} {w:World},(m0.strict=true->kL c=true)->(m0.strict=true->nX c=true)->dQ P N c=some l->fO P l Q Qp σ->Sat N w0 m0 pl σ ρ m act w->c.wpIn (FF ro) 1 P (P1 N w0 m0 pl Q Qp) act w:=by
 intro c;induction c with
 |skip=>
  intro l Q σ ρ m act w bS D7 hl h hS;simp[dQ]at hl;subst hl;exact wpIn_skip ⟨σ,ρ,m,h,hS⟩
 |region id ops draw=>
  intro l Q σ ρ m act w bS D7 hl h hS;simp only[dQ]at hl;split at hl
  .rename_i qT k1;cases hl;exact ZlX hm k1 h hS (fun _ _ k=>k) (fun _ _ _ k=>k) (fun hd _ _ _ _ _ ⟨v,x,τ,ρ,m,a',q1,q2,_,q3⟩=>⟨v,x,τ,ρ,m,a',q1,q2.trans rfl,fun e=>by have:=D7 e;rw[hd]at this;simp[nX]at this,q3⟩)
  .split at hl
   .rename_i hd;subst hd;simp only[eB]at hl;obtain⟨T',k1,rfl⟩:=hl;exact wpIn_mono (Znl (Q:=oE N w0 m0 pl Q) hm k1 h hS (fun _ _ k=>k) (fun _ _ _ _ _ h=>h)) (fun _ _ _ h=>P1.of h)
   .cases hl
 |seq a b T0 r4=>
  intro l Q σ ρ m act w bS D7 hl h hS;simp only[dQ]at hl;split at hl
  .rename_i x y h1 h2;cases hl;refine wpIn_seq (wpIn_mono (T0 x _ (fun e=>(Oy (bS e)).1) (fun e=>(ZkR (D7 e)).1) h1 h hS) (fun e bE w' hq=>?_));cases e with
   |normal=>
    obtain⟨τ,bX,m',k1,k2⟩:=hq;exact r4 y Q (fun e=>(Oy (bS e)).2) (fun e=>(ZkR (D7 e)).2) h2 k1 k2
   |exit id=>exact hq
   |ret=>exact hq
   |goto l=>exact hq.elim
   |panic ch=>exact hq
   |outgrown=>exact hq.elim
  .cases hl
 |cond c a b T0 r4=>
  intro l Q σ ρ m act w bS D7 hl h hS;simp only[dQ]at hl;split at hl
  .rename_i c' x y h0 h1 h2;cases hl;unfold fO at h;split at h
   .rename_i t ht;have hc:=hS.aU h0;rw[ht]at hc;refine wpIn_cond hc.ON ?_;cases t
    .exact r4 y Q (fun e=>(Px (bS e)).2) (fun e=>(Ziw (D7 e)).2) h2 (by simpa using h) hS
    .exact T0 x Q (fun e=>(Px (bS e)).1) (fun e=>(Ziw (D7 e)).1) h1 (by simpa using h) hS
   .exact h.elim
  .cases hl
 |block id c ih=>
  intro l Q σ ρ m act w bS D7 hl h hS;simp only[dQ,eB]at hl;obtain⟨x,k1,rfl⟩:=hl;refine wpIn_block (wpIn_mono (ih x _ bS D7 k1 h hS) (fun e bE w' hq=>?_));cases e with
  |exit MS=>
   obtain⟨τ,bX,m',q1,q2⟩:=hq;by_cases he:MS=id
   .subst he;simp only[j9,if_true]at q1;simp only[Exit.inBlock,if_true];exact⟨τ,bX,m',q1,q2⟩
   .simp only[j9,he,if_false]at q1;simp only[Exit.inBlock,he,if_false];exact⟨τ,bX,m',q1,q2⟩
  |normal=>exact hq
  |ret=>exact hq
  |goto l=>exact hq.elim
  |panic ch=>exact hq
  |outgrown=>exact hq.elim
 |loop c ih=>
  intro l Q σ ρ m act w bS D7 hl h hS;simp only[dQ,eB]at hl;obtain⟨x,k1,rfl⟩:=hl;obtain⟨I,n,τ,kM,hI,aB⟩:=h;obtain⟨pE,m1,wP⟩:=kM _ _ _ _ _ _ _ _ hS;refine wpIn_loop_ghost (fun n act w=>∃τ ρ m,I n τ/\Sat N w0 m0 pl τ ρ m act w) n ⟨τ,pE,m1,hI,wP⟩ ?_;intro n act w ⟨τ,ρ,m,hI,hS⟩;refine wpIn_mono (ih x _ bS D7 k1 (aB n τ hI) hS) (fun e bE w' hq=>?_);cases e with
  |normal=>
   obtain⟨zI,bX,m',⟨k,S3,q1,q2,q3⟩,q4⟩:=hq;obtain⟨PH,m2,q5⟩:=q2 _ _ _ _ _ _ _ _ q4;exact⟨k,q1,S3,PH,m2,q3,q5⟩
  |exit id=>exact hq
  |ret=>exact hq
  |goto l=>exact hq.elim
  |panic ch=>exact hq
  |outgrown=>exact hq.elim
 |scope c ih=>
  intro l Q σ ρ m act w bS D7 hl h hS;refine ZbX (wpIn_mono (ih l Q bS D7 hl h hS) (fun e bE w' hq=>?_));cases e<;>first|exact hq|exact hq.elim
 |label l0=>
  intro l Q σ ρ m act w bS D7 hl h hS;simp[dQ]at hl;subst hl;exact wpIn_label ⟨σ,ρ,m,h,hS⟩
 |exit id=>
  intro l Q σ ρ m act w bS D7 hl h hS;simp[dQ]at hl;subst hl;exact wpIn_exit ⟨σ,ρ,m,h,hS⟩
 |ret=>
  intro l Q σ ρ m act w bS D7 hl h hS;simp[dQ]at hl;subst hl;exact wpIn_ret ⟨σ,ρ,m,h,hS⟩
 |rangeFunc g ps a b=>
  intro l Q σ ρ m act w bS D7 hl h hS;simp only[dQ]at hl;split at hl
  .rename_i g' la lb k1 k2 k3;cases hl;exact wpIn_mono (Zil QS k1 h hS (ZnV bS)) (fun _ _ _ h=>P1.of h)
  .cases hl
 |_=>intro l Q σ ρ m act w bS D7 hl h hS;simp[dQ]at hl
def J9 (Rp:PV->List (Site×aJ)->Prop)(x:PV)(σ:AS):Prop:=∃outs:List Site,outs.all dO=true/\(∀s∈outs,∀b,σ.b s=some b->b.dC dO=true)/\Rp x (σ.exp outs outs)
end
section
variable {P:Program}{σ:AS}{Q:sK->AS->Prop}{Qp:PV->AS->Prop}{K:AS->Prop}
theorem Zs7 {l:List LO}(h:oN P l K σ):K0 P l K Qp σ:=ZnJ h fun _ _ _ _ hk h=>PC hk h
theorem OW:∀{c:bH} {Q:sK->AS->Prop} {σ:AS},uO P c Q σ->fO P c Q Qp σ
 |.skip,_,_,h=>h
 |.region _,_,_,h=>Zs7 h
 |.jA _,_,_,h=>h
 |.seq a b,Q,σ,h=>OW (c:=a) (KX (c:=a) h fun e τ k=>by
   cases e with
   |normal=>exact OW (c:=b) k
   |exit id=>exact k
   |ret=>exact k)
 |.cond c a b,Q,σ,h=>by
  unfold uO at h;split at h
  .rename_i t ht;show(match σ.o c with
    |.pv (.bool t)=>if t=true then fO P a Q Qp σ else fO P b Q Qp σ
    |_=>False)
   rw[ht];cases t
   .simp only[Bool.false_eq_true,if_false]at h ⊢;exact OW (c:=b) h
   .simp only[if_true]at h ⊢;exact OW (c:=a) h
  .exact h.elim
 |.block id c,_,_,h=>OW (c:=c) h
 |.loop c,_,_,⟨I,n,τ,h1,h2,h3⟩=>⟨I,n,τ,h1,h2,fun n τ k=>OW (c:=c) (h3 n τ k)⟩
 |.exit _,_,_,h=>h
 |.ret,_,_,h=>h
 |.vM _ _ _ _ _ _,_,_,h=>h
theorem mI {a b:bH}(h:eM P a (iV (fO P b Q Qp) Q) σ):fO P (.seq a b) Q Qp σ:=OW (c:=a) (J1 h)
theorem Zht {o:LO}{post:List LO}:∀{pre:List LO} {σ:AS},oN P pre (wC P o Qp) σ->K0 P (pre++o::post) K Qp σ
 |[],_,h=>.inr h
 |a::r,σ,h=>.inl (PC (fun τ k=>Zht (pre:=r) k) h)
theorem Hg {o:LO}{post:List LO}(pre:List LO)(h:C0 P pre (wC P o Qp) σ):fO P (.region (pre++o::post)) Q Qp σ:=Zht (Mm h)
theorem xF {o:LO}{post:List LO}{c:bH}(pre:List LO)(h:C0 P pre (wC P o Qp) σ):fO P (.seq (.region (pre++o::post)) c) Q Qp σ:=Zht (Mm h)
theorem ZpT (d:Nat)(aE:List Site){f:bB}{args:List bB}{g:FuncId}{fs cs:List AV}{B:List (Site×aJ)}{gG:List AV}{R:PV->List (Site×aJ)->Prop}(h1:mT (σ.o f)=some (g,fs,cs))(h2:EY aE=true)(h3:aE.all (fun s=>!s.fP d)=true)
  (hB:pD σ aE 0 aE=some B) (h4:AV.hZ (fun x=>aE.contains x) (fs++args.map σ.o++cs)=true) (ha:AV.iT (kF aE) (fs++args.map σ.o++cs)=gG) (hC:x9 P g gG B R)
  (hK:∀x B',R x B'->(∀p∈B',cA aE p.1=true/\p.2.dC (cA aE)=true)/\Qp x (((cT aE σ).bG d).lX (fB aE d B'))):X3 P f args Qp σ:=by
 refine⟨d,[],aE,g,fs,cs,B,?_,UI h2,h3,hB,h4,?_⟩
 .unfold mT at h1;split at h1
  .rename_i e;cases h1;exact .inl e
  .rename_i tP iM e;cases h1;exact .inr ⟨tP,iM,e,rfl,rfl⟩
  .cases h1
 .have:(fs++args.map (aL [] σ).o++cs)=fs++args.map σ.o++cs:=rfl
  rw[this,ha];exact hC.mono hK
theorem Zi8 {a b:bH}(h:fO P a (iV (fO P b Q Qp) Q) Qp σ):fO P (.seq a b) Q Qp σ:=h
theorem Zg9 {id:Nat}{c:bH}(h:fO P c (j9 id Q) Qp σ):fO P (.block id c) Q Qp σ:=h
theorem ZoW {c:bH}(I:Nat->AS->Prop)(h0:∃n τ,Sub τ σ/\I n τ)(round:∀J:Nat->AS->Prop,(∀k τ,I k τ->J k τ)->∀n τ,I n τ->fO P c (iV (again J n) Q) Qp τ):fO P (.loop c) Q Qp σ:=
 let ⟨n,τ,h1,h2⟩:=h0;⟨I,n,τ,h1,h2,fun n τ h=>round I (fun _ _ h=>h) n τ h⟩
theorem ZnH (d:Nat)(fz aE:List Site){f:bB}{args:List bB}{g:FuncId}{fs cs:List AV}{B:List (Site×aJ)}{gG:List AV}{R:PV->List (Site×aJ)->Prop}(h1:mT ((aL fz σ).o f)=some (g,fs,cs))(h2:EY aE=true)(h3:aE.all (fun s=>!s.fP d)=true)
  (hB:pD (aL fz σ) aE 0 aE=some B) (h4:AV.hZ (fun x=>aE.contains x) (fs++args.map (aL fz σ).o++cs)=true) (ha:AV.iT (kF aE) (fs++args.map (aL fz σ).o++cs)=gG) (hC:x9 P g gG B R)
  (hK:∀x B',R x B'->(∀p∈B',cA aE p.1=true/\p.2.dC (cA aE)=true)/\Qp x (((cT aE (aL fz σ)).bG d).lX (fB aE d B'))):X3 P f args Qp σ:=by
 refine⟨d,fz,aE,g,fs,cs,B,?_,UI h2,h3,hB,h4,?_⟩
 .unfold mT at h1;split at h1
  .rename_i e;cases h1;exact .inl e
  .rename_i tP iM e;cases h1;exact .inr ⟨tP,iM,e,rfl,rfl⟩
  .cases h1
 .rw[ha];exact hC.mono hK
theorem Zmf (d:Nat)(fz aE:List Site){f:bB}{args:List bB}{d0:Nat}{K:AV->AS->Prop}{g:FuncId}{fs cs:List AV}{B:List (Site×aJ)}{gG:List AV}{R:AV->List (Site×aJ)->Prop}(h1:mT ((aL fz σ).o f)=some (g,fs,cs))(h2:EY aE=true)(h3:aE.all (fun s=>!s.fP d)=true)
  (hB:pD (aL fz σ) aE 0 aE=some B) (h4:AV.hZ (fun x=>aE.contains x) (fs++args.map (aL fz σ).o++cs)=true) (ha:AV.iT (kF aE) (fs++args.map (aL fz σ).o++cs)=gG) (hC:cU P g gG B R)
  (hK:∀r B',R r B'->r.dC (cA aE)=true/\(∀p∈B',cA aE p.1=true/\p.2.dC (cA aE)=true)/\K (r.map (gI aE d)) (((cT aE (aL fz σ)).bG d).lX (fB aE d B'))):
  zD P f args d0 K σ\/(GX P f args K σ\/GY P f args K σ):=by
 refine .inr (.inl ⟨d,fz,aE,g,fs,cs,B,?_,UI h2,h3,hB,h4,?_⟩)
 .unfold mT at h1;split at h1
  .rename_i e;cases h1;exact .inl e
  .rename_i tP iM e;cases h1;exact .inr ⟨tP,iM,e,rfl,rfl⟩
  .cases h1
 .rw[ha];exact hC.mono hK
theorem ZoX {c:bB}{a b:bH}{t:Bool}(hc:σ.o c=.pv (.bool t))(h:fO P (if t=true then a else b) Q Qp σ):fO P (.cond c a b) Q Qp σ:=by
 unfold fO;rw[hc];cases t
 .simpa using h
 .simpa using h
theorem Znu {args:List bB}{xs:List PV}(h:σ.tY args=some xs):args.map σ.o=xs.map .pv:=by
 obtain⟨h1,h2⟩:=TZ h;refine List.ext_getElem? fun j=>?_
 rw[bY,bY];cases e:args[j]? with
 |none=>rw[List.getElem?_eq_none (by have:=List.getElem?_eq_none_iff.1 e;omega)];rfl
 |some y=>
  obtain⟨x,k1,k2⟩:=h2 j y e;rw[k1,vB,vB,k2]
theorem UO {d:Nat}{g:FuncId}{xs cs:List PV}{f:bB}{args:List bB}{op:lY}{lt:Bool}{R:PV->List (Site×aJ)->Prop}(fz:List Site)(h1:(aL fz σ).o f=.pv (.fn g [] cs))(h2:(aL fz σ).tY args=some xs)
  (hc:x9 P g ((xs++cs).map .pv) [] R) (hop:op=.call f args) (hK:∀x,R x []->Qp x ((aL fz σ).bG d)) (hR:∀x B,R x B->B=[]) {dst:Option Nat}:wC P ⟨dst,none,op,lt⟩ Qp σ:=by
 refine⟨rfl,.inl ⟨f,args,hop,d,fz,[],g,[],cs.map .pv,[],.inr ⟨[],cs,h1,rfl,rfl⟩,List.nodup_nil,rfl,rfl,?_,?_⟩⟩
 .have e:=Znu h2;rw[e]
  have:∀l:List PV,AV.hZ (fun x=>([]:List Site).contains x) (l.map .pv)=true:=fun l=>by
   induction l with
   |nil=>rfl
   |cons a r ih=>rw[iS];simp only[AV.hZ,AV.dC,ih];rfl
  rw[List.nil_append,<-mL];exact this _
 .have e:=Znu h2;rw[e,List.nil_append,<-mL];have hm:∀l:List PV,AV.iT (kF []) (l.map .pv)=l.map .pv:=fun l=>by
   induction l with
   |nil=>rfl
   |cons a r ih=>rw[iS];simp only[AV.iT,AV.map,ih]
  rw[hm];refine hc.mono fun x B' h=>?_
  have:=hR x B' h
  subst this;exact⟨(fun p hp=>by cases hp),hK x h⟩
end
def AV.Wk (a a':AV):Prop:=∀(ρ:Site->Loc) (m:Mem) (v:Value),bQ ρ m v a->bQ ρ m v a'
theorem Zrx {nl:Option Bool}{s:Site}{n:Nat}:AV.Wk (.pv (.emp nl)) (.vec s n 0 0):=fun ρ m v h=>by
 have:=h.nN
 cases this with
 |emp a _ h0 h1 h2=>exact .nG s n 0 a h2
theorem LR {x x':PV}(h:∀m v,dH m v x->dH m v x'):AV.Wk (.pv x) (.pv x'):=fun ρ m v hv=>.pv _ _ (h m v hv.nN)
section
variable {N:Nat}{w0:World}{m0:Env w0}{pl:List Nat}{σ:AS}{ρ:Site->Loc}{m:Mem}{act:Act}{w:World}
theorem Sub.wkT {t:Nat}{a:AV}(a':AV)(h:σ.t t=some a)(hw:a.Wk a'):Sub (σ.put t a') σ:=fun _ _ _ _ ρ m act w hS=>by
 refine⟨ρ,m,hS.sM,hS.sz,fun t' b k=>?_,hS.bx,hS.eA,hS.mem,hS.eQ,hS.fM,hS.keep,hS.base,hS.qJ,hS.par⟩;rw[AS.ZxU]at k;split at k
 .rename_i e;subst e;cases k;obtain⟨v,h1,h2⟩:=hS.tm t' a h;exact⟨v,h1,hw _ _ _ h2⟩
 .exact hS.tm t' b k
theorem Sub.aX {s:Site}{ax:List AV}{i:Nat}{a:AV}(a':AV)(h:σ.b s=some (.cells ax))(hi:ax[i]?=some a)(hw:a.Wk a'):Sub (σ.set s (.cells (ax.set i a'))) σ:=fun _ _ _ _ ρ m act w hS=>by
 refine⟨ρ,m,hS.ZxV h ?_ (fun k hk=>?_)⟩
 .obtain⟨h0,cs,T,h1,h2,h3⟩:=hS.bx s _ h;refine⟨h0,cs,T,h1,by rw[List.length_set];exact h2,fun j c b k1 k2=>?_⟩;by_cases e:j=i
  .subst e;rw[O6 (cD.1 hi).1]at k2;cases k2;obtain⟨q1,q2⟩:=h3 j c a k1 hi;exact⟨q1,hw _ _ _ q2⟩
  .rw[List.getElem?_set_ne (fun e'=>e e'.symm)]at k2;exact h3 j c b k1 k2
 .obtain⟨r1,r2⟩:=FD rfl hk;exact .inl ⟨r1,r2⟩
theorem Sub.Zye (D:Nat)(e:TypeId){n:Nat}(hn:0<n):Sub ((σ.bG D).add (.loc D 0) (.arr e n [])) σ:=fun _ _ _ _ ρ m act w hS=>by
 have h:=hS.bG D;have hN:=rG.bG D σ;generalize σ.bG D=σ at h hN;have K4:=Mx ρ D 0 ⟨0,0,0,false⟩;have hu:=S0 ρ (.loc D 0) ⟨0,0,0,false⟩;have look:∀s' b',(σ.add (.loc D 0) (.arr e n [])).b s'=some b'->(s'=.loc D 0/\b'=.arr e n [])\/(s'≠.loc D 0/\σ.b s'=some b'):=fun s' b' k=>by
  rw[AS.TR]at k;split at k
  .rename_i e;cases k;exact .inl ⟨e,rfl⟩
  .rename_i e;exact .inr ⟨e,k⟩
 have old:∀s' b' k,(σ.add (.loc D 0) (.arr e n [])).b s'=some b'->fL (iQ ρ (.loc D 0) ⟨0,0,0,false⟩) w s' b' k->σ.b s'=some b'/\fL ρ w s' b' k:=fun s' b' k k1 r=>by
  rcases look s' b' k1 with⟨rfl,rfl⟩|⟨q0,q1⟩
  .obtain⟨r1,_⟩:=FD rfl r;rw[hu]at r1;cases r1
  .rw[R7 (BD ρ _ q0)]at r;exact⟨q1,r⟩
 refine⟨iQ ρ (.loc D 0) ⟨0,0,0,false⟩,m,h.sM,h.sz,fun t a k=>?_,fun s' b' k=>?_,fun s1 s2 b1 b2 k k1 k2 r1 r2=>?_,h.mem,fun s' b' k k1 r=>?_,fun s' b' k k1 r=>?_,h.keep,h.base,h.qJ,fun j=>(K4 _ rfl).trans (h.par j)⟩
 .obtain⟨v,k1,k2⟩:=h.tm t a k;exact⟨v,k1,k2.mono (Le.refl m) K4 (hN.t t a k)⟩
 .rcases look s' b' k with⟨rfl,rfl⟩|⟨q0,q1⟩
  .exact⟨hn,.inl ⟨by rw[hu],rfl,by rw[hu]⟩⟩
  .exact(h.bx s' b' q1).stay (Le.refl m) K4 (hN.b s' b' q1).1 (hN.b s' b' q1).2 (fun _ _=>rfl)
 .obtain⟨p1,p2⟩:=old s1 b1 k k1 r1;obtain⟨q1,q2⟩:=old s2 b2 k k2 r2;exact h.eA s1 s2 b1 b2 k p1 q1 p2 q2
 .obtain⟨p1,p2⟩:=old s' b' k k1 r;exact h.eQ s' b' k p1 p2
 .obtain⟨p1,p2⟩:=old s' b' k k1 r;exact h.fM s' b' k p1 p2
end
def AS.cW (D:Nat)(e:TypeId)(n t:Nat)(σ:AS):AS:=((σ.bG D).add (.loc D 0) (.arr e n [])).put t (.vec (.loc D 0) n 0 0)
theorem cW {σ:AS}(D:Nat)(e:TypeId)(n t:Nat){nl:Option Bool}(h:σ.t t=some (.pv (.emp nl)))(hn:0<n):Sub (σ.cW D e n t) σ:=by
 refine Sub.trans' (b:=(σ.bG D).add (.loc D 0) (.arr e n [])) ?_ (Sub.Zye D e hn);refine Sub.wkT (a:=.pv (.emp nl)) _ ?_ Zrx;show(σ.bG D).t t=_;rw[AS.Lu,h];rfl
def AS.mB (D:Nat)(e:TypeId)(n:Nat)(s:Site)(cs:List AV)(i:Nat)(σ:AS):AS:=((σ.bG D).add (.loc D 0) (.arr e n [])).set s (.cells (cs.set i (.vec (.loc D 0) n 0 0)))
theorem mB {σ:AS}(D:Nat)(e:TypeId)(n:Nat){s:Site}{cs:List AV}(i:Nat){nl:Option Bool}(h:(σ.bG D).b s=some (.cells cs))(hi:cs[i]?=some (.pv (.emp nl)))(hn:0<n):Sub (σ.mB D e n s cs i) σ:=by
 refine Sub.trans' (b:=(σ.bG D).add (.loc D 0) (.arr e n [])) ?_ (Sub.Zye D e hn);refine Sub.aX (a:=.pv (.emp nl)) _ ?_ hi Zrx;have hs:s≠.loc D 0:=fun e'=>by
  subst e';rw[AS.OQ,if_pos (by simp[Site.fP])]at h;cases h
 rw[AS.TR,if_neg hs];exact h
theorem Sub.q8 {σ:AS}(D t:Nat){s:Site}{e n lo len:Nat}{xs:List PV}(h:σ.t t=some (.vec s n lo len))(hb:σ.b s=some (.arr e n xs))(hl:lo+len=xs.length):
  Sub ((((σ.drop s).bG D).add (.loc D 0) (.arr e n (xs.drop lo))).put t (.vec (.loc D 0) n 0 len)) σ:=fun _ _ _ _ ρ m act w hS=>by
 have hD:=(hS.drop s).bG D;have hN:=rG.bG D (σ.drop s);obtain⟨v,xM,Td⟩:=hS.tm t _ h;have uJ:=hS.bx s _ hb;have xN:0<n:=uJ.1;have nL:(xs.drop lo).length=len:=by rw[uQ];omega
 have gone:∀s' b',((σ.drop s).bG D).b s'=some b'->s'≠s/\∃b2,σ.b s'=some b2/\b'=b2.bG D:=fun s' b' k=>by
  rw[AS.OQ]at k;split at k
  .cases k
  .obtain⟨b2,k2,rfl⟩:=eB.1 k;rw[AS.KC]at k2;split at k2
   .cases k2
   .rename_i dA;exact⟨dA,b2,k2,rfl⟩
 obtain⟨L,Kx,hL2,hL3⟩:∃L:Loc,(L.real=true->(ρ s).real=true/\L.b=(ρ s).b)/\bQ (iQ ρ (.loc D 0) L) m v (.vec (.loc D 0) n 0 len)/\kT (iQ ρ (.loc D 0) L) m w (.loc D 0) (.arr e n (xs.drop lo)):=by
  rcases Td.EX with⟨cap,rfl,c0,c1,c2⟩|⟨a,rfl,c0,jP⟩
  .have hu:=S0 ρ (.loc D 0) ⟨(ρ s).b,(ρ s).o+lo*n,cap,true⟩;refine⟨⟨(ρ s).b,(ρ s).o+lo*n,cap,true⟩,fun _=>⟨c2,rfl⟩,?_,?_⟩
   .have:=bQ.vec (ρ:=iQ ρ (.loc D 0) ⟨(ρ s).b,(ρ s).o+lo*n,cap,true⟩) (m:=m) (.loc D 0) n 0 len cap c0 (by rw[hu];simp) (by rw[hu])
    rw[hu]at this;simpa using this
   .obtain⟨_,hB|⟨hr,cs,g1,g2,g3,g4,g5⟩⟩:=uJ
    .rw[hB.1]at c2;cases c2
    refine⟨xN,.inr ⟨by rw[hu],cs,by rw[hu];exact g1,?_,?_,?_,fun i x hi=>?_⟩⟩
    .rw[hu]
     have:(lo+cap)*n<=(ρ s).cap*n:=I5 _ c1
     rw[Nat.add_mul]at this;show(ρ s).o+lo*n+cap*n<=_;omega
    .rw[hu,nL];exact c0
    .rw[hu];show cap<=_;omega
    .rw[mW]at hi;obtain⟨k1,k2⟩:=g5 (lo+i) x hi;refine⟨k1,fun j c hj=>?_⟩;obtain⟨d,q1,q2,q3⟩:=k2 j c hj;rw[hu];refine⟨d,?_,q2,q3⟩;rw[<-q1,Nat.add_mul];show cs[(ρ s).o+lo*n+i*n+j]?=_;congr 1;omega
  .have hu:=S0 ρ (.loc D 0) ⟨0,0,0,false⟩;have hx:xs.drop lo=[]:=List.eq_nil_of_length_eq_zero (by rw[nL];exact c0);refine⟨⟨0,0,0,false⟩,fun e'=>(by cases e'),?_,?_⟩
   .subst c0;exact .nG _ _ _ _ jP
   .exact⟨xN,.inl ⟨by rw[hu],hx,by rw[hu]⟩⟩
 have hAdd:Sat _ _ _ _ (((σ.drop s).bG D).add (.loc D 0) (.arr e n (xs.drop lo))) (iQ ρ (.loc D 0) L) m act w:=hD.add hN hL3 (fun hr s' b' k r=>by
   obtain⟨k1,k2⟩:=Kx hr;obtain⟨q1,b2,q2,rfl⟩:=gone s' b' k;rw[k2]at r;exact q1 (hS.eA s' s b2 _ _ q2 hb (KR.1 r) (xV k1))) (fun hr=>by
   obtain⟨k1,k2⟩:=Kx hr;rw[k2];exact hS.off s _ hb k1) (fun hr=>by
   obtain⟨k1,k2⟩:=Kx hr;rw[k2];exact hS.own s _ hb k1)
 refine⟨iQ ρ (.loc D 0) L,m,hAdd.sM,hAdd.sz,fun t' b k=>?_,hAdd.bx,hAdd.eA,hAdd.mem,hAdd.eQ,hAdd.fM,hAdd.keep,hAdd.base,hAdd.qJ,hAdd.par⟩;rw[AS.ZxU]at k;split at k
 .rename_i e';subst e';cases k;exact⟨v,xM,hL2⟩
 .exact hAdd.tm t' b k
def AS.q8 (D t:Nat)(s:Site)(e n len:Nat)(ys:List PV)(σ:AS):AS:=(((σ.drop s).bG D).add (.loc D 0) (.arr e n ys)).put t (.vec (.loc D 0) n 0 len)
theorem q8 {σ:AS}(D t:Nat){s:Site}{e n lo len:Nat}{xs:List PV}(ys:List PV)(h:σ.t t=some (.vec s n lo len))(hb:σ.b s=some (.arr e n xs))(hl:lo+len=xs.length)(hy:xs.drop lo=ys):Sub (σ.q8 D t s e n len ys) σ:=by
 subst hy;exact Sub.q8 D t h hb hl
mutual
theorem AV.Lr {d:Nat}:∀a:AV,a.has d=false->a.dC (fun s=>!s.fP d)=true
 |.any,_=>rfl
 |.pv _,_=>rfl
 |.ptr s _,h=>by simp only[AV.has]at h;simp[AV.dC,h]
 |.lG s _ _ _,h=>by simp only[AV.has]at h;simp[AV.dC,h]
 |.vec s _ _ _,h=>by simp only[AV.has]at h;simp[AV.dC,h]
 |.mp s,h=>by simp only[AV.has]at h;simp[AV.dC,h]
 |.nQ s,h=>by simp only[AV.has]at h;simp[AV.dC,h]
 |.fn _ fs cs,h=>by
  simp only[AV.has,Bool.or_eq_false_iff]at h;simp only[AV.dC,AV.TT fs h.1,AV.TT cs h.2,Bool.and_self]
 |.agg cs,h=>by simp only[AV.has]at h;simp only[AV.dC,AV.TT cs h]
 |.bN vs,h=>by simp only[AV.has]at h;simp only[AV.dC,AV.TT vs h]
theorem AV.TT {d:Nat}:∀l:List AV,AV.rC d l=false->AV.hZ (fun s=>!s.fP d) l=true
 |[],_=>rfl
 |a::r,h=>by
  simp only[AV.rC,Bool.or_eq_false_iff]at h;simp only[AV.hZ,AV.Lr a h.1,AV.TT r h.2,Bool.and_self]
end
theorem aJ.Lr {d:Nat}{b:aJ}(h:b.has d=false):b.dC (fun s=>!s.fP d)=true:=by
 cases b with
 |cells bU=>exact AV.TT bU h
 |loop C ps nt tm st=>exact AV.TT _ h
 |arr e n xs=>rfl
 |map es=>rfl
 |ext E=>rfl
def pN (D:Nat)(s x:Site):Site:=match decide (x=s)with
 |true=>.loc D 0
 |false=>x
def AS.iX (D:Nat)(s:Site)(σ:AS):AS:=⟨(σ.bG D).tm.map fun p=>(p.1,p.2.map (pN D s)),(σ.bG D).bx.map fun p=>(pN D s p.1,p.2.iX (pN D s))⟩
theorem Sub.iX (D:Nat)(s:Site)(σ:AS):Sub (σ.iX D s) σ:=fun _ _ _ _ ρ m act w hS=>by
 have h:=hS.bG D;have hN:=rG.bG D σ;unfold AS.iX;generalize σ.bG D=σ at h hN;have hu:=S0 ρ (.loc D 0) (ρ s);have hg:∀x:Site,(!x.fP D)=true->iQ ρ (.loc D 0) (ρ s) (pN D s x)=ρ x:=fun x hx=>by
  unfold pN;by_cases e:x=s
  .subst e;rw[decide_eq_true rfl];exact hu
  .rw[decide_eq_false e];exact BD ρ _ (fun e'=>by subst e';simp[Site.fP]at hx)
 have look:∀(l:List (Site×aJ)) (s':Site) (b':aJ),(l.map fun p=>(pN D s p.1,p.2.iX (pN D s))).lookup s'=some b'->∃s0 b0,l.lookup s0=some b0/\s'=pN D s s0/\b'=b0.iX (pN D s):=by
  intro l;induction l with
  |nil=>intro s' b' k;simp at k
  |cons p r ih=>
   obtain⟨a,c⟩:=p;intro s' b' k;rw[iS]at k;by_cases e:s'=pN D s a
   .subst e;rw[mX]at k;cases k;exact⟨a,c,mX,rfl,rfl⟩
   .rw[jJ e]at k;obtain⟨s0,b0,h1,h2,h3⟩:=ih s' b' k;refine⟨s0,b0,?_,h2,h3⟩;rw[jJ (fun e'=>e (by rw[h2,e']))];exact h1
 have An:∀s0 b0,σ.b s0=some b0->(!s0.fP D)=true/\b0.dC (fun s=>!s.fP D)=true:=fun s0 b0 k=>by
  obtain⟨k1,k2⟩:=hN.b s0 b0 k;exact⟨by rw[k1];rfl,aJ.Lr k2⟩
 refine⟨iQ ρ (.loc D 0) (ρ s),m,h.sM,h.sz,fun t a k=>?_,fun s' b' k=>?_,fun s1 s2 b1 b2 k k1 k2 r1 r2=>?_,h.mem,fun s' b' k k1 r=>?_,fun s' b' k k1 r=>?_,h.keep,h.base,h.qJ,fun j=>(BD ρ _ (by simp)).trans (h.par j)⟩
 .have k':(σ.t t).map (AV.map (pN D s))=some a:=by rw[<-k];exact(UG (AV.map (pN D s)) t σ.tm).symm
  obtain⟨c,k1,rfl⟩:=eB.1 k';obtain⟨v,k2,k3⟩:=h.tm t c k1;exact⟨v,k2,k3.map hg (AV.Lr c (hN.t t c k1))⟩
 .obtain⟨s0,b0,k1,rfl,rfl⟩:=look σ.bx s' b' k;obtain⟨q1,q2⟩:=An s0 b0 k1;exact(h.bx s0 b0 k1).iX hg q1 q2
 .obtain⟨a1,c1,p1,rfl,rfl⟩:=look σ.bx s1 b1 k1;obtain⟨a2,c2,p2,rfl,rfl⟩:=look σ.bx s2 b2 k2;rw[h.eA a1 a2 c1 c2 k p1 p2 ((uU (hg a1 (An a1 c1 p1).1)).1 r1) ((uU (hg a2 (An a2 c2 p2).1)).1 r2)]
 .obtain⟨a1,c1,p1,rfl,rfl⟩:=look σ.bx s' b' k1;exact h.eQ a1 c1 k p1 ((uU (hg a1 (An a1 c1 p1).1)).1 r)
 .obtain⟨a1,c1,p1,rfl,rfl⟩:=look σ.bx s' b' k1;exact h.fM a1 c1 k p1 ((uU (hg a1 (An a1 c1 p1).1)).1 r)
section
variable {P:Program}{σ:AS}{K:AV->AS->Prop}
theorem ZlO (d i:Nat)(aE:List Site){f:bB}{args:List bB}{d0:Nat}{s:Site}{B:List (Site×aJ)}{gG:List AV}{R:AV->List (Site×aJ)->Prop}(h1:σ.o f=.nQ s)(hi:aE[i]?=some s)(h2:EY aE=true)(h3:aE.all (fun s=>!s.fP d)=true)
  (hB:pD σ aE 0 aE=some B) (h4:AV.hZ (fun x=>aE.contains x) (args.map σ.o)=true) (ha:AV.iT (kF aE) (args.map σ.o)=gG) (hC:GS P i gG B R)
  (hK:∀r B',R r B'->r.dC (cA aE)=true/\(∀p∈B',cA aE p.1=true/\p.2.dC (cA aE)=true)/\K (r.map (gI aE d)) (((cT aE σ).bG d).lX (fB aE d B'))):
  zD P f args d0 K σ\/(GX P f args K σ\/GY P f args K σ):=by
 refine .inr (.inr ⟨d,[],aE,s,i,B,h1,hi,UI h2,h3,hB,h4,?_⟩)
 have:args.map (aL [] σ).o=args.map σ.o:=rfl
 rw[this,ha];exact hC.mono hK
end
theorem ZaR {P:Program}{f:FuncId}{F:aW}{args:List AV}{B:List (Site×aJ)}{R:AV->List (Site×aJ)->Prop}(hm:P.follows .mixedOrders=true)(hf:fV P f=some F)(hn:args.length<=F.nt)
  (h:eM P F.code (lF (fun σ=>∃outs,aT outs F.res R σ)) ⟨eZ 0 args,B⟩):cU P f args B R:=Jc hm hf hn (fun _ ⟨_,h⟩=>Zjm h) (J1 h)
theorem cE (F:aW){f:FuncId}{args:List AV}{B:List (Site×aJ)}{R:AV->List (Site×aJ)->Prop}(h:eM prog F.code (lF (fun σ=>∃outs,aT outs F.res R σ)) ⟨eZ 0 args,B⟩)(hf:fV prog f=some F:=by kernel_rfl)(hn:args.length<=F.nt:=by exact tR rfl):cU prog f args B R:=ZaR mixed hf hn h
def tH (P:Program)(f:FuncId)(bU:List AV)(B:List (Site×aJ))(R:AV->List (Site×aJ)->Prop)(Rp:PV->List (Site×aJ)->Prop):Prop:=
 jS P f/\∀(w:World) (m:Mem) (ρ:Site->Loc) (vs:Array Value),vH ρ m w B->(Le m w.mem/\nP m w/\(B.map (·.1)).Nodup)->vs.size=bU.length->(∀(j:Nat) (d:Value) (c:AV),vs[j]?=some d->bU[j]?=some c->bQ ρ m d c)->
  Calls P f vs w (fun e w'=>lI w m ρ B R e w'\/P3 w m ρ B Rp e w')
section
variable {P:Program}{f:FuncId}{bU:List AV}{B:List (Site×aJ)}{R:AV->List (Site×aJ)->Prop}{Rp:PV->List (Site×aJ)->Prop}
theorem tH.ret (h:tH P f bU B R Rp)(hn:∀x B',¬Rp x B'):cU P f bU B R:=
 ⟨h.1,fun w m ρ vs h1 h2 h3 h4=>(h.2 w m ρ vs h1 h2 h3 h4).mono fun e w' k=>by
  rcases k with k|⟨v,rfl,v',r,B',bX,m',k1,⟨x,k2,k3⟩,k4⟩
  .exact k
  .exact absurd k3 (hn _ _)⟩
theorem tH.B8 (h:tH P f bU B R Rp)(hn:∀r B',¬R r B'):x9 P f bU B Rp:=
 ⟨h.1,fun w m ρ vs h1 h2 h3 h4=>(h.2 w m ρ vs h1 h2 h3 h4).mono fun e w' k=>by
  rcases k with⟨v,r,B',bX,m',k1,k2,k3⟩|k
  .exact absurd k2 (hn _ _)
  .exact k⟩
theorem tH.mono {R':AV->List (Site×aJ)->Prop}{Rp':PV->List (Site×aJ)->Prop}(h:tH P f bU B R Rp)(h1:∀r B',R r B'->R' r B')(h2:∀x B',Rp x B'->Rp' x B'):tH P f bU B R' Rp':=
 ⟨h.1,fun w m ρ vs a1 a2 a3 a4=>(h.2 w m ρ vs a1 a2 a3 a4).mono fun e w' k=>by
  rcases k with⟨v,r,B',bX,m',k1,k2,k3⟩|⟨v,k0,v',r,B',bX,m',k1,⟨x,k2,k3⟩,k4⟩
  .exact .inl ⟨v,r,B',bX,m',k1,h1 _ _ k2,k3⟩
  .exact .inr ⟨v,k0,v',r,B',bX,m',k1,⟨x,k2,h2 _ _ k3⟩,k4⟩⟩
theorem GQ.out {fn:Func}{w:World}{m:Mem}{ρ:Site->Loc}{hg:nP m w}{N:Nat}{ch:List PanicEntry}{bE:Act}{w':World}(hq:GQ N w ⟨m,ρ,[],hg,false⟩ (cK ρ w B) (J9 Rp) ch bE w'){R':Ending->World->Prop}(hR:∀e w',P3 w m ρ B Rp e w'->R' e w'):
  LeavesInM (FF none) 1 P fn bE.tmps R' bE.defers (.panicking ch) w':=by
 obtain⟨v,x,τ,pE,m1,yY,rfl,N8,_,⟨outs,q3,q4,q5⟩,hT,hv⟩:=hq;obtain⟨ds,tO,uZ,U5⟩:=hT.sM;have tO:=tO.nil;have Dz:Sat N w ⟨m,ρ,[],hg,false⟩ (cK ρ w B) τ pE m1 { yY with defers:=[]} w':=⟨⟨[],C5,yI,fun D hD=>by cases hD⟩,hT.sz,hT.tm,hT.bx,hT.eA,hT.mem,hT.eQ,hT.fM,hT.keep,hT.base,hT.qJ,hT.par⟩;obtain⟨w2,U7,hL⟩:=ZfF (P:=P) (fn:=fn) (R:=R') (ch:=[{ v,recovered:=false }]) (tm:=bE.tmps) ds uZ.1 U5 rfl Dz;rw[<-N8,tO];refine hL (hR _ _ ?_);obtain⟨bX,g1,g2,g3,g4⟩:=Nb U7 q3 q4;refine⟨v,rfl,v,.pv x,_,bX,m1,rfl,⟨x,rfl,q5⟩,g2,U7.base.1,U7.mem,fun i=>(g3 i).trans (U7.par i),fun s b i k r=>?_,U7.qJ,.pv _ _ hv.nN,U7.keep⟩;obtain⟨s0,b0,e1,e2⟩:=g4 s b i k r;exact U7.fM s0 b0 i e1 e2
theorem ZcH {F:aW}(hm:P.follows .mixedOrders=true)(hf:fV P f=some F)(hn:bU.length<=F.nt)(h:fO P F.code (lF (rS F.res R)) (J9 Rp) ⟨eZ 0 bU,B⟩):tH P f bU B R Rp:=by
 unfold fV at hf;split at hf
 .rename_i fn qH;split at hf
  .cases hf
  .rename_i M9;split at hf
   .rename_i c hc;split at hf
    .rename_i l rs hl uF;cases hf;refine⟨⟨fn,c,qH,by simpa using M9,hc⟩,fun w m ρ vs hB mQ P9 lK=>?_⟩;refine(callsIn_wide (n:=1)).1 (callsIn_of_wp_marks (F:=FF none) qH hc trivial ?_ rfl);have hS:Sat fn.ntmps w ⟨m,ρ,[],mQ.2.1,false⟩ (cK ρ w B) ⟨eZ 0 bU,B⟩ ρ m { tmps:=vs++Array.replicate (fn.ntmps-vs.size) undef,defers:=[]} w:=by
      have yO:bU.length<=fn.ntmps:=hn;refine⟨⟨[],C5,yI,fun D hD=>by cases hD⟩,by simp;omega,fun t a k=>?_,hB.bx,hB.eA,mQ.1,hB.eQ,fun s b i k r=>.inr (YI k r),cY.tS _ _,⟨Le.refl _,hB.free mQ.2.2⟩,fun b o v k=>.inl k,fun i=>rfl⟩;obtain⟨_,k1⟩:=Im bU 0 t a k;rw[Nat.sub_zero]at k1;have aI:t<vs.size:=by rw[P9];exact(cD.1 k1).1
      exact⟨vs[t],by rw[Array.getElem?_append,if_pos aI,vA aI],lK t _ a (vA aI) k1⟩
     refine wpIn_mono (Zg8 (ro:=none) (fun l e=>by cases e) hm c l _ (fun e=>by cases e) (fun e=>by cases e) hl h hS) (fun e bE w' hq=>?_);have fin:G6 fn.ntmps w ⟨m,ρ,[],mQ.2.1,false⟩ (cK ρ w B) (rS rs R) bE w'->LeavesInM (FF none) 1 P fn bE.tmps (fun e w'=>lI w m ρ B R e w'\/P3 w m ρ B Rp e w') bE.defers .returning w':=by
      rintro⟨τ,pE,m1,SN,hT⟩;obtain⟨ds,tO,uZ,U5⟩:=hT.sM;have tO:=tO.nil;have Dz:Sat fn.ntmps w ⟨m,ρ,[],mQ.2.1,false⟩ (cK ρ w B) τ pE m1 { bE with defers:=[]} w':=⟨⟨[],C5,yI,fun D hD=>by cases hD⟩,hT.sz,hT.tm,hT.bx,hT.eA,hT.mem,hT.eQ,hT.fM,hT.keep,hT.base,hT.qJ,hT.par⟩;obtain⟨w2,U7,hL⟩:=Zex (P:=P) (fn:=fn) (R:=fun e w'=>lI w m ρ B R e w'\/P3 w m ρ B Rp e w') ds uZ.1 U5 rfl Dz;rw[tO];refine hL ?_;obtain⟨fz,outs,la,q1,q2,q3,q4,q5⟩:=SN;obtain⟨m2,hF⟩:=U7.aY fz;obtain⟨ZI,r1,r2,r3⟩:=Nw fn.results.toList rs la uF q1 hF;obtain⟨bX,g1,g2,g3,g4⟩:=Nb hF q3 q4;have CZ:=ZkP r2 r3;refine⟨_,?_,.inl ⟨_,_,_,bX,m2,rfl,q5,g2,hF.base.1,hF.mem,fun i=>(g3 i).trans (hF.par i),fun s b i k r=>?_,hF.qJ,CZ.map g1 q2,hF.keep⟩⟩
      .show(do let vs <-fn.results.mapM (vN bE.tmps);pure (if h:vs.size=1 then vs[0]else .tuple vs):Sem Value).run P w2=_;rw[Sem.run_bind,Array.mapM_eq_mapM_toList,Sem.run_map,r1];rfl
      .obtain⟨s0,b0,e1,e2⟩:=g4 s b i k r;exact hF.fM s0 b0 i e1 e2
     cases e with
     |normal=>exact fin hq
     |ret=>exact fin hq
     |exit id=>obtain⟨τ,pE,m1,q,_⟩:=hq;exact q.elim
     |goto l=>exact hq.elim
     |outgrown=>exact hq.elim
     |panic ch=>exact GQ.out hq (fun _ _ k=>.inr k)
    .cases hf
   .cases hf
 .cases hf
theorem GZ {c:bH}{Q:sK->AS->Prop}{Qp:PV->AS->Prop}{σ:AS}(h:eM P c Q σ):fO P c Q Qp σ:=OW (J1 h)
end
theorem cX (F:aW){f:FuncId}{bU:List AV}{B:List (Site×aJ)}{R:AV->List (Site×aJ)->Prop}{Rp:PV->List (Site×aJ)->Prop}(h:fO prog F.code (lF (rS F.res R)) (J9 Rp) ⟨eZ 0 bU,B⟩)(hf:fV prog f=some F:=by kernel_rfl)(hn:bU.length<=F.nt:=by exact tR rfl):tH prog f bU B R Rp:=ZcH mixed hf hn h
theorem BF {m:Mem}{v:Value}{nl:Option Bool}{n:Nat}(h:dH m v (.emp nl)):dH m v (.aF false n []):=by
 cases h with
 |emp a _ h0 h1 h2=>exact .aF a 0 false n [] (fun _=>[]) (by simp) (by simp) (fun _=>rfl) h2 (fun hh=>by cases hh) (fun i x hx=>by simp at hx) (fun i x hx=>by simp at hx) (fun i x j d c hx=>by simp at hx)
theorem Zr4 {m:Mem}{v:Value}{cs iM:List PV}(hl:cs.length=iM.length)(hw:∀(j:Nat) (c c':PV) (d:Value),cs[j]?=some c->iM[j]?=some c'->dH m d c->dH m d c')(h:dH m v (.agg cs)):dH m v (.agg iM):=by
 cases h with
 |agg vs _ h0 h1 h2=>
  refine .agg vs iM (by omega) h1 (fun j d c k1 k2=>?_);have hj:j<cs.length:=by have:=(cD.1 k2).1;omega
  exact hw j cs[j] c d (bC hj) k2 (h2 j d _ k1 (bC hj))
theorem cU.Yq {P:Program}{f:FuncId}{xs ys:List PV}{B:List (Site×aJ)}{R:AV->List (Site×aJ)->Prop}(h:cU P f (ys.map .pv) B R)(hl:xs.length=ys.length)(hw:∀(j:Nat) (x y:PV) (m:Mem) (v:Value),xs[j]?=some x->ys[j]?=some y->dH m v x->dH m v y):cU P f (xs.map .pv) B R:=by
 refine⟨h.1,fun w m ρ vs h1 h2 h3 h4=>h.2 w m ρ vs h1 h2 (by simpa[hl]using h3) (fun j d c k1 k2=>?_)⟩;rw[bY]at k2;obtain⟨y,hy,rfl⟩:=eB.1 k2;have hj:j<xs.length:=by rw[hl];exact(cD.1 hy).1
 have:=h4 j d (.pv xs[j]) k1 (by rw[bY,bC hj];rfl)
 exact .pv _ _ (hw j _ _ _ _ (bC hj) hy this.nN)
theorem cU.j5 {P:Program}{f:FuncId}{xs:List AV}{B:List (Site×aJ)}{x':PV}(h:cU P f xs B (fun r B=>∃x,r=.pv x/\B=[]/\∀m v,dH m v x->dH m v x')):cU P f xs B (fun r B=>r=.pv x'/\B=[]):=by
 refine⟨h.1,fun w m ρ vs h1 h2 h3 h4=>(h.2 w m ρ vs h1 h2 h3 h4).mono fun e w' ⟨v,r,B',bX,m',k1,⟨x,k2,k3,hw⟩,k4,k5,k6,k7,k8,k9,Sn,Sm⟩=>?_⟩;subst k2 k3;exact⟨v,.pv x',[],bX,m',k1,⟨rfl,rfl⟩,k4,k5,k6,k7,k8,k9,.pv _ _ (hw _ _ Sn.nN),Sm⟩
theorem Zs {m:Mem}{v:Value}{cs iM:List PV}(hl:cs.length=iM.length)(hw:∀(j:Nat) (c c':PV) (d:Value),cs[j]?=some c->iM[j]?=some c'->dH m d c->dH m d c')(h:dH m v (.bN cs)):dH m v (.bN iM):=by
 cases h with
 |bN vs _ h0 h2=>
  refine .bN vs iM (by omega) (fun j d c k1 k2=>?_);have hj:j<cs.length:=by have:=(cD.1 k2).1;omega
  exact hw j cs[j] c d (bC hj) k2 (h2 j d _ k1 (bC hj))
theorem ZuW {m:Mem}{v:Value}{nn:Bool}{n:Nat}{cs iM:List PV}(hl:cs.length=iM.length)(hc:∀(j:Nat) (c:PV),iM[j]?=some c->c.cells.length=n)(hw:∀(j:Nat) (c c':PV) (k:Nat) (d:Value) (x x':PV),cs[j]?=some c->iM[j]?=some c'->c.cells[k]?=some x->c'.cells[k]?=some x'->dH m d x->dH m d x')(h:dH m v (.aF nn n cs)):dH m v (.aF nn n iM):=by
 cases h with
 |aF a cap _ _ _ ds h0 h1 h2 h3 h4 h5 h6 h7=>
  rw[hl];have key:∀(i:Nat) (x:PV),iM[i]?=some x->∃y,cs[i]?=some y:=fun i x hx=>by
   have:i<cs.length:=by rw[hl];exact(cD.1 hx).1
   exact⟨cs[i],bC this⟩
  refine .aF a cap nn n iM ds (by omega) h1 h2 h3 h4 (fun i x hx=>?_) (fun i x hx=>?_) (fun i x j d c hx hd tD=>?_)
  .obtain⟨y,hy⟩:=key i x hx;exact h5 i y hy
  .obtain⟨y,hy⟩:=key i x hx;obtain⟨a1,a2,a3⟩:=h6 i y hy;exact⟨a1,hc i x hx,a3⟩
  .obtain⟨y,hy⟩:=key i x hx;obtain⟨a1,a2,a3⟩:=h6 i y hy;have hj:j<y.cells.length:=by
    have:=(cD.1 hd).1
    omega
   exact hw i y x j d _ c hy hx (bC hj) tD (h7 i y j d _ hy hd (bC hj))
section
attribute [local simp] AS.exp jY aJ.iX AV.map AV.iT rN dO Site.uS aJ.dC AV.dC AV.hZ aT cT AS.lX fB gI cA pD kF mT gK w9
attribute [local simp] aJ.bG Site.fP
def yU (e:Int):PV:=.iface 177 (.agg [.i e])
theorem gR (e:Int):aC prog 127 [.bool true,.i e] (.bN []):=by
 refine cS L127 ?_;simp[L127]
theorem A0 (e:Int):x9 prog 127 [.pv (.bool false),.pv (.i e)] [] (fun x B=>x=yU e/\B=[]):=by
 refine(ZcH (R:=fun _ _=>False) mixed L127_ok (tR rfl) ?_).B8 (fun _ _ h=>h);show fO _ (.seq _ (.cond _ _ _)) _ _ _;refine mI ?_;simp[hold];refine ZoX (t:=true) (by simp) ?_;refine Hg [_,_,_] ?_;simp[hold];refine⟨rfl,.inr ⟨_,_,_,rfl,by simp;exact⟨rfl,rfl⟩,?_⟩⟩;exact⟨[],rfl,(fun s hs=>by cases hs),rfl,rfl⟩
theorem KS (n lo hi:Int):aC prog 213 [.i n,.i lo,.i hi] (.bool (decide (lo<=n)&&decide (n<=hi))):=by
 refine cS L213 ?_;by_cases h:lo<=n<;>by_cases h':n<=hi<;>simp[L213,h,h']
end
end Go.Proofs.YthmbecacehfgfabGreatDoor
namespace Go.Proofs
open Go.RowKit
open Tryz
section
open Go.Shelf
def Tryz.ZwB:Go.Shelf.Ren:=⟨fun|156=>59|165=>94|166=>18|169=>25|240=>44|241=>141|276=>83|277=>192|n=>n,fun|31=>22|9=>9|3=>3|4=>4|0=>0|20=>20|72=>53|76=>56|70=>51|37=>44|75=>55|127=>148|164=>178|5=>5|80=>77|n=>n,fun|n=>n⟩
theorem Tryz.Zxq:Go.Proofs.Lays.n156 prog ZwB:=by repeat' first|kernel_rfl|(intro _;kernel_rfl)|decide|constructor
theorem Tryz.Zv3:Builder.Extra prog ZwB:=by repeat' first|kernel_rfl|(intro _;kernel_rfl)|decide|constructor
open Go.RowKit in
theorem Tryz.strings_Join_none (a:Option Addr)(c:Nat)(sep:ByteArray)(w:World):
  Calls prog 59 #[.slice a 0 c,.string sep] w fun e w'=>e=.returned (.string ⟨#[]⟩)/\w'=w:=Any.strings_Join_none Zxq Zv3 a c sep w
open Go.RowKit in
theorem Tryz.strings_Join (bk o c:Nat)(xs:List ByteArray)(sep:ByteArray)(w:World)(SA:∀(j:Nat) x,xs[j]?=some x->w.cell? ⟨bk,o+j,none⟩=some (.string x))(DW:bk<w.heap.size)(hN:xs.length<=140737488355328)(SB:xs.length<=c)(hlen:(Lib.join (xs.map (·.data.toList)) sep.data.toList).length<=140737488355328):
  Calls prog 59 #[.slice (some ⟨bk,o,none⟩) xs.length c,.string sep] w fun e w'=>e=.returned (.string ⟨(Lib.join (xs.map (·.data.toList)) sep.data.toList).toArray⟩)/\Below w.heap.size w w':=Any.strings_Join Zxq Zv3 bk o c xs sep w SA DW hN SB hlen
def Tryz.ZwX:Go.Shelf.Ren:=⟨fun|171=>58|243=>93|246=>140|283=>188|284=>189|285=>190|286=>191|129=>241|317=>242|318=>243|319=>244|320=>245|337=>279|338=>280|n=>n,fun|3=>3|9=>9|2=>2|4=>4|171=>290|0=>0|53=>291|37=>44|5=>5|173=>294|212=>339|51=>300|20=>20|213=>340|46=>252|232=>379|233=>380|n=>n,fun|17=>0|18=>4|19=>5|n=>n⟩
theorem Tryz.Zxy:Go.Proofs.LaysM.n171 prog ZwX:=by repeat' first|kernel_rfl|(intro _;kernel_rfl)|decide|constructor
open Go.RowKit Go.Sort Go.Lib in
theorem Tryz.strconv_Itoa (n : Int) (h0 : -9223372036854775808 <= n) (h1 : n <= 9223372036854775807) (w : World) (QL : Lib.TabIs prog w "internal/strconv.uint64pow10" .u64 Lib.pow10Tab) :
  Calls prog 58 #[.i n] w fun e w'=>e=.returned (.string ⟨(Lib.itoa n).toArray⟩)/\∃k os,w'=grow (w.drewN k) os:=Any.strconv_Itoa Zxy n h0 h1 w QL
def Tryz.ZwY:Go.Shelf.Ren:=⟨fun|172=>174|244=>218|245=>219|247=>263|279=>264|280=>265|281=>266|282=>267|287=>290|316=>291|171=>58|205=>292|321=>301|322=>302|243=>93|246=>140|283=>188|284=>189|285=>190|286=>191|129=>241|317=>242|318=>243|319=>244|320=>245|337=>279|338=>280|n=>n,fun|9=>9|3=>3|75=>55|76=>56|4=>4|5=>5|167=>353|37=>44|0=>0|85=>354|2=>2|168=>356|53=>291|175=>370|46=>252|210=>374|127=>148|145=>390|143=>388|21=>21|171=>290|173=>294|212=>339|51=>300|20=>20|213=>340|232=>379|233=>380|80=>77|n=>n,fun|15=>2|16=>3|17=>0|18=>4|19=>5|n=>n⟩
theorem Tryz.Yp:Go.Proofs.LaysC.n172 prog ZwY:=by repeat' first|kernel_rfl|(intro _;kernel_rfl)|decide|constructor
open Go.RowKit in
theorem Tryz.strconv_Atoi_ok (s:ByteArray)(RC:s.size<=9223372036854775806)(v:Int)(h:Lib.atoiAll s.data.toList=.ok v)(w:World):
  Calls prog 174 #[.string s] w fun e w'=>e=.returned (.tuple #[.i v,.nilIface])/\(w'=w\/∃t,w'=Lib.bytesWorld w 5 t):=Any.strconv_Atoi_ok Yp s RC v h w
open Go.RowKit in
theorem Tryz.strconv_Atoi_syntax (s:ByteArray)(RD:s.size<=281474976710656)(h:Lib.atoiAll s.data.toList=Lib.NumEnd.syntax)(ev:Value)(w:World)(hv:w.cell? ⟨2,0,none⟩=some ev)(Vs:ev=.nilIface\/∃te pe,ev=.iface te pe):
  Calls prog 174 #[.string s] w fun e w'=>∃N,e=.returned (.tuple #[.i 0,.iface 356 (.pointer (some ⟨N,0,none⟩))])/\w.heap.size<=N/\w'.heap[N]?=some (.cells #[.string ⟨#[65,116,111,105]⟩,.string s,ev] 374 (0,0))/\Below w.heap.size w w':=Any.strconv_Atoi_syntax Yp s RD h ev w hv Vs
open Go.RowKit in
theorem Tryz.strconv_Atoi_range (s:ByteArray)(RD:s.size<=281474976710656)(h:Lib.atoiAll s.data.toList=.range)(ev:Value)(w:World)(hv:w.cell? ⟨3,0,none⟩=some ev)(Vs:ev=.nilIface\/∃te pe,ev=.iface te pe):
  Calls prog 174 #[.string s] w fun e w'=>∃N,e=.returned (.tuple #[.i (Lib.atoiSat s.data.toList),.iface 356 (.pointer (some ⟨N,0,none⟩))])/\w.heap.size<=N/\w'.heap[N]?=some (.cells #[.string ⟨#[65,116,111,105]⟩,.string s,ev] 374 (0,0))/\Below w.heap.size w w':=Any.strconv_Atoi_range Yp s RD h ev w hv Vs
def Tryz.Zw7:Go.Shelf.Ren:=⟨fun|101=>175|208=>220|206=>268|n=>n,fun|9=>9|4=>4|3=>3|n=>n,fun|n=>n⟩
theorem Tryz.ZxM:Go.Proofs.Lays.n101 prog Zw7:=by repeat' first|kernel_rfl|(intro _;kernel_rfl)|decide|constructor
open Go.RowKit Go.Lib in
theorem Tryz.strings_TrimPrefix (s p:ByteArray)(w:World):
  Calls prog 175 #[.string s,.string p] w fun e w'=>e=.returned (.string ⟨(Lib.trimPrefix s.data.toList p.data.toList).toArray⟩)/\w'=w:=Any.strings_TrimPrefix ZxM s p w
def Tryz.Zw6:Go.Shelf.Ren:=⟨fun|146=>125|221=>167|268=>204|138=>205|143=>206|195=>250|197=>251|218=>252|219=>253|260=>283|217=>284|225=>285|224=>286|267=>287|266=>297|314=>298|n=>n,fun|9=>9|31=>22|3=>3|4=>4|0=>0|105=>344|21=>21|5=>5|46=>252|119=>381|139=>384|138=>383|146=>301|51=>300|n=>n,fun|1=>1|3=>6|4=>7|n=>n⟩
theorem Tryz.ZxL:Go.Proofs.Lays.n146 prog Zw6:=by repeat' first|kernel_rfl|(intro _;kernel_rfl)|decide|constructor
open Go.RowKit Go.Lib in
theorem Tryz.strings_Split (s sep:ByteArray)(m:Int)(w:World)(hs:s.size<4294967281)(hm:w.cell? ⟨1,0,none⟩=some (.i m))(h1:1<=sep.size):
  Calls prog 125 #[.string s,.string sep] w fun e w'=>
   e=.returned (.slice (some ⟨w.heap.size,0,none⟩) (Lib.countB s sep+1) (Lib.countB s sep+1))/\w'=w.alloc (.cells ((Lib.splitB sep 0 (Lib.countB s sep) s).map Value.string).toArray 9):=Any.strings_Split ZxL (by kernel_rfl) s sep m w hs hm h1
end
end Go.Proofs
namespace Go.Proofs.YthmbecacehfgfabGreatDoor
open Go.RowKit
open Tryz
section
open Go.RowKit Go.Sort
theorem Zi0 {P:Program}{f:FuncId}{xs:List PV}{y:PV}(hc:jS P f)(h:∀(w:World) (m:Mem) (vs:Array Value),nP m w->Le m w.mem->vs.size=xs.length->(∀(j:Nat) (d:Value) (c:PV),vs[j]?=some d->xs[j]?=some c->dH m d c)->
   Calls P f vs w (fun e w'=>∃v m',e=.returned v/\Ext w w'/\Le m m'/\Le m' w'.mem/\(∀b o u,m' b o=some u->m b o=some u\/w.heap.size<=b)/\dH m' v y)):aC P f xs y:=by
 refine⟨hc,fun w m ρ vs hB mQ fI lK=>(h w m vs mQ.2.1 mQ.1 (by simpa using fI) (fun j d c k1 k2=>(lK j d (.pv c) k1 (by rw[bY,k2];rfl)).nN)).mono ?_⟩;rintro e w' ⟨v,m',rfl,hx,h1,h2,h3,h4⟩;exact⟨v,.pv y,[],ρ,m',rfl,⟨rfl,rfl⟩,vH.nil _ _ _,h1,h2,fun _=>rfl,fun s b k hs=>by simp[List.lookup]at hs,fun b o u hu=>(h3 b o u hu).imp id .inl,.pv _ _ h4,cY.Fx hx _⟩
theorem Po {P:Program}{f:FuncId}{xs:List PV}{y:PV}(hc:jS P f)(h:∀(w:World) (m:Mem) (vs:Array Value),nP m w->Le m w.mem->vs.size=xs.length->(∀(j:Nat) (d:Value) (c:PV),vs[j]?=some d->xs[j]?=some c->dH m d c)->
   Calls P f vs w (fun e w'=>∃v,e=.returned v/\Ext w w'/\dH m v y)):aC P f xs y:=
 Zi0 hc fun w m vs h1 h2 h3 h4=>(h w m vs h1 h2 h3 h4).mono fun _ _ ⟨v,k1,k2,k3⟩=>⟨v,m,k1,k2,Le.refl m,h2.trans k2.le,fun _ _ _ h=>.inl h,k3⟩
theorem TH {vs:Array Value}(h:vs.size=1):∃v,vs=#[v]:=by
 match vs,h with
 |⟨[v]⟩,_=>exact⟨v,rfl⟩
theorem JW {vs:Array Value}(h:vs.size=2):∃v u,vs=#[v,u]:=by
 match vs,h with
 |⟨[v,u]⟩,_=>exact⟨v,u,rfl⟩
theorem UA {m:Mem}{v:Value}{s:ByteArray}(h:dH m v (.str s)):v=.string s:=by cases h;rfl
theorem Zuc {m:Mem}{v:Value}{k:IntKind}{n:Int}(h:dH m v (.int k n)):v=.int k n:=by cases h;rfl
def oP (n:Int):ByteArray:=⟨(Lib.itoa n).toArray⟩
theorem Zqu (w:World)(k:Nat)(os:Array Obj):Ext w (grow (w.drewN k) os):=⟨rfl,rfl,rfl,by simp[grow,World.drewN],fun i hi=>by
 show(w.heap++os)[i]?=w.heap[i]?;rw[Array.getElem?_append,if_pos hi]⟩
theorem Zf (n:Int)(h:-9223372036854775808<=n/\n<=9223372036854775807):aC prog 58 [.i n] (.str (oP n)):=by
 refine Po ⟨_,_,func58,by kernel_rfl,rfl⟩ fun w m vs hg hm fI lK=>?_
 obtain⟨v,rfl⟩:=TH fI;obtain rfl:=Zuc (lK 0 v _ rfl rfl);have QL : Lib.TabIs prog w "internal/strconv.uint64pow10" .u64 Lib.pow10Tab := by
  obtain⟨_,_,_,_,t,fr,h5⟩:=hg;have e : prog.globalNamed "internal/strconv.uint64pow10" = some 0 := by kernel_rfl
  unfold Lib.TabIs World.var?;rw[e];show(match w.heap[0]? with|some (.cells cs _ _)=>some cs|_=>none)=_;rw[h5]
 exact(strconv_Itoa n h.1 h.2 w QL).mono fun e w' ⟨h1,k,os,h2⟩=>⟨_,h1,h2▸Zqu w k os,.str _⟩
def j3 (s:ByteArray):PV:=match Lib.atoiAll s.data.toList with
 |.ok v=>.bN [.i v,.eY]
 |Lib.NumEnd.syntax=>.bN [.i 0,.iface 356 .P6]
 |.range=>.bN [.i (Lib.atoiSat s.data.toList),.iface 356 .P6]
theorem Zr1 (s:ByteArray)(hs:s.size<=1000000):aC prog 174 [.str s] (j3 s):=by
 refine Po ⟨_,_,func174,by kernel_rfl,rfl⟩ fun w m vs hg hm fI lK=>?_
 obtain⟨v,rfl⟩:=TH fI;obtain rfl:=UA (lK 0 v _ rfl rfl);obtain⟨_,⟨t1,p1,g1⟩,⟨t2,p2,g2⟩,_⟩:=hg;unfold j3;cases h:Lib.atoiAll s.data.toList with
 |ok v=>
  refine(strconv_Atoi_ok s (by omega) v h w).mono fun e w' ⟨h1,h2⟩=>⟨_,h1,?_,XS (.int _ _) .eY⟩
  rcases h2 with rfl|⟨t,rfl⟩
  .exact Ext.tS _
  .exact Zg3 _ _ _
 |range=>exact(strconv_Atoi_range s (by omega) h _ w (hm _ _ _ g2) (.inr ⟨_,_,rfl⟩)).mono fun e w' ⟨N,h1,_,_,h2⟩=>⟨_,h1,h2,XS (.int _ _) (.iface _ _ _ (.P6 _ rfl))⟩
 |_=>exact(strconv_Atoi_syntax s (by omega) h _ w (hm _ _ _ g1) (.inr ⟨_,_,rfl⟩)).mono fun e w' ⟨N,h1,_,_,h2⟩=>⟨_,h1,h2,XS (.int _ _) (.iface _ _ _ (.P6 _ rfl))⟩
def trimB (s p:ByteArray):ByteArray:=⟨(Lib.trimPrefix s.data.toList p.data.toList).toArray⟩
theorem Zry (s p:ByteArray):aC prog 175 [.str s,.str p] (.str (trimB s p)):=by
 refine Po ⟨_,_,func175,by kernel_rfl,rfl⟩ fun w m vs hg hm fI lK=>?_
 obtain⟨v,u,rfl⟩:=JW fI;obtain rfl:=UA (lK 0 v _ rfl rfl);obtain rfl:=UA (lK 1 u _ rfl rfl);exact(strings_TrimPrefix s p w).mono fun e w' ⟨h1,h2⟩=>⟨_,h1,h2▸Ext.tS _,.str _⟩
def xX (s sep:ByteArray):List ByteArray:=Lib.splitB sep 0 (Lib.countB s sep) s
theorem Zst (s sep:ByteArray)(hs:s.size<=1000000)(h1:1<=sep.size)(hlen:(xX s sep).length=Lib.countB s sep+1)(SB:Lib.countB s sep<=1000000):aC prog 125 [.str s,.str sep] (.aF true 1 ((xX s sep).map .str)):=by
 refine Zi0 ⟨_,_,func125,by kernel_rfl,rfl⟩ fun w m vs hg hm fI lK=>?_
 obtain⟨v,u,rfl⟩:=JW fI;obtain rfl:=UA (lK 0 v _ rfl rfl);obtain rfl:=UA (lK 1 u _ rfl rfl);obtain⟨⟨z,g0⟩,_⟩:=hg;refine(strings_Split s sep z w (by omega) (hm _ _ _ g0) h1).mono ?_;rintro e w' ⟨rfl,rfl⟩;have M8:∀o,m w.heap.size o=none:=fun o=>by
  cases hv:m w.heap.size o with
  |none=>rfl
  |some v=>
   have:=BJ (hm _ _ _ hv)
   omega
 obtain⟨W,hW⟩:∃W,W=w.alloc (.cells ((xX s sep).map Value.string).toArray 9):=⟨_,rfl⟩;have hx:Ext w W:=by rw[hW];exact Ext.al _ _
 have hc:∀j x,(xX s sep)[j]?=some x->W.mem w.heap.size j=some (.string x):=fun j x hj=>by
  have hb:W.heap[w.heap.size]?=some (.cells ((xX s sep).map Value.string).toArray 9 (0,0)):=by rw[hW];exact World.alloc_heap_new w _
  show World.cell? W ⟨w.heap.size,j,none⟩=_;unfold World.cell?;simp only[hb];simp[hj]
 have DU:Lib.countB s sep+1=((xX s sep).map PV.str).length:=by rw[fZ];exact hlen.symm
 have Z5:Lib.splitB sep 0 (Lib.countB s sep) s=xX s sep:=rfl;rw[Z5,<-hW,DU];obtain⟨m',Q3⟩:∃m':Mem,m'=fun b o=>if b=w.heap.size then W.mem b o else m b o:=⟨_,rfl⟩
 have e1:∀o,m' w.heap.size o=W.mem w.heap.size o:=fun o=>by rw[Q3];simp
 have e2:∀b o,b≠w.heap.size->m' b o=m b o:=fun b o hb=>by rw[Q3];simp[hb]
 refine⟨_,m',rfl,hx,fun b o v hv=>?_,fun b o v hv=>?_,fun b o v hv=>?_,?_⟩
 .by_cases hb:b=w.heap.size
  .subst hb;rw[M8 o]at hv;cases hv
  .rw[e2 b o hb];exact hv
 .by_cases hb:b=w.heap.size
  .subst hb;rw[e1]at hv;exact hv
  .rw[e2 b o hb]at hv;exact hx.le _ _ _ (hm _ _ _ hv)
 .by_cases hb:b=w.heap.size
  .exact .inr (by omega)
  .rw[e2 b o hb]at hv;exact .inl hv
 .refine dH.aF (some ⟨w.heap.size,0,none⟩) _ true 1 _ (fun i=>[.string ((xX s sep).getD i default)]) (fH _) (by rw[<-DU];omega) (fun h=>by cases h) (fun A hA=>by cases hA;rfl) (fun _ h=>by cases h) (fun i x hx=>?_) (fun i x hx=>?_) (fun i x j d c hx hd tD=>?_)
  all_goals
   rw[bY]at hx;obtain⟨t,ht,rfl⟩:=eB.1 hx;have FW:(xX s sep).getD i default=t:=by rw[List.getD_eq_getElem?_getD,ht];rfl
  .refine⟨w.heap.size,0,rfl,At.j8 (fun j u hj=>?_)⟩;cases j with
   |zero=>
    cases hj
    have:=(e1 i).trans (hc i t ht)
    rw[FW];simpa using this
   |succ j=>cases hj
  .exact⟨rfl,rfl,fun u hu=>by cases sG.1 hu;rfl⟩
  .cases j with
   |zero=>cases hd;cases tD;rw[FW];exact .str _
   |succ j=>cases hd
end
section
variable {P:Program}{N:Nat}{w0:World}{m0:Env w0}{pl:List Nat}{σ:AS}{ρ:Site->Loc}{m:Mem}{act:Act}{w:World}
theorem Sat.Zx7 {d:Nat}{aE:List Site}{B:List (Site×aJ)}(hF:Sat N w0 m0 pl σ ρ m act w)(qE:aE.Nodup)(tC:aE.all (fun s=>!s.fP d)=true)(hB:pD σ aE 0 aE=some B)
  {tm:List (Nat×AV)} (AG:∀t a,tm.lookup t=some a->∃a0,σ.t t=some a0/\a=a0.map (kF aE)/\a0.dC (fun x=>aE.contains x)=true):
  ∃oH:Site->Loc,(∀s,aE.contains s=true->oH (kF aE s)=ρ s)/\Sat N w0 ⟨m0.m,oH,m0.rest,m0.uL,m0.strict⟩ pl ⟨tm,B⟩ oH m act w:=by
 obtain⟨l1,l2,l3,l4⟩:=Zdy σ aE aE 0 B hB;obtain⟨oH,gB,uJ,_⟩:=CJ hF qE tC hB;refine⟨oH,gB,hF.sM,hF.sz,fun t a k=>?_,uJ.bx,uJ.eA,hF.mem,uJ.eQ,fun s b k h1 h2=>?_,hF.keep,hF.base,hF.qJ,fun i=>rfl⟩
 .obtain⟨a0,k1,rfl,k2⟩:=AG t a k;obtain⟨v,k3,k4⟩:=hF.tm t a0 k1;exact⟨v,k3,k4.map gB k2⟩
 .obtain⟨j,s0,b0,e1,e2,e3,rfl,e5⟩:=l1 s b h1;have hc:=dL e2;have e6:kF aE s0=s:=by
   obtain⟨j',k1,k2⟩:=Hf hc;have e:j'=j:=Qa qE k2 e2;rw[e1];unfold kF;rw[k1,e,sF]
  have e7:oH s=ρ s0:=by rw[<-e6];exact gB s0 (by simpa using hc)
  exact hF.fM s0 b0 k e3 ((uU e7).1 h2)
def Mn (σ:AS):Prop:=(∀t a,σ.t t=some a->a.dC Site.x3=true)/\∀s b,σ.b s=some b->s.x3=true/\b.dC Site.x3=true
theorem Zlb {ρ bX:Site->Loc}(h:∀i,bX (.par i)=ρ (.par i)){s:Site}(hs:s.x3=true):bX s=ρ s:=by
 cases s with
 |par i=>exact h i
 |_=>cases hs
theorem Ex {g:FuncId}{gn:Func}{id:Nat}{o:Oper}{t6:Tmp}{c2:Code}{l2:bH}(hm:P.follows .mixedOrders=true)(hg:P.funcs[g]?=some gn)(Q4:gn.body=some (.seq (.region id #[o] false) c2))
  (nI:∀ev w,(execOp ev o).run P w=.ok .recover w) (FW:o.guard=none) (hd:o.dst=some t6) (Bm:t6<gn.ntmps) (eR:gn.results=#[]) (hl:dQ P gn.ntmps c2=some l2) (hnr:kL c2=true)
  {u u':FrameMode} {rv:Value} (hu:(u=.returning/\rv=.nilIface/\u'=.returning)\/∃v,u=.panicking [{ v,recovered:=false }]/\rv=v/\u'=.panicking [{ v,recovered:=true }])
  {bU:List AV} {B:List (Site×aJ)} {args:Array Value} (hB:vH ρ m w B) (mQ:Le m w.mem/\nP m w) (IM:(B.map (·.1)).Nodup) (P9:args.size=bU.length) (hn:bU.length<=gn.ntmps) (lK:∀(j:Nat) (d:Value) (c:AV),args[j]?=some d->bU[j]?=some c->bQ ρ m d c)
  {ra:AV} (hra:bQ ρ m rv ra) {F:AS->Prop} (h:uO P l2 (lF F) ⟨(t6,ra)::eZ 0 bU,B⟩)
  {R:World->Prop} (hR:∀γ bX m' bE w',F γ->Sat gn.ntmps w ⟨m,ρ,[],mQ.2,true⟩ (cK ρ w B) γ bX m' bE w'->R w'):
  CallsDIn (FF none) 0 P g args u w (fun e u1 w'=>(∃v,e=.returned v)/\u1=u'/\R w'):=by
 refine callsDIn_of_wpSIn hg Q4 trivial (fun wT cs NM=>wpSIn_seq (wpSIn_region ?_));have hS:Sat gn.ntmps w ⟨m,ρ,[],mQ.2,true⟩ (cK ρ w B) ⟨(t6,ra)::eZ 0 bU,B⟩ ρ m (({ tmps:=args++Array.replicate (gn.ntmps-args.size) undef,defers:=[]}:Act).put (some t6) rv) w:=by
  refine Sat.put (σ:=⟨eZ 0 bU,B⟩) ?_ Bm hra;refine⟨⟨[],C5,yI,fun D hD=>by cases hD⟩,by simp;omega,fun t a k=>?_,hB.bx,hB.eA,mQ.1,hB.eQ,fun s b i k r=>.inr (YI k r),cY.tS _ _,⟨Le.refl _,hB.free IM⟩,fun b o v k=>.inl k,fun i=>rfl⟩;obtain⟨_,k1⟩:=Im bU 0 t a k;rw[Nat.sub_zero]at k1;have aI:t<args.size:=by rw[P9];exact(cD.1 k1).1
  exact⟨args[t],by rw[Array.getElem?_append,if_pos aI,vA aI],lK t _ a (vA aI) k1⟩
 have hw:=YO (ro:=none) (fun l e=>by cases e) hm c2 l2 _ (fun _=>hnr) hl h hS;have fin:∀e bE w',oE gn.ntmps w ⟨m,ρ,[],mQ.2,true⟩ (cK ρ w B) (lF F) e bE w'->bodyPostS P gn wT cs (fun e u1 w'=>(∃v,e=.returned v)/\u1=u'/\R w') e bE ({ wT with mode:=u' }::cs) w':=by
  intro e bE w' hq;have done:G6 gn.ntmps w ⟨m,ρ,[],mQ.2,true⟩ (cK ρ w B) F bE w'->bE.defers=[]/\∃u1,({ wT with mode:=u' }:Frame)::cs={ wT with mode:=u1 }::cs/\∃v,(results gn bE.tmps).run P w'=.ok v w'/\((∃v',Ending.returned v=.returned v')/\u1=u'/\R w'):=by
   rintro⟨τ,pE,m1,hF,hT⟩;obtain⟨ds,tO,uZ,_⟩:=hT.sM
   have:ds=[]:=uZ.2 rfl
   subst this;refine⟨by simpa using tO.nil,u',rfl,.tuple #[],?_,⟨_,rfl⟩,rfl,hR τ pE m1 bE w' hF hT⟩;simp[results,eR]
  cases e with
  |normal=>exact done hq
  |ret=>exact done hq
  |exit id=>obtain⟨τ,pE,m1,q,_⟩:=hq;exact q.elim
  |goto l=>exact hq.elim
  |panic ch=>exact hq.elim
  |outgrown=>exact hq.elim
 have sY:c2.wpSIn (FF none) 0 P (bodyPostS P gn wT cs (fun e u1 w'=>(∃v,e=.returned v)/\u1=u'/\R w')) (({ tmps:=args++Array.replicate (gn.ntmps-args.size) undef,defers:=[]}:Act).put (some t6) rv) ({ wT with mode:=u' }::cs) w:=
  wpSIn_of_wpIn rfl (wpIn_mono (PI hw) fun e bE w' hq=>fin e bE w' hq)
 have Sy:Region.wanted o (yielded #[o] ({ tmps:=args++Array.replicate (gn.ntmps-args.size) undef,defers:=[]}:Act).tmps)=true:=by simp[Region.wanted,FW]
 show wpOpsSIn (FF none) 0 P #[o] _ [0] _ _ _;simp only[wpOpsSIn,I4,List.getElem?_cons_zero,Sy,if_true,nI];refine⟨fun _ _=>trivial,?_⟩;rcases hu with⟨rfl,rfl,rfl⟩|⟨v,rfl,rfl,rfl⟩
 .have hr:recoverD (wT::cs)=none:=by simp[recoverD,NM]
  have e:({ wT with mode:=FrameMode.returning }:Frame)=wT:=by rw[<-NM]
  rw[e]at sY;simp only[hr,hd];exact sY
 .have hr:recoverD (wT::cs)=some (rv,{ wT with mode:=.panicking [{ v:=rv,recovered:=true }]}::cs):=by simp[recoverD,NM]
  simp only[hr,hd];exact sY
def EC (P:Program)(l3:bH)(t6:Tmp)(caps:List AV)(rs:List oF)(R:PV->aJ->Prop)(x:PV)(σ:AS):Prop:=
 x.flat=true/\∃τ,Sub τ σ/\Mn τ/\(τ.bx.map (·.1)).Nodup/\uO P l3 (lF (fun γ=>∃UX,Sub UX γ/\Mn UX/\∃y b',AS.GG ⟨τ.tm,UX.bx⟩ rs=some [.pv y]/\UX.b (.par 0)=some b'/\b'.dC (fun s=>decide (s=.par 0))=true/\R y b')) ⟨(t6,.pv x)::eZ 0 caps,τ.bx⟩
theorem zO {s s0:Site}{b c:aJ}(h:List.lookup s [(s0,b)]=some c):s=s0/\c=b:=by
 by_cases e:s=s0
 .subst e;rw[mX]at h;cases h;exact⟨rfl,rfl⟩
 .rw[jJ e]at h;cases h
def Lg:bH->bH
 |.seq a _=>a
 |c=>c
def V1:bH->bH
 |.seq _ b=>b
 |c=>c
def ZU:bH->LO
 |.region (o::_)=>o
 |_=>default
theorem ZoM {f g:FuncId}{fn gn:Func}{a1 a2 b c2:Code}{id id2:Nat}{o1 o2 o3:Oper}{l1 l2 lb l3:bH}{MO:LO}{t t6:Tmp}{dc:Call}{cl:List Site}{bU:List AV}{B BL:List (Site×aJ)}{aE:List Site}{d:Nat}{S:AS}{Rc:List (Nat×AV)}{rs:List oF}{R:PV->aJ->Prop}
  (hm : P.follows .mixedOrders = true) (hf : P.funcs[f]? = some fn) (M9 : (fn.name == "runtime.NumGoroutine") = false) (NN : fn.body = some (.seq a1 (.seq a2 (.seq (.region id #[o1, o2] false) b))))
  (h1:dQ P fn.ntmps a1=some l1) (h2:dQ P fn.ntmps a2=some l2) (hb:dQ P fn.ntmps b=some lb) (D9:kL a1=true) (D8:kL a2=true) (Km:kL b=true) (hdb:nX b=true)
  (ho1:qU P fn.ntmps #[o1,o2] true o1=some MO) (ho2:o2.op=.defer dc) (hdc:dc.callee=.value (.tmp t)) (hda:dc.args=#[]) (H6:o2.guard=none) (uZ:o2.dst=none)
  (uF:kZ P fn.results.toList=some rs) (hn:bU.length<=fn.ntmps)
  (hg : P.funcs[g]? = some gn) (RR : (gn.name == "runtime.NumGoroutine") = false) (Q4 : gn.body = some (.seq (.region id2 #[o3] false) c2)) (nI : ∀ ev w, (execOp ev o3).run P w = .ok .recover w) (hg3 : o3.guard = none) (U5 : o3.dst = some t6) (Bm : t6 < gn.ntmps) (hgr : gn.results = #[])
  (NC:dQ P gn.ntmps c2=some l3) (Z7:kL c2=true) (oB:cl.length<=gn.ntmps)
  (hA:uO P (.seq l1 l2) (fun e σ=>e=.normal/\pS P MO (fun LQ=>Sub S LQ) σ) ⟨eZ 0 bU,B⟩) (hSt:S.t t=some (.fn g [] (cl.map fun s=>.ptr s 0))) (qE:aE.Nodup) (tC:aE.all (fun s=>!s.fP d)=true) (hB:pD S aE 0 aE=some BL)
  (gP:∀s∈cl,aE.contains s=true/\(kF aE s).x3=true) (DB:aE.head?=some (.par 0))
  (AG:∀t a,Rc.lookup t=some a->∃a0,S.t t=some a0/\a=a0.map (kF aE)/\a0.dC (fun x=>aE.contains x)=true)
  (hD:fO P lb (lF (EC P l3 t6 (cl.map fun s=>.ptr (kF aE s) 0) rs R .eY)) (EC P l3 t6 (cl.map fun s=>.ptr (kF aE s) 0) rs R) ⟨Rc,BL⟩):
  cU P f bU B (fun r B'=>∃y b',r=.pv y/\B'=[(.par 0,b')]/\R y b'):=by
 refine⟨⟨fn,_,hf,M9,NN⟩,fun w m ρ vs La mQ P9 lK=>?_⟩;refine(callsIn_wide (n:=1)).1 (callsIn_of_wp_marks (F:=FF none) hf NN trivial ?_ rfl);have hS:Sat fn.ntmps w ⟨m,ρ,[],mQ.2.1,true⟩ (cK ρ w B) ⟨eZ 0 bU,B⟩ ρ m { tmps:=vs++Array.replicate (fn.ntmps-vs.size) undef,defers:=[]} w:=by
  refine⟨⟨[],C5,yI,fun D hD=>by cases hD⟩,by simp;omega,fun t a k=>?_,La.bx,La.eA,mQ.1,La.eQ,fun s b i k r=>.inr (YI k r),cY.tS _ _,⟨Le.refl _,La.free mQ.2.2⟩,fun b o v k=>.inl k,fun i=>rfl⟩;obtain⟨_,k1⟩:=Im bU 0 t a k;rw[Nat.sub_zero]at k1;have aI:t<vs.size:=by rw[P9];exact(cD.1 k1).1
  exact⟨vs[t],by rw[Array.getElem?_append,if_pos aI,vA aI],lK t _ a (vA aI) k1⟩
 refine wpIn_seq (wpIn_mono (YO (ro:=none) (fun l e=>by cases e) hm a1 l1 _ (fun _=>D9) h1 hA hS) fun e yY w1 hq=>?_);cases e with
 |exit id=>obtain⟨τ,pE,m1,q,_⟩:=hq;exact absurd q.1 (by simp)
 |ret=>obtain⟨τ,pE,m1,q,_⟩:=hq;exact absurd q.1 (by simp)
 |goto l=>exact hq.elim
 |panic ch=>exact hq.elim
 |outgrown=>exact hq.elim
 |normal=>
 obtain⟨ZB,pE,m1,q1,wP⟩:=hq;refine wpIn_seq (wpIn_mono (YO (ro:=none) (fun l e=>by cases e) hm a2 l2 _ (fun _=>D8) h2 q1 wP) fun e act2 w2 hq=>?_);cases e with
 |exit id=>obtain⟨τ,pE,m1,q,_⟩:=hq;exact absurd q.1 (by simp)
 |ret=>obtain⟨τ,pE,m1,q,_⟩:=hq;exact absurd q.1 (by simp)
 |goto l=>exact hq.elim
 |panic ch=>exact hq.elim
 |outgrown=>exact hq.elim
 |normal=>
 obtain⟨S3,PH,m2,⟨_,q2⟩,nA⟩:=hq;refine wpIn_seq (wpIn_region_list ?_);refine ZfP (ops:=#[o1,o2]) ho1 q2 nA fun rA w3 hq=>?_
 obtain⟨S',ρ3',m3',hSS,Wo⟩:=hq;obtain⟨UW,m3,Q5⟩:=hSS _ _ _ _ _ _ _ _ Wo;have Sy:Region.wanted o2 (yielded #[o1,o2] rA.tmps)=true:=by simp[Region.wanted,H6]
 obtain⟨ds,e1,e2,_⟩:=Q5.sM;have e3:ds=[]:=e2.2 rfl;subst e3;have Vu:rA.defers=[]:=by simpa using e1.nil
 obtain⟨vf,vc,hv,f1,f2,f3,f4⟩:∃vf vc:Array Value,rA.eval (.tmp t)=.func (.func g) vf vc/\vf.size=0/\vc.size=(cl.map fun s=>AV.ptr s 0).length/\(∀(j:Nat) (d:Value) (c:AV),vf[j]?=some d->([]:List AV)[j]?=some c->bQ UW m3 d c)/\∀(j:Nat) (d:Value) (c:AV),vc[j]?=some d->(cl.map fun s=>AV.ptr s 0)[j]?=some c->bQ UW m3 d c:=by
  have k:=Q5.aU (x:=.tmp t) (y:=.t t) rfl;have e:S.o (.t t)=.fn g [] (cl.map fun s=>.ptr s 0):=by show(S.t t).getD .any=_;rw[hSt];rfl
  rw[e]at k;exact Ni k
 have hvf:vf=#[]:=Array.eq_empty_of_size_eq_zero f1;subst hvf;obtain⟨D,DZ⟩:∃D:Deferred,D={ target:=.fn (.func g) vc,args:=#[]}:=⟨_,rfl⟩;have dG:(execOp rA.eval o2).run P w3=.ok (.defer D) w3:=by
  unfold execOp;simp only[ho2];simp[resolve,hdc,hda,hv,Deferred.ofValue,DZ]
 unfold wpListIn;rw[if_pos Sy];unfold Oper.wpIn;refine⟨fun _ _=>trivial,?_⟩;have Ti:Oper.semAt (FF none).round rA.eval o2=execOp rA.eval o2:=rfl;rw[Ti,dG,Oper.uponIn_defer,Vu,uZ];have Eb:Sat fn.ntmps w ⟨m,ρ,[D],mQ.2.1,true⟩ (cK ρ w B) S UW m3 { rA with defers:=[D]} w3:=⟨⟨[],⟨[],[],rfl,rfl⟩,yI,fun D hD=>by cases hD⟩,Q5.sz,Q5.tm,Q5.bx,Q5.eA,Q5.mem,Q5.eQ,Q5.fM,Q5.keep,Q5.base,Q5.qJ,Q5.par⟩;obtain⟨oH,gB,hS5⟩:=Eb.Zx7 qE tC hB AG;have St:oH (.par 0)=ρ (.par 0):=by
  have gU:(.par 0)∈aE:=by
   cases aE with
   |nil=>cases DB
   |cons a r=>simp at DB;subst DB;simp
  have hi:kF aE (.par 0)=.par 0:=by
   cases aE with
   |nil=>cases DB
   |cons a r=>simp at DB;subst DB;simp[kF,w9]
  have:=gB (.par 0) (by simpa using gU)
  rw[hi]at this;rw[this];exact Q5.par 0
 show b.wpIn (FF none) 1 P _ { rA with defers:=[D]} w3;refine wpIn_mono (Zg8 (ro:=none) (fun l e=>by cases e) hm b lb _ (fun _=>Km) (fun _=>hdb) hb hD hS5) (fun e xA w5 hq=>?_);have key:∀(u u':FrameMode) (rv:Value) (x:PV) (Qs:AS) (UU:Site->Loc) (m5:Mem),((u=.returning/\rv=.nilIface/\u'=.returning)\/∃v,u=.panicking [{ v,recovered:=false }]/\rv=v/\u'=.panicking [{ v,recovered:=true }])->
   EC P l3 t6 (cl.map fun s=>.ptr (kF aE s) 0) rs R x Qs->Sat fn.ntmps w ⟨m,oH,[D],mQ.2.1,true⟩ (cK ρ w B) Qs UU m5 xA w5->dH m5 rv x->
   LeavesInM (FF none) 1 P fn xA.tmps (lI w m ρ B (fun r B'=>∃y b',r=.pv y/\B'=[(.par 0,b')]/\R y b')) xA.defers u w5:=by
  intro u u' rv x Qs UU m5 hu ⟨qI,τ,kM,lR,IM,hAw⟩ SI hrv;obtain⟨Jj,m6,F3⟩:=kM _ _ _ _ _ _ _ _ SI;obtain⟨ds,e1,e2,_⟩:=F3.sM;have e3:ds=[]:=e2.2 rfl;subst e3;have N8:xA.defers=[D]:=by
   obtain⟨d1,d2,k1,k2⟩:=e1
   have:=List.append_eq_nil_iff.1 k1.symm
   rw[this.1,this.2]at k2;exact k2
  rw[N8];have jQ:settle u'=.returning:=by rcases hu with⟨_,_,rfl⟩|⟨v,_,_,rfl⟩<;>rfl
  have Br:u≠.run:=by rcases hu with⟨rfl,_,_⟩|⟨v,rfl,_,_⟩<;>simp
  have Vm : ¬ gn.name = "runtime.NumGoroutine" := by simpa using RR
  refine⟨Br,.inr ⟨fun _=>fH 1,.func g,vc,g,vc,by rw[DZ],?_,fun _ _=>trivial,?_⟩⟩
  .rw[DZ];simp[invoke,callFunc,hg,Vm,Q4]
  refine(Ex (R:=fun w'=>LeavesInM (FF none) 1 P fn xA.tmps (lI w m ρ B (fun r B'=>∃y b',r=.pv y/\B'=[(.par 0,b')]/\R y b')) [] .returning w') (ρ:=Jj) (m:=m6) (B:=τ.bx) (bU:=cl.map fun s=>.ptr (kF aE s) 0) (ra:=.pv x) hm hg Q4 nI hg3 U5 Bm hgr NC Z7 hu ⟨F3.bx,F3.eA,F3.eQ⟩ ⟨F3.mem,F3.uL⟩ IM (by rw[f2];simp) (by simpa using oB) (fun j v c k1 k2=>?_) (.pv _ _ (hrv.flat qI)) hAw ?_).mono ?_
  .rw[bY]at k2;obtain⟨s,k3,rfl⟩:=eB.1 k2;have k4:=f4 j v (.ptr s 0) k1 (by rw[bY,k3];rfl);obtain⟨c1,c2⟩:=gP s (dL k3);have e6:Jj (kF aE s)=UW s:=(Zlb (ρ:=oH) (fun i=>F3.par i) c2).trans (gB s c1);rw[k4.EW,<-e6];exact .ptr _ _
  .intro γ bX m' bE w' ⟨UX,QM,Ty,y,b',eR,nT,Dr,hRy⟩ Wm;obtain⟨Ji,m7,zV⟩:=QM _ _ _ _ _ _ _ _ Wm;have MP:∀k,k∈cK Jj w5 τ.bx->w.heap.size<=k\/k∈cK ρ w B:=fun k hk=>by
    obtain⟨p,hp,e⟩:=UF.1 hk;exact F3.fM p.1 p.2 k (Zk4 IM hp) e
   have fI:=F3.keep.size;have old:∀k,w5.heap.size<=k\/k∈cK Jj w5 τ.bx->w.heap.size<=k\/k∈cK ρ w B:=fun k hk=>by
    rcases hk with hk|hk
    .exact .inl (lM fI hk)
    .exact MP k hk
   have Z9:cY (cK ρ w B) w w':=⟨zV.keep.os.trans F3.keep.os,zV.keep.tape.trans F3.keep.tape,zV.keep.output.trans F3.keep.output,lM fI zV.keep.size,fun k hk hn=>(zV.keep.block k (Nat.lt_of_lt_of_le hk fI) fun hD=>by
    rcases MP k hD with h'|h'
    .omega
    .exact hn h').trans (F3.keep.block k hk hn)⟩
   have Dc:∀b o v,m7 b o=some v->m b o=some v\/w.heap.size<=b\/b∈cK ρ w B:=fun b o v hv=>by
    rcases zV.qJ b o v hv with h'|h'
    .exact F3.qJ b o v h'
    .exact .inr (old b h')
   have NP:Gc m m7 (cK ρ w B):=F3.base.trans zV.base.1;have hSF:Sat fn.ntmps w ⟨m,oH,[],mQ.2.1,true⟩ (cK ρ w B) ⟨τ.tm,UX.bx⟩ Ji m7 { xA with defers:=[]} w':=by
    refine⟨⟨[],C5,yI,fun D hD=>by cases hD⟩,F3.sz,fun t a k=>?_,zV.bx,zV.eA,zV.mem,zV.eQ,fun s b k h1 h2=>old k (zV.fM s b k h1 h2),Z9,NP,Dc,fun i=>(zV.par i).trans (F3.par i)⟩;obtain⟨v,k1,k2⟩:=F3.tm t a k
    have:=(k2.more zV.base.1).map (g:=_root_.id) (bX:=Ji) (fun s hs=>Zlb (fun i=>zV.par i) hs) (lR.1 t a k)
    rw[Hd]at this;exact⟨v,k1,this⟩
   obtain⟨ZI,r1,r2,r3⟩:=Nw fn.results.toList rs [.pv y] uF eR hSF;obtain⟨v,rfl⟩:∃v,ZI=[v]:=by
    match ZI,r2 with
    |[v],_=>exact⟨v,rfl⟩
   have CZ:=r3 0 v _ rfl rfl;have Xe:ρ (.par 0)=Ji (.par 0):=((zV.par 0).trans ((F3.par 0).trans St)).symm;refine⟨v,?_,v,.pv y,[(.par 0,b')],ρ,m7,rfl,⟨y,b',rfl,rfl,hRy⟩,⟨fun s c hs=>?_,fun s s' c c' _ hs Z6 _ _=>?_,fun s c k hs hk=>?_⟩,NP.1,zV.mem,fun i=>rfl,fun s c k hs hk=>?_,Dc,?_,Z9⟩
   .show(do let vs <-fn.results.mapM (vN xA.tmps);pure (if h:vs.size=1 then vs[0]else .tuple vs):Sem Value).run P w'=_;rw[Sem.run_bind,Array.mapM_eq_mapM_toList,Sem.run_map,r1];rfl
   .obtain⟨rfl,rfl⟩:=zO hs
    have:=(zV.bx _ _ nT).iX (bX:=ρ) (q:=fun s=>decide (s=.par 0)) (g:=_root_.id) (fun s hs=>by
     have e:s=.par 0:=by simpa using hs
     rw[e];exact Xe) (by simp) Dr
    rw[aJ.Yk]at this;exact this
   .rw[(zO hs).1,(zO Z6).1]
   .obtain⟨rfl,rfl⟩:=zO hs;exact zV.eQ _ _ k nT ((R7 Xe).1 hk)
   .obtain⟨rfl,rfl⟩:=zO hs;exact old k (zV.fM _ _ k nT ((R7 Xe).1 hk))
   .exact .pv _ _ (bQ.nN (ρ:=Ji) CZ)
  .rintro e u1 w' ⟨⟨v,rfl⟩,rfl,hL⟩;show LeavesInM (FF none) 1 P fn xA.tmps _ [] (settle u1) w';rw[jQ];exact hL
 have ok:G6 fn.ntmps w ⟨m,oH,[D],mQ.2.1,true⟩ (cK ρ w B) (EC P l3 t6 (cl.map fun s=>.ptr (kF aE s) 0) rs R .eY) xA w5->LeavesInM (FF none) 1 P fn xA.tmps (lI w m ρ B (fun r B'=>∃y b',r=.pv y/\B'=[(.par 0,b')]/\R y b')) xA.defers .returning w5:=fun⟨τ,UU,m5,h1,h2⟩=>key .returning .returning .nilIface .eY τ UU m5 (.inl ⟨rfl,rfl,rfl⟩) h1 h2 .eY
 cases e with
 |normal=>exact ok hq
 |ret=>exact ok hq
 |exit id=>obtain⟨τ,pE,m1,q,_⟩:=hq;exact q.elim
 |goto l=>exact hq.elim
 |outgrown=>exact hq.elim
 |panic ch=>
  obtain⟨v,x,τ,UU,m5,bE,rfl,_,Wh,h1,h2,h3⟩:=hq;obtain rfl:=Wh rfl;exact key _ _ v x τ UU m5 (.inr ⟨v,rfl,rfl,rfl⟩) h1 h2 h3.nN
end
section
attribute [local simp] AS.exp jY aJ.iX AV.map AV.iT rN dO Site.uS aJ.dC AV.dC AV.hZ aT cT AS.lX fB gI cA pD kF mT gK w9
attribute [local simp] aJ.bG Site.fP
def aP (a b c d e:PV):aJ:=.cells [.pv a,.pv b,.pv c,.pv d,.pv e]
def nxS (a b c d e:PV)(x:ByteArray):AS:=⟨[(10,.fn 81 [] [.ptr (.loc 5 0) 0,.ptr (.loc 2 0) 0,.ptr (.loc 4 0) 0]),(5,.ptr (.loc 5 0) 0),(4,.ptr (.loc 4 0) 0),(2,.ptr (.loc 2 0) 0),(1,.pv (.str x))],
 [(.loc 5 0,aP a b c d e),(.loc 4 0,.cells [.pv (.i 0)]),(.loc 2 0,.cells [.ptr (.par 0) 0]),(.par 0,aP a b c d e)]⟩
def nxE (R:PV->aJ->Prop):PV->AS->Prop:=EC prog (V1 L81.code) 6 [.ptr (.par 1) 0,.ptr (.par 2) 0,.ptr (.par 3) 0] [.cell 4 false 1] R
theorem ZkS (a b c d e:PV)(x:ByteArray)(R:PV->aJ->Prop)
  (hD:fO prog (V1 (V1 (V1 L43.code))) (lF (nxE R .eY)) (nxE R) ⟨[(1,.pv (.str x)),(2,.ptr (.par 2) 0),(4,.ptr (.par 3) 0)],[(.par 0,aP a b c d e),(.par 1,aP a b c d e),(.par 2,.cells [.ptr (.par 0) 0]),(.par 3,.cells [.pv (.i 0)])]⟩):
  cU prog 43 [.ptr (.par 0) 0,.pv (.str x)] [(.par 0,aP a b c d e)] (fun r B'=>∃y b',r=.pv y/\B'=[(.par 0,b')]/\R y b'):=by
 refine ZoM (g:=81) (t:=10) (t6:=6) (cl:=[.loc 5 0,.loc 2 0,.loc 4 0]) (aE:=[.par 0,.loc 5 0,.loc 2 0,.loc 4 0]) (d:=99)
  (S:=nxS a b c d e x) (BL:=[(.par 0,aP a b c d e),(.par 1,aP a b c d e),(.par 2,.cells [.ptr (.par 0) 0]),(.par 3,.cells [.pv (.i 0)])])
  (l1:=Lg L43.code) (l2:=Lg (V1 L43.code)) (lb:=V1 (V1 (V1 L43.code))) (MO:=ZU (Lg (V1 (V1 L43.code)))) (l3:=V1 L81.code)
  (Rc:=[(1,.pv (.str x)),(2,.ptr (.par 2) 0),(4,.ptr (.par 3) 0)]) (rs:=[.cell 4 false 1])
  mixed func43 (by kernel_rfl) rfl (by kernel_rfl) (by kernel_rfl) (by kernel_rfl) (by kernel_rfl) (by kernel_rfl) (by kernel_rfl) (by kernel_rfl) (by kernel_rfl) rfl rfl rfl rfl rfl (by kernel_rfl) (tR rfl)
  func81 (by kernel_rfl) rfl ?_ rfl rfl (tR rfl) rfl (by kernel_rfl) (by kernel_rfl) (tR rfl) ?_ ?_ (by simp) rfl ?_ ?_ rfl ?_ ?_
 .intro ev w;rfl
 .refine J1 ?_;simp[L43,Lg,V1,aP,hold];refine Mk ?_;simp[ZU];exact Sub.mk (by simp) (by simp[aP])
 .rfl
 .rfl
 .intro s hs;simp at hs;rcases hs with rfl|rfl|rfl<;>exact⟨rfl,rfl⟩
 .intro t v h;by_cases e1:t=1
  .subst e1;cases h;exact⟨_,rfl,rfl,rfl⟩
  by_cases e2:t=2
  .subst e2;cases h;exact⟨_,rfl,rfl,rfl⟩
  by_cases e4:t=4
  .subst e4;cases h;exact⟨_,rfl,rfl,rfl⟩
  rw[jJ e1,jJ e2,jJ e4]at h;cases h
 .exact hD
def PQ (B:List (Site×aJ)):AS:=⟨[(4,.ptr (.par 3) 0)],B⟩
def yG (w:aJ)(a b c d x:PV)(e:Int):List (Site×aJ):=[(.par 0,w),(.par 1,aP a b c d x),(.par 2,.cells [.ptr (.par 0) 0]),(.par 3,.cells [.pv (.i e)])]
theorem Ah {e:Int}{a b c d x:PV}{w:aJ}(hw:w.dC Site.x3=true)(s:Site)(v:aJ)(h:List.lookup s (yG w a b c d x e)=some v):s.x3=true/\v.dC Site.x3=true:=by
 unfold yG at h;by_cases e0:s=.par 0
 .subst e0;rw[mX]at h;cases h;exact⟨rfl,hw⟩
 rw[jJ e0]at h;by_cases e1:s=.par 1
 .subst e1;rw[mX]at h;cases h;exact⟨rfl,rfl⟩
 rw[jJ e1]at h;by_cases e2:s=.par 2
 .subst e2;rw[mX]at h;cases h;exact⟨rfl,rfl⟩
 rw[jJ e2]at h;obtain⟨rfl,rfl⟩:=zO h;exact⟨rfl,rfl⟩
theorem Af {e:Int}{a b c d x:PV}{w:aJ}(hw:w.dC Site.x3=true):Mn (PQ (yG w a b c d x e)):=by
 refine⟨fun t v h=>?_,fun s v h=>Ah hw s v h⟩;have h':List.lookup t [(4,AV.ptr (.par 3) 0)]=some v:=h;by_cases e4:t=4
 .subst e4;cases h';rfl
 .rw[jJ e4]at h';cases h'
theorem Ag {e:Int}{a b c d x:PV}{w:aJ}(hw:w.dC Site.x3=true):Mn ⟨[],yG w a b c d x e⟩:=⟨fun t v h=>(by cases h),fun s v h=>Ah hw s v h⟩
theorem Ztf {a b c d e a' b' c' d' e':PV}{x:ByteArray}(hl:cU prog 82 [.ptr (.par 0) 0,.pv (.str x)] [(.par 0,aP a b c d e)] (fun r B=>r=.pv (.bN [])/\B=[(.par 0,aP a' b' c' d' e')])):
  cU prog 43 [.ptr (.par 0) 0,.pv (.str x)] [(.par 0,aP a b c d e)] (fun r B=>r=.pv (.i 0)/\B=[(.par 0,aP a' b' c' d' e')]):=by
 refine(ZkS a b c d e x (fun y w=>y=.i 0/\w=aP a' b' c' d' e') ?_).mono (fun r B ⟨y,w,h1,h2,h3,h4⟩=>⟨by rw[h1,h3],by rw[h2,h4]⟩);refine GZ ?_;simp[L43,V1];refine xU 13 [.par 0] rfl rfl rfl rfl rfl rfl hl ?_;rintro r B ⟨rfl,rfl⟩;simp[aP];refine⟨rfl,PQ (yG (aP a' b' c' d' e') a b c d e 0),Sub.mk (by simp) (by simp[yG,aP]),Af rfl,by simp[PQ,yG],J1 ?_⟩;simp[L81,V1,PQ,yG,aP];refine⟨⟨[],yG (aP a' b' c' d' e') a b c d e 0⟩,Sub.mk (by simp) (by simp[yG,aP]),Ag rfl,?_⟩;simp[yG,aP]
theorem Ztg {a b c d e:PV}{x:ByteArray}{n:Int}(hl:x9 prog 82 [.ptr (.par 0) 0,.pv (.str x)] [(.par 0,aP a b c d e)] (fun y B=>y=yU n/\∃a' b' c' d' e',B=[(.par 0,aP a' b' c' d' e')])):
  cU prog 43 [.ptr (.par 0) 0,.pv (.str x)] [(.par 0,aP a b c d e)] (fun r B=>r=.pv (.i n)/\B=[(.par 0,aP a b c d e)]):=by
 refine(ZkS a b c d e x (fun y w=>y=.i n/\w=aP a b c d e) ?_).mono (fun r B ⟨y,w,h1,h2,h3,h4⟩=>⟨by rw[h1,h3],by rw[h2,h4]⟩);show fO _ (.seq (.region [_,_,_]) _) _ _ _;refine xF [_,_] ?_;simp;refine⟨rfl,.inl ⟨_,_,rfl,?_⟩⟩;refine ZpT 13 [.par 0] rfl rfl rfl rfl rfl rfl hl ?_;rintro y B ⟨rfl,a',b',c',d',e',rfl⟩;simp[aP];refine⟨rfl,PQ (yG (aP a' b' c' d' e') a b c d e 0),Sub.mk (by simp) (by simp[yG,aP]),Af rfl,by simp[PQ,yG],J1 ?_⟩;simp[L81,V1,PQ,yG,aP,yU];refine KP ⟨[(15,.pv (.i n)),(2,.ptr (.par 3) 0)],yG (aP a b c d e) a b c d e 0⟩ ?_ ?_
 .simp[gL,gS];exact Sub.mk (by simp) (by simp[yG,aP])
 .simp[gL,gS,yG,aP];refine⟨⟨[],yG (aP a b c d e) a b c d e n⟩,Sub.mk (by simp) (by simp[yG,aP]),Ag rfl,?_⟩;simp[yG,aP]
theorem A9 (a b:ByteArray):(a.toList==b.toList)=decide (a=b):=by
 rw[rB,ByteArray.toList_eq,ByteArray.toList_eq];simp only[beq_iff_eq,decide_eq_true_eq];exact⟨fun h=>by
  obtain⟨a⟩:=a;obtain⟨b⟩:=b
  have:a=b:=xS.1 h
  rw[this],fun h=>by rw[h]⟩
def lO (s:ByteArray):Option Int:=match Lib.atoiAll s.data.toList with
 |.ok v=>if oP v=s/\(trimB s ⟨#[45]⟩).size<=9 then some v else none
 |_=>none
theorem Zp1 (s:ByteArray)(hs:s.size<=1000000)(v:Int)(h:lO s=some v):aC prog 128 [.str s] (.i v):=by
 refine cS L128 ?_;have ha:=Zr1 s hs;unfold lO at h;unfold j3 at ha;cases s9:Lib.atoiAll s.data.toList with
 |ok u=>
  rw[s9]at h ha;dsimp only at h ha;split at h
  .rename_i hc;cases h;have hb:=Lib.atoiAll_bounds s9;have hi:=Zf v ⟨by omega,by omega⟩;have ht:=Zry s ⟨#[45]⟩;have hle:((trimB s ⟨#[45]⟩).size:Int)<=9:=by omega
   have Cm:=hc.2;simp[L128];refine cG [.str s] ha ?_;simp;refine cG [.i v] hi ?_;rw[hc.1];simp;refine cG [.str s,.str ⟨#[45]⟩] ht ?_;simp[hle];refine cG [.bool true,.i 4] (gR 4) ?_;simp
  .cases h
 |_=>rw[s9]at h;cases h
theorem Zp3 (s:ByteArray)(hs:s.size<=1000000)(h:lO s=none):x9 prog 128 [.pv (.str s)] [] (fun x B=>x=yU 4/\B=[]):=by
 refine(ZcH (R:=fun _ _=>False) mixed L128_ok (tR rfl) ?_).B8 (fun _ _ h=>h);have ha:=Zr1 s hs;unfold lO at h;unfold j3 at ha;generalize hQ:J9 (fun x B=>x=yU 4/\B=[])=Qp;have oU:∀τ:AS,Qp (yU 4) τ:=fun τ=>by rw[<-hQ];exact⟨[],rfl,(fun s hs=>by cases hs),rfl,rfl⟩
 show fO _ (.seq _ (.seq _ (.seq (.region [_,_,_,_,_,_,_,_,_,_,_,_,_,_,_]) _))) _ _ _;refine mI ?_;simp[hold];refine mI ?_;simp[hold];refine gH (k:=0) (fs:=[]) (xs:=[.str s]) (cs:=[]) rfl rfl ha (by split<;>rfl) ?_;cases s9:Lib.atoiAll s.data.toList with
 |ok u=>
  rw[s9]at h;dsimp only at h;have hb:=Lib.atoiAll_bounds s9;have hi:=Zf u ⟨by omega,by omega⟩;have ht:=Zry s ⟨#[45]⟩;simp;refine xF [_,_,_,_,_,_,_,_,_,_,_,_,_,_] ?_;simp;refine cG [.i u] hi ?_;by_cases h1:oP u=s
  .have h2:¬(trimB s ⟨#[45]⟩).size<=9:=fun h2=>by rw[if_pos ⟨h1,h2⟩]at h;cases h
   rw[h1];simp;refine cG [.str s,.str ⟨#[45]⟩] ht ?_;have h3:¬((trimB s ⟨#[45]⟩).size:Int)<=9:=by omega
   simp[h3,hold];exact UO (d:=99) [] (xs:=[.bool false,.i 4]) (cs:=[]) rfl rfl (A0 4) rfl (fun x hx=>by rw[hx.1];exact oU _) (fun x B hx=>hx.2)
  .simp[A9,h1,hold];exact UO (d:=99) [] (xs:=[.bool false,.i 4]) (cs:=[]) rfl rfl (A0 4) rfl (fun x hx=>by rw[hx.1];exact oU _) (fun x B hx=>hx.2)
 |_=>
  simp[hold];refine xF [_,_,_,_,_,_,_,_,_,_,_,_,_,_] ?_;simp;exact UO (d:=99) [] (xs:=[.bool false,.i 4]) (cs:=[]) rfl rfl (A0 4) rfl (fun x hx=>by rw[hx.1];exact oU _) (fun x B hx=>hx.2)
section
attribute [local simp] oL aY AS.cJ AV.cJ AV.aY aJ.cJ AS.tidy AS.j7
def GD (e:TypeId)(n:Nat)(l:List PV)(r:AV)(B:List (Site×aJ)):Prop:=(l=[]/\r=.pv (.emp (some true))/\B=[])\/(r=.vec (.ret 0) n 0 l.length/\B=[(.ret 0,.arr e n l)])
def VM (e n b:Nat):aW:=⟨8,(.seq (.region [⟨(some 2),none,(.dU (.c (.emp (some true)))),true⟩]) (.seq (.seq (.region [⟨(some 3),none,(.dU (.t 0)),true⟩,⟨(some 4),none,(.yJ .sl false (.t 3)),true⟩]) (.cond (.t 4) (.seq (.region [⟨(some 2),none,(.dU (.c (.emp (some true)))),true⟩]) .ret) .skip)) (.seq (.region [⟨(some 5),none,(.aQ e n []),true⟩,⟨(some 6),none,(.dU (.t 0)),true⟩,⟨(some 7),none,(.iR e n b (.t 5) (.t 6)),true⟩,⟨(some 2),none,(.dU (.t 7)),true⟩]) .ret))),[(.tm 2)]⟩
theorem Hh {f:FuncId}{e n:Nat}(b:Nat)(l:List PV)(hl:l.length<=1000000)(hL:fV prog f=some (VM e n b):=by kernel_rfl)(hb:b<=1000:=by decide):cU prog f [.pv (.aF false n l)] [] (GD e n l):=by
 refine ZaR mixed hL (tR rfl) ?_;cases l with
 |nil=>
  simp[VM,dI,y8,aN,cC,B9,hb];exact⟨⟨[],by simp[GD]⟩,⟨[.loc 7 0],by simp[GD]⟩⟩
 |cons a l=>
  have h1:l.length+1<=1000000:=by simpa using hl
  have h2:l.length<=999999:=by omega
  simp[VM,dI,aN,h2,hb];exact⟨[.loc 7 0],by simp[GD]⟩
theorem Zgp (l:List PV)(hl:l.length<=1000000):cU prog 51 [.pv (.aF false 1 l)] [] (GD 3 1 l):=Hh 8 l hl
theorem Zg7 (l:List PV)(hl:l.length<=1000000):cU prog 54 [.pv (.aF false 7 l)] [] (GD 131 7 l):=Hh 56 l hl
theorem Zg6 (l:List PV)(hl:l.length<=1000000):cU prog 73 [.pv (.aF false 4 l)] [] (GD 62 4 l):=Hh 32 l hl
theorem Zmj (l:List PV)(hl:l.length<=1000000):cU prog 74 [.pv (.aF false 4 l)] [] (GD 107 4 l):=Hh 32 l hl
theorem Zmk (l:List PV)(hl:l.length<=1000000):cU prog 262 [.pv (.aF false 3 l)] [] (GD 169 3 l):=Hh 40 l hl
end
end
section
section
variable {P:Program}{σ:AS}{K:AV->AS->Prop}
theorem R8 (fz:List Site){f:bB}{args:List bB}{d:Nat}{g:FuncId}{fs xs cs:List PV}{R:AV->List (Site×aJ)->Prop}(h1:(aL fz σ).o f=.pv (.fn g fs cs))(h2:(aL fz σ).tY args=some xs)
  (hc:cU P g ((fs++xs++cs).map .pv) [] R) (hK:∀r B,R r B->oK r B/\K (r.map (iU d)) (((aL fz σ).bG d).lX (nV d B))):zD P f args d K σ:=.inr ⟨fz,g,fs,xs,cs,h1,h2,hc.mono hK⟩
end
theorem BK {P:Program}{t r:LT}{K:AS->Prop}{σ:AS}(J:AS->Prop)(h1:gN P t (fun zI=>∃τ,Sub τ zI/\J τ) σ)(h2:∀τ,J τ->gN P r K τ):gN P (.seq t r) K σ:=⟨J,h1,h2⟩
attribute [local simp] AS.exp jY aJ.iX AV.map AV.iT rN dO Site.uS aJ.dC AV.dC AV.hZ aT cT AS.lX fB gI cA pD kF mT gK w9
attribute [local simp] aJ.bG Site.fP
attribute [local simp] oL aY AS.cJ AV.cJ AV.aY aJ.cJ AS.tidy AS.j7 aL oK nV iU
theorem Zia {l:List PV}{x:PV}:List.take (l.length+1) (l++[x])=l++[x]:=fQ (by simp)
theorem Zmg (l:List PV)(x:Int)(hl:l.length<=900000):aC prog 38 [.aF false 1 l,.i x] (.aF false 1 (l++[.i x])):=by
 have h1:l.length+1<=1000000:=by omega
 refine Q6 [.loc 9 0] L38 ?_;intro R hR;simp[L38];refine xU 6 [] rfl rfl rfl rfl rfl rfl (Zgp l (by omega)) ?_;rintro r B (⟨rfl,rfl,rfl⟩|⟨rfl,rfl⟩)
 .simp[<-hR,aN]
 .simp[<-hR,aN,h1,Zia]
theorem Zki:∀l:List PV,eD (l.map AV.pv)=some l
 |[]=>rfl
 |x::r=>by simp only[iS,eD,Zki r]
def lWi (e n b:Nat)(fc:FuncId):aW:=⟨10,(.seq (.region [⟨(some 3),none,(.box n (.t 1)),true⟩,⟨(some 4),none,(.dU (.c (.emp (some true)))),true⟩]) (.seq (.jA (.op ⟨(some 5),none,(.dU (.t 0)),false⟩ (.op ⟨(some 7),none,(.load true n (.t 3)),false⟩ (.seq (.alt ⟨(some 6),none,(.call (.c (.fn fc [] [])) [(.t 5)]),false⟩ (.alt ⟨(some 8),none,(.aQ e n [(.t 7)]),true⟩ .done .no) (.alt ⟨(some 8),none,(.aQ e n [(.t 7)]),true⟩ (.alt ⟨(some 6),none,(.call (.c (.fn fc [] [])) [(.t 5)]),false⟩ .done .no) .no)) (.alt ⟨(some 9),none,(.app e n b (.t 6) (.t 8)),true⟩ (.op ⟨(some 4),none,(.dU (.t 9)),true⟩ .done) .no))))) .ret)),[(.tm 4)]⟩
theorem Zj4 {f fc:FuncId}{e n:Nat}(b:Nat){l cs:List PV}(hl:l.length<=900000)(gP:cU prog fc [.pv (.aF false n l)] [] (GD e n l))(hn:cs.length=n)(hL:fV prog f=some (lWi e n b fc):=by kernel_rfl)(hb:b<=1000:=by decide)(h0:0<n:=by decide):aC prog f [.aF false n l,.agg cs] (.aF false n (l++[.agg cs])):=by
 have h1:l.length+1<=1000000:=by omega
 have h2:l.length<=999999:=by omega
 have Bj:=Zki cs;have jX:(cs.map AV.pv).take n=cs.map AV.pv:=fQ (by simp;omega);refine Qi [.loc 9 0] mixed hL (tR rfl) ?_;generalize hR:(fun(r:AV) (B:List (Site×aJ))=>r=.pv (.aF false n (l++[.agg cs]))/\B=[])=R;simp[lWi,aN,hn,Bj,jX,y0];refine BK (fun τ=>(l=[]/\τ=⟨[(6,.pv (.emp (some true))),(8,.vec (.loc 8 0) n 0 1)],[(.loc 8 0,.arr e n [.agg cs])]⟩)\/τ=⟨[(6,.vec (.loc 6 0) n 0 l.length),(8,.vec (.loc 8 0) n 0 1)],[(.loc 6 0,.arr e n l),(.loc 8 0,.arr e n [.agg cs])]⟩) ?_ ?_
 .simp only[gL];refine⟨?_,?_⟩
  .simp;refine R8 [] (fs:=[]) (xs:=[.aF false n l]) (cs:=[]) rfl rfl gP ?_;rintro r B (⟨rfl,rfl,rfl⟩|⟨rfl,rfl⟩)
   .simp[gL,gS,hn];exact⟨_,Sub.mk (by simp) (by simp),.inl rfl⟩
   .simp[gL,gS,hn,Bj,jX,y0];exact⟨_,Sub.mk (by simp) (by simp),.inr rfl⟩
  .refine⟨?_,trivial⟩;simp[gL,gS,hn];refine R8 [] (fs:=[]) (xs:=[.aF false n l]) (cs:=[]) rfl rfl gP ?_;rintro r B (⟨rfl,rfl,rfl⟩|⟨rfl,rfl⟩)
   .simp;exact⟨_,Sub.mk (by simp) (by simp),.inl rfl⟩
   .simp;exact⟨_,Sub.mk (by simp) (by simp),.inr rfl⟩
 .rintro τ (⟨rfl,rfl⟩|rfl)
  .simp[gL,gS,<-hR,aN,hb,h0]
  .simp[gL,gS,<-hR,aN,h1,hb,Zia,h0]
theorem ZoP (l:List PV)(a b c d e f g:Int)(hl:l.length<=900000):aC prog 207 [.aF false 7 l,.agg [.i a,.i b,.i c,.i d,.i e,.i f,.i g]] (.aF false 7 (l++[.agg [.i a,.i b,.i c,.i d,.i e,.i f,.i g]])):=Zj4 56 hl (Zg7 l (by omega)) rfl
theorem ZoN (l:List PV)(a b c d:Int)(hl:l.length<=900000):aC prog 216 [.aF false 4 l,.agg [.i a,.i b,.i c,.i d]] (.aF false 4 (l++[.agg [.i a,.i b,.i c,.i d]])):=Zj4 32 hl (Zmj l (by omega)) rfl
theorem ZoO (l:List PV)(a b:Int)(o:List PV)(x:PV)(hx:x=.aF false 1 o)(hl:l.length<=900000):aC prog 217 [.aF false 3 l,.agg [.i a,.i b,x]] (.aF false 3 (l++[.agg [.i a,.i b,x]])):=Zj4 40 hl (Zmk l (by omega)) rfl
end
section
attribute [local simp] AS.exp jY aJ.iX AV.map AV.iT rN dO Site.uS aJ.dC AV.dC AV.hZ aT cT AS.lX fB gI cA pD kF mT gK w9
attribute [local simp] aJ.bG Site.fP
def kD:ByteArray:=⟨#[99,101,114,116]⟩
def pL:ByteArray:=⟨#[98,97,100]⟩
def pK:ByteArray:=⟨#[108,111,116]⟩
def kB:ByteArray:=⟨#[116,101,115,116]⟩
def kC:ByteArray:=⟨#[112,97,115,115]⟩
def pJ:ByteArray:=⟨#[114,117,110]⟩
def V4 (k:Int)(f:FuncId):PV:=.agg [.i k,.fn f [] []]
def nU:List (PV×PV):=[(.str kD,V4 7 168),(.str pL,V4 1 169),(.str pK,V4 3 170),(.str kB,V4 4 171),(.str kC,V4 1 172),(.str pJ,V4 3 173)]
theorem Zr5:cU prog 126 [] [] (fun r B=>r=.mp (.ret 0)/\B=[(.ret 0,.map nU)]):=by
 refine cB [.loc 1 0] L126 ?_;simp[L126,A4,mM];rfl
def gY (s:ByteArray):Option (Nat×FuncId):=if s=kD then some (7,168)else if s=pL then some (1,169)else if s=pK then some (3,170)else if s=kB then some (4,171)else if s=kC then some (1,172)else if s=pJ then some (3,173)else none
theorem Zr9 (s:ByteArray):fA (.str s) nU=(gY s).map fun p=>V4 p.1 p.2:=by
 unfold gY;by_cases h0:s=kD
 .have d0:decide (s=kD)=true:=decide_eq_true h0;simp only[nU,fA,gV,lT,wR,PV.cells,A9,Bool.and_true,d0,if_pos h0];rfl
 have d0:decide (s=kD)=false:=decide_eq_false h0;by_cases h1:s=pL
 .have d1:decide (s=pL)=true:=decide_eq_true h1;simp only[nU,fA,gV,lT,wR,PV.cells,A9,Bool.and_true,d0,d1,if_neg h0,if_pos h1];rfl
 have d1:decide (s=pL)=false:=decide_eq_false h1;by_cases h2:s=pK
 .have d2:decide (s=pK)=true:=decide_eq_true h2;simp only[nU,fA,gV,lT,wR,PV.cells,A9,Bool.and_true,d0,d1,d2,if_neg h0,if_neg h1,if_pos h2];rfl
 have d2:decide (s=pK)=false:=decide_eq_false h2;by_cases h3:s=kB
 .have d3:decide (s=kB)=true:=decide_eq_true h3;simp only[nU,fA,gV,lT,wR,PV.cells,A9,Bool.and_true,d0,d1,d2,d3,if_neg h0,if_neg h1,if_neg h2,if_pos h3];rfl
 have d3:decide (s=kB)=false:=decide_eq_false h3;by_cases h4:s=kC
 .have d4:decide (s=kC)=true:=decide_eq_true h4;simp only[nU,fA,gV,lT,wR,PV.cells,A9,Bool.and_true,d0,d1,d2,d3,d4,if_neg h0,if_neg h1,if_neg h2,if_neg h3,if_pos h4];rfl
 have d4:decide (s=kC)=false:=decide_eq_false h4;by_cases h5:s=pJ
 .have d5:decide (s=pJ)=true:=decide_eq_true h5;simp only[nU,fA,gV,lT,wR,PV.cells,A9,Bool.and_true,d0,d1,d2,d3,d4,d5,if_neg h0,if_neg h1,if_neg h2,if_neg h3,if_neg h4,if_pos h5];rfl
 have d5:decide (s=pJ)=false:=decide_eq_false h5;simp only[nU,fA,gV,lT,wR,PV.cells,A9,Bool.and_true,d0,d1,d2,d3,d4,d5,if_neg h0,if_neg h1,if_neg h2,if_neg h3,if_neg h4,if_neg h5];rfl
section
attribute [local simp] aL oK nV iU
def blank:ByteArray:=⟨#[32]⟩
theorem Mc (s:ByteArray):(xX s blank).length=Lib.countB s blank+1:=Lib.splitB_all blank (by decide) 0 _ s rfl
theorem Zrz (s:ByteArray):Lib.countB s blank<=s.size:=Lib.countB_le blank (by decide) _ s (fH _)
def mN:List ByteArray->Option (List Int)
 |[]=>some []
 |x::r=>match lO x with
  |some n=>(mN r).map (n::·)
  |none=>none
theorem Ps {x:ByteArray}{r:List ByteArray}:mN (x::r)=match lO x with
  |some n=>(mN r).map (n::·)
  |none=>none:=rfl
def P0 (s:ByteArray):Option (FuncId×List Int):=match xX s blank with
 |[]=>none
 |l0::r=>match gY l0 with
  |some (k,g)=>if r.length=k then(mN r).map fun n=>(g,n)else none
  |none=>none
def yF (Q:PV->PV->PV->PV->PV->Prop)(r:AV)(B:List (Site×aJ)):Prop:=r=.pv (.bN [])/\∃a b c d e,B=[(.par 0,aP a b c d e)]/\Q a b c d e
def uY (E:Int->Prop)(x:PV)(B:List (Site×aJ)):Prop:=∃n,x=yU n/\E n/\∃a b c d e,B=[(.par 0,aP a b c d e)]
theorem Zem (sep:ByteArray):∀(k:Nat) (s x:ByteArray),x∈Lib.splitB sep 0 k s->x.size<=s.size
 |0,s,x,h=>by
  rw[Lib.splitB_zero]at h;cases sG.1 h;exact fH _
 |k+1,s,x,h=>by
  unfold Lib.splitB at h;split at h
  .cases sG.1 h;exact fH _
  .rcases jT.1 h with rfl|h
   .rw[ByteArray.size_extract];omega
   .have:=Zem sep k _ x h
    rw[ByteArray.size_extract]at this;omega
theorem Zev {x:ByteArray}{v:Int}(hx:lO x=some v):∀{r:List ByteArray} {l:List Int},mN r=some l->mN (r++[x])=some (l++[v])
 |[],l,h=>by cases h;simp[mN,hx]
 |y::r,l,h=>by
  rw[Ps]at h;cases hy:lO y with
  |none=>rw[hy]at h;cases h
  |some n=>
   rw[hy]at h;obtain⟨l',h1,rfl⟩:=eB.1 h;rw[List.cons_append,Ps,hy];dsimp only;rw[Zev hx h1];rfl
theorem Zew {x:ByteArray}(hx:lO x=none):∀{r:List ByteArray},x∈r->mN r=none
 |y::r,h=>by
  rw[Ps];rcases jT.1 h with rfl|h
  .rw[hx]
  .cases hy:lO y with
   |none=>rfl
   |some n=>dsimp only;rw[Zew hx h];rfl
def iP (n:Int):PV:=.i n
def VK (r:List ByteArray)(k:Int)(g:PV)(w:aJ)(i:Nat)(l:List Int):AS:=⟨[(0,.ptr (.par 0) 0),(5,.ptr (.loc 5 0) 0),(7,.vec (.loc 41 0) 1 0 l.length),(31,.pv (.aF true 1 (r.map .str))),(32,.pv (.i r.length)),(33,.pv (.i i))],
 [(.loc 41 0,.arr 3 1 (l.map iP)),(.loc 5 0,.cells [.pv (.i k),.pv g]),(.par 0,w)]⟩
theorem Zke {s:ByteArray}{k:Nat}{g:FuncId}(h:gY s=some (k,g)):1<=k/\k<=7:=by
 unfold gY at h
 repeat' split at h
 all_goals first|(cases h;omega)|cases h
theorem ZuY {a b c d e:PV}(s:ByteArray)(hs:s.size<=1000){Q:PV->PV->PV->PV->PV->Prop}{E:Int->Prop}(h4:P0 s=none->E 4)
  (RZ:∀g nums,P0 s=some (g,nums)->cU prog g [.ptr (.par 0) 0,.pv (.aF false 1 (nums.map iP))] [(.par 0,aP a b c d e)] (yF Q)\/x9 prog g [.ptr (.par 0) 0,.pv (.aF false 1 (nums.map iP))] [(.par 0,aP a b c d e)] (uY E)):
  tH prog 82 [.ptr (.par 0) 0,.pv (.str s)] [(.par 0,aP a b c d e)] (yF Q) (uY E):=by
 have jP:=Zst s blank (by omega) (by decide) (Mc s) (by have:=Zrz s;omega);have hlen:=Mc s;have SB:=Zrz s;refine cX L82 ?_;generalize hQ:J9 (uY E)=Qp;have oU:∀(n:Int) (τ:AS) a b c d e,E n->τ.b (.par 0)=some (aP a b c d e)->Qp (yU n) τ:=fun n τ a b c d e h1 h2=>by
  rw[<-hQ];refine⟨[.par 0],rfl,fun s hs b hb=>?_,n,rfl,h1,a,b,c,d,e,?_⟩
  .cases sG.1 hs;rw[h2]at hb;cases hb;rfl
  .unfold AS.exp;rw[h2];rfl
 unfold P0 at h4 RZ;cases hl:xX s blank with
 |nil=>rw[hl]at hlen;cases hlen
 |cons l0 r=>
 rw[hl]at jP h4 RZ hlen;dsimp only at h4 RZ;have r5:r.length<=1000:=by simp at hlen;omega
 show fO _ (.seq _ (.seq _ (.seq _ (.seq _ (.seq _ _))))) _ _ _;refine mI ?_;simp[hold];refine .inl (cQ [] [.str s,.str blank] jP ?_);simp;have hk:A4 ⟨false,[.str]⟩ nU=true:=rfl;have hw:=Zr9 l0;obtain⟨k,g,ok,U4,hwo⟩:∃(k:Int) (g:PV) (ok:Bool),((fA (.str l0) nU).getD (.agg [.i 0,.dP])=.agg [.i k,g]/\(fA (.str l0) nU).isSome=ok)/\((ok=false/\gY l0=none)\/∃(k':Nat) (g':FuncId),ok=true/\gY l0=some (k',g')/\k=k'/\g=.fn g' [] []):=by
  rw[hw];cases QH:gY l0 with
  |none=>exact⟨0,.dP,false,⟨rfl,rfl⟩,.inl ⟨rfl,rfl⟩⟩
  |some p=>exact⟨p.1,.fn p.2 [] [],true,⟨rfl,rfl⟩,.inr ⟨p.1,p.2,rfl,rfl,rfl,rfl⟩⟩
 refine mI ?_;simp[hold];refine KP ⟨[(19,.pv (.bool ok)),(5,.ptr (.loc 5 0) 0),(4,.pv (.aF true 1 ((l0::r).map .str))),(0,.ptr (.par 0) 0)],[(.loc 5 0,.cells [.pv (.i k),.pv g]),(.par 0,aP a b c d e)]⟩ ?_ ?_
 .simp[gL,gS];refine⟨?_,?_⟩
  .refine R8 [] (fs:=[]) (xs:=[]) (cs:=[]) rfl rfl Zr5 ?_;rintro r' B ⟨rfl,rfl⟩;simp[gL,gS,hk,U4];exact Sub.mk (by simp) (by simp[aP])
  .refine R8 [] (fs:=[]) (xs:=[]) (cs:=[]) rfl rfl Zr5 ?_;rintro r' B ⟨rfl,rfl⟩;simp[gL,gS,hk,U4];exact Sub.mk (by simp) (by simp[aP])
 simp[hold];rcases hwo with⟨rfl,Ki⟩|⟨k',g',rfl,CR,rfl,rfl⟩
 .rw[Ki]at h4;have hE:=h4 rfl;refine xF [_,_,_,_,_,_,_,_,_] ?_;simp[hold];exact UO (d:=99) [] (xs:=[.bool false,.i 4]) (cs:=[]) rfl rfl (A0 4) rfl (fun x hx=>by rw[hx.1];exact oU 4 _ a b c d e hE rfl) (fun x B hx=>hx.2)
 rw[CR]at h4 RZ;dsimp only at h4 RZ;obtain⟨iC,WE⟩:=Zke CR;have hkw:IntKind.i64.wrap ((k':Int)+1)=k'+1:=wrap64 ⟨by omega,by omega⟩;by_cases Tn:r.length=k'
 .rw[if_pos Tn]at h4;have IK:(r.length:Int)=k':=by omega
  refine mI ?_;simp[hold,hkw,IK];refine cG [.bool true,.i 4] (gR 4) ?_;simp;rw[if_pos Tn]at RZ;refine mI ?_;simp[hold];refine Zi8 (mI ?_);simp[hold,aN];refine Zg9 (ZoW (fun n τ=>∃i l,n=r.length-i/\i<=r.length/\mN (r.take i)=some l/\l.length=i/\τ=VK r k' (.fn g' [] []) (aP a b c d e) i l) ?_ ?_)
  .refine⟨_,VK r k' (.fn g' [] []) (aP a b c d e) 0 [],Sub.trans' (Sub.mk (by simp[AS.cW,IK]) (by simp[AS.cW,aP])) (cW 41 3 1 7 rfl (by decide)),0,[],rfl,by omega,rfl,rfl,rfl⟩
  rintro J hJ n τ ⟨i,l,rfl,hi,pG,rJ,rfl⟩;by_cases aI:i<r.length
  .obtain⟨x,hx⟩:∃x,r[i]?=some x:=⟨r[i],bC aI⟩;have jX:r.take (i+1)=r.take i++[x]:=by rw[mV,hx];rfl
   have FO:x.size<=1000000:=by
    have h1:x∈xX s blank:=by rw[hl];exact List.mem_cons_of_mem _ (dL hx)
    have:=Zem blank _ s x h1
    omega
   cases iI:lO x with
   |some v=>
    have qD:IntKind.i64.wrap ((i:Int)+1)=(i:Int)+1:=wrap64 ⟨by omega,by omega⟩;have NC:l.length+1<=1000000:=by omega
    refine GZ ?_;simp[-getElem?_pos,VK,aI,hx];refine cG [.str x] (Zp1 x FO v iI) ?_;simp[aN,NC,qD];refine⟨r.length-(i+1),VK r k' (.fn g' [] []) (aP a b c d e) (i+1) (l++[v]),by omega,Sub.mk (by simp) (by simp[aP,iP]),hJ _ _ ⟨i+1,l++[v],rfl,by omega,by rw[jX];exact Zev iI pG,by simp[rJ],rfl⟩⟩
   |none=>
    have hE:=h4 (by rw[Zew iI (dL hx)];rfl);refine mI ?_;simp[VK,aI,hold];refine mI ?_;simp[hold];refine Zi8 (Zg9 (mI ?_));simp[↓hx,hold];refine Hg [_,_] ?_;simp[hold];exact UO (d:=99) [] (xs:=[.str x]) (cs:=[]) rfl rfl (Zp3 x FO iI) rfl (fun y hy=>by rw[hy.1];exact oU 4 _ a b c d e hE rfl) (fun x B hx=>hx.2)
  .have e:i=r.length:=by omega
   subst e;rw[nD]at pG;have hg:=RZ g' l (by rw[pG];rfl);refine GZ ?_;simp[VK];rcases hg with hg|hg
   .refine GZ ?_;simp;refine Zmf 47 [.loc 41 0] [.par 0] rfl rfl rfl rfl (by simp[AS.cJ,AV.cJ,AV.aY,aJ.cJ]) (by simp[AS.cJ,AV.cJ,AV.aY,aJ.cJ];try exact fQ (by simp)) hg ?_;rintro r' B ⟨rfl,a',b',c',d',e',rfl,hq⟩;simp[aP];exact Zjm (outs:=[.par 0]) ⟨[],rfl,rfl,rfl,⟨⟨_,rfl,rfl⟩,trivial⟩,rfl,a',b',c',d',e',rfl,hq⟩
   .refine Hg [_,_,_,_] ?_;simp[hold];refine⟨rfl,.inl ⟨_,_,rfl,?_⟩⟩;refine ZnH 47 [.loc 41 0] [.par 0] rfl rfl rfl rfl (by simp[AS.cJ,AV.cJ,AV.aY,aJ.cJ]) (by simp[AS.cJ,AV.cJ,AV.aY,aJ.cJ];try exact fQ (by simp)) hg ?_;rintro y B ⟨n,rfl,hn,a',b',c',d',e',rfl⟩;refine⟨?_,oU n _ a' b' c' d' e' hn ?_⟩
    .simp[aP]
    .simp[aP]
 .rw[if_neg Tn]at h4;have hE:=h4 rfl;have IK:¬((r.length:Int)=k'):=by omega
  refine xF [_,_,_,_,_,_,_,_,_] ?_;simp[hold,hkw,IK];exact UO (d:=99) [] (xs:=[.bool false,.i 4]) (cs:=[]) rfl rfl (A0 4) rfl (fun x hx=>by rw[hx.1];exact oU 4 _ a b c d e hE rfl) (fun x B hx=>hx.2)
end
def dJ (l:List Int)(x:Int):Nat:=(l.filter fun y=>decide (y<x)).length
structure Cut (l:List Int)(x:Int)(i j:Nat):Prop where
 ij:i<=j
 jl:j<=l.length
 lo:∀(k:Nat) (y:Int),k<i->l[k]?=some y->y<x
 hi:∀(k:Nat) (y:Int),j<=k->l[k]?=some y->x<=y
theorem Cut.is {l:List Int}{x:Int}{i:Nat}(h:Cut l x i i):dJ l x=i:=by
 unfold dJ;have e:l.filter (fun y=>decide (y<x))=l.take i:=by
  conv=>lhs;rw[<-List.take_append_drop i l]
  rw[I2];have h1:(l.take i).filter (fun y=>decide (y<x))=l.take i:=by
   rw[List.filter_eq_self];intro y hy;obtain⟨k,hk⟩:=iO.1 hy;rw[mH]at hk;split at hk
   .rename_i AK;simpa using h.lo k y AK hk
   .cases hk
  have h2:(l.drop i).filter (fun y=>decide (y<x))=[]:=by
   rw[List.filter_eq_nil_iff];intro y hy;obtain⟨k,hk⟩:=iO.1 hy;rw[mW]at hk
   have:=h.hi (i+k) y (by omega) hk
   simp;omega
  rw[h1,h2,xC]
 rw[e,gM]
 have:=h.jl
 omega
theorem Cut.up {l:List Int}{x:Int}{i j k:Nat}{y:Int}(hs:l.Pairwise (·<·))(h:Cut l x i j)(hk:k<j)(hy:l[k]?=some y)(hx:y<x):Cut l x (k+1) j:=by
 refine⟨by omega,h.jl,fun m z hm hz=>?_,h.hi⟩;by_cases e:m=k
 .subst e;rw[hy]at hz;cases hz;exact hx
 .have xO:=(cD.1 hy).1;have T8:=(cD.1 hz).1
  have:=R3.1 hs m k T8 xO (by omega)
  rw[(cD.1 hy).2,(cD.1 hz).2]at this;omega
theorem Cut.dn {l:List Int}{x:Int}{i j k:Nat}{y:Int}(hs:l.Pairwise (·<·))(h:Cut l x i j)(hk:k<j)(qX:i<=k)(hy:l[k]?=some y)(hx:¬y<x):Cut l x i k:=by
 have xP:=h.jl;refine⟨qX,by omega,h.lo,fun m z hm hz=>?_⟩;by_cases e:m=k
 .subst e;rw[hy]at hz;cases hz;omega
 .have xO:=(cD.1 hy).1;have T8:=(cD.1 hz).1
  have:=R3.1 hs k m xO T8 (by omega)
  rw[(cD.1 hy).2,(cD.1 hz).2]at this;omega
theorem ZqR (x:Int):aC prog 249 [.i x] (.bool false):=by
 refine cS L249 ?_;simp[L249]
theorem Zpr (x:Int):aC prog 255 [.i x] (.bool false):=by
 refine cS L255 ?_;simp[L255]
theorem Zqg (a b:Int):aC prog 237 [.i a,.i b] (.bool (decide (a<b))):=by
 refine cS L237 ?_;simp[L237];refine cG [.i a] (ZqR a) ?_;simp
theorem MM (i j:Nat):∃m:Nat,m=(i+j) / 2/\((i:Int)+j).fdiv (2^min 1 IntKind.u64.bits)=(m:Int):=by
 refine⟨(i+j) / 2,rfl,?_⟩
 have:(2:Int)^min 1 IntKind.u64.bits=2:=by decide
 rw[this,Int.fdiv_eq_ediv_of_nonneg _ (by omega)];omega
def TD (l:List Int)(x:Int)(i j:Nat):AS:=⟨[(0,.pv (.aF false 1 (l.map iP))),(1,.pv (.i x)),(6,.pv (.i l.length)),(7,.pv (.i i)),(8,.pv (.i j))],[]⟩
theorem ML {i j:Nat}(h:j<=1000000)(hi:i<=j):IntKind.i64.wrap ((i:Int)+j)=(i:Int)+j:=wrap64 ⟨by omega,by omega⟩
theorem ZoQ (l:List Int)(x:Int)(hs:l.Pairwise (·<·))(hl:l.length<=1000000):aC prog 211 [.aF false 1 (l.map iP),.i x] (.bN [.i (dJ l x),.bool (decide (x∈l))]):=by
 refine O1 L211 ?_;intro R hR;simp[L211];refine eP (fun n τ=>∃i j,n=j-i/\Cut l x i j/\τ=TD l x i j) ?_ ?_
 .refine⟨_,TD l x 0 l.length,Sub.mk (by simp) (by simp),0,l.length,rfl,⟨by omega,by omega,fun k y hk=>by omega,fun k y hk hy=>?_⟩,rfl⟩
  have:=(cD.1 hy).1
  omega
 .rintro J hJ n τ ⟨i,j,rfl,hc,rfl⟩;have RP:=hc.ij;have xP:=hc.jl;by_cases h:i<j
  .have hw:=ML (i:=i) (j:=j) (by omega) RP;obtain⟨m,hm,hF⟩:=MM i j;have hU:IntKind.u64.wrap ((i:Int)+j)=(i:Int)+j:=by rw[IntKind.wrap_u64];omega
   have hW:IntKind.i64.wrap (m:Int)=m:=wrap64 ⟨by omega,by omega⟩;have Wj:IntKind.i64.wrap ((m:Int)+1)=(m:Int)+1:=wrap64 ⟨by omega,by omega⟩;obtain⟨y,hy⟩:∃y,l[m]?=some y:=⟨l[m],bC (by omega)⟩;simp[TD,h,hw,hU,hF,hW,↓hy,iP];refine cG [.i y,.i x] (Zqg y x) ?_;by_cases hx:y<x
   .simp[hx,Wj];refine⟨j-(m+1),TD l x (m+1) j,by omega,Sub.mk (by simp) (by simp),hJ _ _ ⟨m+1,j,rfl,hc.up hs (by omega) hy hx,rfl⟩⟩
   .simp[hx];refine⟨m-i,TD l x i m,by omega,Sub.mk (by simp) (by simp),hJ _ _ ⟨i,m,rfl,hc.dn hs (by omega) (by omega) hy hx,rfl⟩⟩
  .have e:j=i:=by omega
   subst e;have wL:=hc.is;by_cases hb:j<l.length
   .obtain⟨y,hy⟩:∃y,l[j]?=some y:=⟨l[j],bC hb⟩;simp[-getElem?_pos,TD,hb,hy,iP];by_cases hx:y=x
    .have gU:x∈l:=iO.2 ⟨j,by rw[hy,hx]⟩;simp[hx,<-hR,wL,gU]
    .have gU:x∉l:=fun hm=>by
      obtain⟨k,hk⟩:=iO.1 hm;rcases Nat.lt_trichotomy k j with q|q|q
      .have:=hc.lo k x q hk;omega
      .subst q;rw[hy]at hk;cases hk;exact hx rfl
      .have xO:=(cD.1 hk).1
       have:=R3.1 hs j k hb xO q
       rw[(cD.1 hy).2,(cD.1 hk).2]at this;have h2:=hc.hi j y (fH _) hy;omega
     simp[-getElem?_pos,hx];refine cG [.i y] (Zpr y) ?_;simp[<-hR,wL,gU]
   .have gU:x∉l:=fun hm=>by
     obtain⟨k,hk⟩:=iO.1 hm;have xO:=(cD.1 hk).1
     have:=hc.lo k x (by omega) hk
     omega
    simp[TD,hb,<-hR,wL,gU]
structure Lt where
 num:Int
 pieces:Int
 limit:Int
 passed:Bool
 deriving DecidableEq
def Lt.pv (x:Lt):PV:=.agg [.i x.num,.i x.pieces,.i x.limit,.bool x.passed]
theorem Zon (x:Lt)(n:Int)(h:IntKind.i64.wrap (x.num-n)=x.num-n):aC prog 259 [x.pv,.i n] (.i (x.num-n)):=by
 refine cS L259 ?_;simp[L259,Lt.pv,h]
def TF (l:List Lt)(x:Int)(i j:Nat):AS:=⟨[(0,.pv (.aF false 4 (l.map Lt.pv))),(1,.pv (.i x)),(2,.pv (.fn 259 [] [])),(8,.pv (.i l.length)),(9,.pv (.i i)),(10,.pv (.i j))],[]⟩
theorem Zmh (l:List Lt)(x:Int)(hs:(l.map Lt.num).Pairwise (·<·))(hl:l.length<=1000000)(hw:∀y∈l,IntKind.i64.wrap (y.num-x)=y.num-x):
  aC prog 258 [.aF false 4 (l.map Lt.pv),.i x,.fn 259 [] []] (.bN [.i (dJ (l.map Lt.num) x),.bool (decide (x∈l.map Lt.num))]):=by
 refine O1 L258 ?_;intro R hR;simp[L258];have hmap:∀(k:Nat) (y:Int),(l.map Lt.num)[k]?=some y->∃z,l[k]?=some z/\z.num=y:=fun k y h=>by
  rw[bY]at h;obtain⟨z,h1,h2⟩:=eB.1 h;exact⟨z,h1,h2⟩
 have wK:∀(k:Nat) (z:Lt),l[k]?=some z->(l.map Lt.num)[k]?=some z.num:=fun k z h=>by rw[bY,h];rfl
 have zS:(l.map Lt.num).length=l.length:=fZ _;refine eP (fun n τ=>∃i j,n=j-i/\Cut (l.map Lt.num) x i j/\τ=TF l x i j) ?_ ?_
 .refine⟨_,TF l x 0 l.length,Sub.mk (by simp) (by simp),0,l.length,rfl,⟨by omega,by omega,fun k y hk=>by omega,fun k y hk hy=>?_⟩,rfl⟩
  have:=(cD.1 hy).1
  omega
 .rintro J hJ n τ ⟨i,j,rfl,hc,rfl⟩;have RP:=hc.ij;have xP:=hc.jl;rw[zS]at xP;by_cases h:i<j
  .have H0:=ML (i:=i) (j:=j) (by omega) RP;obtain⟨m,hm,hF⟩:=MM i j;have hU:IntKind.u64.wrap ((i:Int)+j)=(i:Int)+j:=by rw[IntKind.wrap_u64];omega
   have hW:IntKind.i64.wrap (m:Int)=m:=wrap64 ⟨by omega,by omega⟩;have Wj:IntKind.i64.wrap ((m:Int)+1)=(m:Int)+1:=wrap64 ⟨by omega,by omega⟩;obtain⟨y,hy⟩:∃y,l[m]?=some y:=⟨l[m],bC (by omega)⟩;have hf:=Zon y x (hw y (dL hy));unfold Lt.pv at hf;simp[TF,h,H0,hU,hF,hW,↓hy,Lt.pv];refine cG [.agg [.i y.num,.i y.pieces,.i y.limit,.bool y.passed],.i x] hf ?_;by_cases hx:y.num<x
   .have rX:y.num-x<0:=by omega
    simp[rX,Wj];refine⟨j-(m+1),TF l x (m+1) j,by omega,Sub.mk (by simp) (by simp),hJ _ _ ⟨m+1,j,rfl,hc.up hs (by omega) (wK m y hy) hx,rfl⟩⟩
   .have rX:¬y.num-x<0:=by omega
    simp[rX];refine⟨m-i,TF l x i m,by omega,Sub.mk (by simp) (by simp),hJ _ _ ⟨i,m,rfl,hc.dn hs (by omega) (by omega) (wK m y hy) hx,rfl⟩⟩
  .have e:j=i:=by omega
   subst e;have wL:=hc.is;by_cases hb:j<l.length
   .obtain⟨y,hy⟩:∃y,l[j]?=some y:=⟨l[j],bC hb⟩;have hf:=Zon y x (hw y (dL hy));unfold Lt.pv at hf;simp[-getElem?_pos,TF,hb,hy,Lt.pv];refine cG [.agg [.i y.num,.i y.pieces,.i y.limit,.bool y.passed],.i x] hf ?_;by_cases hx:y.num=x
    .have gU:x∈l.map Lt.num:=iO.2 ⟨j,by rw[wK j y hy,hx]⟩;have rX:y.num-x=0:=by omega
     simp[-List.mem_map,rX,<-hR,wL,gU]
    .have gU:x∉l.map Lt.num:=fun hm=>by
      obtain⟨k,hk⟩:=iO.1 hm;rcases Nat.lt_trichotomy k j with q|q|q
      .have:=hc.lo k x q hk;omega
      .subst q;rw[wK _ y hy]at hk;cases hk;exact hx rfl
      .have xO:=(cD.1 hk).1;have Vb:=(cD.1 (wK j y hy)).1
       have:=R3.1 hs j k Vb xO q
       rw[(cD.1 (wK j y hy)).2,(cD.1 hk).2]at this;have h2:=hc.hi j _ (fH _) (wK j y hy);omega
     have rX:¬y.num-x=0:=by omega
     simp[-List.mem_map,rX,<-hR,wL,gU]
   .have gU:x∉l.map Lt.num:=fun hm=>by
     obtain⟨k,hk⟩:=iO.1 hm;have xO:=(cD.1 hk).1
     have:=hc.lo k x (by omega) hk
     omega
    simp[-List.mem_map,TF,hb,<-hR,wL,gU]
end
end Go.Proofs.YthmbecacehfgfabGreatDoor
namespace Go.Proofs
open Go.RowKit
open Tryz
section
open Go.Shelf
def Tryz.Zw5:Go.Shelf.Ren:=⟨fun|189=>136|125=>187|257=>186|128=>240|129=>241|294=>231|295=>232|296=>233|297=>234|298=>235|299=>236|216=>237|300=>238|301=>239|328=>274|329=>275|330=>276|331=>277|332=>278|215=>249|343=>295|n=>n,fun|28=>32|3=>3|46=>252|0=>0|51=>300|53=>291|4=>4|183=>330|182=>329|131=>267|5=>5|9=>9|218=>364|222=>368|228=>377|229=>90|n=>n,fun|n=>n⟩
theorem Tryz.Zxp:Go.Proofs.Lays.n189 prog Zw5:=by repeat' first|kernel_rfl|(intro _;kernel_rfl)|decide|constructor
open Go.Sort Go.RowKit in
theorem Tryz.slices_Sort_int (fL off cap:Nat)(zs:List Int)(w:World)(hH:Holds (Value.int .i64) w fL off zs.toArray)(JG:fL<w.heap.size)(fI:zs.length<4611686018427387904):
  Calls prog 136 #[.slice (some ⟨fL,off,none⟩) zs.length cap] w fun e w'=>
   e=.returned (.tuple #[])/\∃n os,w'=grow (putRow (Value.int .i64) (Sort.ahead w n) fL off (zs.mergeSort fun x y=>decide (x<=y)).toArray) os:=Any.slices_Sort_int Zxp fL off cap zs w hH JG fI
end
end Go.Proofs
namespace Go.Proofs.YthmbecacehfgfabGreatDoor
open Go.RowKit
open Tryz
section
open Go.RowKit Go.Sort
attribute [local simp] aJ.bG Site.fP
def aO (n:Int):PV:=.i n
def S8 (x:Int):List Int->List Int
 |[]=>[x]
 |y::r=>if x<=y then x::y::r else y::S8 x r
def kW:List Int->List Int
 |[]=>[]
 |x::r=>S8 x (kW r)
theorem Zf2 (x:Int):∀l:List Int,(S8 x l).Perm (x::l)
 |[]=>.refl _
 |y::r=>by
  unfold S8;split
  .exact .refl _
  .exact((Zf2 x r).cons y).trans (.swap x y r)
theorem Ig:∀l:List Int,(kW l).Perm l
 |[]=>.refl _
 |x::r=>(Zf2 x _).trans ((Ig r).cons x)
theorem Zf1 (x:Int):∀l:List Int,l.Pairwise (·<=·)->(S8 x l).Pairwise (·<=·)
 |[],_=>by simp[S8]
 |y::r,h=>by
  unfold S8;split
  .rename_i Be;refine I1.2 ⟨fun z hz=>?_,h⟩;rcases jT.1 hz with rfl|hz
   .exact Be
   .exact Int.le_trans Be ((I1.1 h).1 z hz)
  .rename_i Be;refine I1.2 ⟨fun z hz=>?_,Zf1 x r (I1.1 h).2⟩;rcases jT.1 ((Zf2 x r).mem_iff.1 hz)with rfl|hz
   .omega
   .exact(I1.1 h).1 z hz
theorem ZcM:∀l:List Int,(kW l).Pairwise (·<=·)
 |[]=>.nil
 |x::r=>Zf1 x _ (ZcM r)
theorem Zih:∀{a b:List Int},a.Perm b->a.Pairwise (·<=·)->b.Pairwise (·<=·)->a=b
 |[],b,h,_,_=>by simpa using h.symm
 |x::a,[],h,_,_=>by simp at h
 |x::a,y::b,h,ha,hb=>by
  have e:x=y:=by
   have h1:x∈y::b:=h.mem_iff.1 (by simp);have h2:y∈x::a:=h.mem_iff.2 (by simp);rcases jT.1 h1 with rfl|h1
   .rfl
   rcases jT.1 h2 with rfl|h2
   .rfl
   have k1:=(I1.1 ha).1 y h2;have k2:=(I1.1 hb).1 x h1;omega
  subst e;rw[Zih h.cons_inv (I1.1 ha).2 (I1.1 hb).2]
theorem Ir (l:List Int):(kW l).length=l.length:=(Ig l).length_eq
theorem Zjt (l:List Int):(l.mergeSort fun x y=>decide (x<=y))=kW l:=by
 refine Zih ((List.mergeSort_perm l _).trans (Ig l).symm) ?_ (ZcM l)
 have:=List.pairwise_mergeSort (le:=fun x y:Int=>decide (x<=y)) (fun a b c h1 h2=>by simp at *;omega) (fun a b=>by simp;omega) l
 exact this.imp (fun h=>by simpa using h)
theorem Zqr {w:World}{g o:Nat}{cur:Array Value}{e:TypeId}{ss:List Int}(hb:w.heap[g]?=some (.cells cur e (0,0)))(ht:∀(i:Nat) (x:Int),ss[i]?=some x->cur[o+i]?=some (.i x)):Holds (Value.int .i64) w g o ss.toArray:=by
 intro j hj;have b8:j<ss.length:=by simpa using hj
 refine⟨?_,by simp[World.frozen?,hb]⟩;have h1:=ht j _ (bC b8);simp only[World.cell?,hb];simp only[Option.isSome_none,Bool.false_eq_true,if_false];rw[h1];simp[b8]
theorem Zgs {w:World}{g n o:Nat}{os:Array Obj}{cur:Array Value}{e:TypeId}{fr:Nat×Nat}(d:Array Int)(hb:w.heap[g]?=some (.cells cur e fr)):
  (grow (putRow (Value.int .i64) (Sort.ahead w n) g o d) os).heap[g]?=some (.cells (putCells (Value.int .i64) o d cur) e fr):=by
 have hg:g<w.heap.size:=(qL.1 hb).1;rw[heap_grow_old _ _ (by simpa using hg)];simp[putRow,mapBlock,Sort.ahead,Array.getElem?_modify,hb,onCells]
theorem ZgV {w:World}{g n o k:Nat}{os:Array Obj}(d:Array Int)(hk:k<w.heap.size)(dA:k≠g):
  (grow (putRow (Value.int .i64) (Sort.ahead w n) g o d) os).heap[k]?=w.heap[k]?:=by
 rw[heap_grow_old _ _ (by simpa using hk)]
 have:g≠k:=fun e=>dA (by rw[e])
 simp[putRow,mapBlock,Sort.ahead,Array.getElem?_modify,this]
theorem Zuv (e:TypeId)(l:List Int)(h0:l≠[])(hl:l.length<=1000000):cU prog 136 [.vec (.par 0) 1 0 l.length] [(.par 0,.arr e 1 (l.map aO))] (fun r B=>r=.pv (.bN [])/\B=[(.par 0,.arr e 1 ((kW l).map aO))]):=by
 refine⟨⟨_,_,func136,by decide +kernel,rfl⟩,fun w m ρ vs hB ⟨hm,_⟩ fI lK=>?_⟩;obtain⟨v,rfl⟩:∃v,vs=#[v]:=by
  match vs,fI with
  |⟨[v]⟩,_=>exact⟨v,rfl⟩
 have hv:=lK 0 v _ rfl rfl;have uH:=hB.bx (.par 0) _ mX;obtain⟨_,⟨_,hx,_⟩|⟨hr,cs,k1,k2,k3,k4,k5⟩⟩:=uH
 .exact absurd (List.map_eq_nil_iff.1 hx) h0
 have hlen:0<l.length:=List.length_pos_iff.2 h0;have oX:∀(i:Nat) (x:Int),l[i]?=some x->cs[(ρ (.par 0)).o+i]?=some (.i x):=fun i x hi=>by
  obtain⟨_,h2⟩:=k5 i (aO x) (by rw[bY,hi];rfl);obtain⟨d,d1,d2,d3⟩:=h2 0 (aO x) rfl;rw[Nat.mul_one,Nat.add_zero]at d1;rw[d1];cases d3;rfl
 have aI:=(qL.1 k1).1;have main:∀cap,Calls prog 136 #[.slice (some ⟨(ρ (.par 0)).b,(ρ (.par 0)).o,none⟩) l.length cap] w (lI w m ρ [(.par 0,.arr e 1 (l.map aO))] (fun r B=>r=.pv (.bN [])/\B=[(.par 0,.arr e 1 ((kW l).map aO))])):=fun cap=>by
  have U4:cK ρ w [(Site.par 0,aJ.arr e 1 (l.map aO))]=[(ρ (.par 0)).b]:=by simp[cK,hr,ins]
  refine(slices_Sort_int (ρ (.par 0)).b (ρ (.par 0)).o cap l w (Zqr k1 oX) aI (by omega)).mono ?_;rintro en w' ⟨rfl,n,os,rfl⟩;rw[Zjt];have hmb:∀b o v,m b o=some v->b≠(ρ (.par 0)).b:=fun b o v hv e'=>by
   subst e'
   have:=hB.off (.par 0) _ mX hr o
   rw[this]at hv;cases hv
  refine⟨.tuple #[],.pv (.bN []),[(.par 0,.arr e 1 ((kW l).map aO))],ρ,m,rfl,⟨rfl,rfl⟩,⟨fun s b hs=>?_,fun s s' b b' _ hs Z6 _ _=>?_,fun s b i hs uF o=>?_⟩,Le.refl m,fun b o v hv=>?_,fun i=>rfl,fun s b i hs uF=>?_,fun b o v hv=>.inl hv,?_,⟨rfl,rfl,rfl,?_,fun k hk mC=>?_⟩⟩
  .by_cases es:s=.par 0
   .subst es;rw[mX]at hs;cases hs;refine⟨by omega,.inr ⟨hr,_,Zgs _ k1,by rw[show(putCells (Value.int .i64) (ρ (.par 0)).o (kW l).toArray cs).size=cs.size by simp[putCells]];exact k2,by rw[fZ,Ir,<-fZ (f:=aO)];exact k3,k4,fun i x hx=>?_⟩⟩;rw[bY]at hx;obtain⟨z,hz,rfl⟩:=eB.1 hx;refine⟨rfl,fun j c hj=>?_⟩;cases j with
    |succ j=>simp[aO,PV.cells]at hj
    |zero=>
     simp[aO,PV.cells]at hj;subst hj;have hi:i<l.length:=by have:=(cD.1 hz).1;rw[Ir]at this;exact this
     have FX:(ρ (.par 0)).o+i<cs.size:=(qL.1 (oX i _ (bC hi))).1;refine⟨.int .i64 z,?_,rfl,.int .i64 z⟩;rw[Nat.mul_one,Nat.add_zero];have Kd:(kW l)[i]! = z:=by rw[List.getElem!_eq_getElem?_getD,hz];rfl
     have N5:i<(kW l).length:=by rw[Ir];exact hi
     have P8:(kW l)[i]=z:=by rw[bC N5]at hz;simpa using hz
     simp[putCells,FX,Ir,hi,P8]
   .rw[jJ es]at hs;simp[List.lookup]at hs
  .have q:∀{s:Site} {b:aJ},List.lookup s [(Site.par 0,aJ.arr e 1 ((kW l).map aO))]=some b->s=.par 0:=fun{s b} h=>by
    by_cases es:s=.par 0
    .exact es
    .rw[jJ es]at h;simp[List.lookup]at h
   rw[q hs,q Z6]
  .by_cases es:s=.par 0
   .subst es;rw[mX]at hs;cases hs;obtain⟨q1,rfl⟩:=FD rfl uF;exact hB.off (.par 0) _ mX q1 o
   .rw[jJ es]at hs;simp[List.lookup]at hs
  .have h1:=hm b o v hv;have dA:=hmb b o v hv;show World.cell? _ _=some v;have h2:w.cell? ⟨b,o,none⟩=some v:=h1;have hb:b<w.heap.size:=by
    unfold World.cell? at h2;simp only at h2;cases hh:w.heap[b]? with
    |none=>rw[hh]at h2;simp at h2
    |some ob=>exact(qL.1 hh).1
   rw[<-h2];unfold World.cell?;rw[ZgV _ hb dA]
  .by_cases es:s=.par 0
   .subst es;rw[mX]at hs;cases hs;obtain⟨q1,rfl⟩:=FD rfl uF
    right;rw[U4];simp
   .rw[jJ es]at hs;simp[List.lookup]at hs
  .exact .pv _ _ (.bN #[] [] rfl (fun j d c h=>by simp at h))
  .simp[putRow,mapBlock,Sort.ahead]
  .rw[U4]at mC;exact ZgV _ hk (by simpa using mC)
 generalize hn:l.length=N at hv main;cases hv with
 |vec _ _ _ _ cap g0 g1 g2=>
  have:=main cap
  simpa using this
 |nG _ _ _ a h=>omega
end
structure Cr where
 lo:Int
 hi:Int
 deriving DecidableEq
structure It where
 dR:Int
 gZ:Bool
 val:Cr
structure Ct where
 num:Int
 it:Int
 src:Int
 day:Int
 valid:Int
 diff:Cr
 deriving DecidableEq
structure Bk where
 items:List It
 aA:List Ct
def jD (n lo hi:Int):Bool:=decide (lo<=n)&&decide (n<=hi)
def A6 (n:Int):Bool:=jD n (-100000) 100000
def Cr.okB (r:Cr):Bool:=A6 r.lo&&A6 r.hi&&decide (r.lo<=r.hi)
def It.okB (x:It):Bool:=jD x.dR 0 100&&x.val.okB&&(x.gZ||decide (x.val=⟨0,0⟩))
def Bk.item (b:Bk)(i:Int):It:=(b.items[i.toNat]?).getD ⟨0,false,⟨0,0⟩⟩
def Bk.uT (b:Bk)(i:Int):Bool:=jD i 0 ((b.items.length:Int)-1)
def Bk.vE (b:Bk)(c:Ct):Bool:=jD c.num 1 999&&b.uT c.it&&!(b.item c.it).gZ&&b.uT c.src&&decide (c.src≠c.it)&&jD c.day 0 1000&&jD c.valid 0 1000&&c.diff.okB
def Bk.xR (b:Bk):Bool:=decide (8<b.items.length)||decide (24<b.aA.length)
def Bk.bad (b:Bk):Bool:=!(b.items.all It.okB)||!(b.aA.all b.vE)
def Bk.A3 (b:Bk):Bool:=b.aA.any fun x=>b.aA.any fun y=>(decide (x.num=y.num)&&decide (x≠y))||(decide (y.num<x.num)&&decide (x.day<y.day))
def Bk.fault (b:Bk):Int:=if b.xR=true then 3 else if b.bad=true then 1 else if b.A3=true then 6 else 0
structure Bk.ok (b:Bk):Prop where
 i:b.items.length<=8
 c:b.aA.length<=24
 it:∀x∈b.items,x.okB=true
 ct:∀x∈b.aA,b.vE x=true
 one:∀x∈b.aA,∀y∈b.aA,x.num=y.num->x=y
 day:∀x∈b.aA,∀y∈b.aA,y.num<x.num->y.day<=x.day
theorem Bk.R6 {b:Bk}:b.fault=0↔b.ok:=by
 unfold Bk.fault Bk.xR Bk.bad Bk.A3;constructor
 .intro h;split at h
  .cases h
  .rename_i h1;split at h
   .cases h
   .rename_i h2;split at h
    .cases h
    .rename_i h3;simp only[sD,decide_eq_true_eq,not_or,Nat.not_lt]at h1;simp only[Bool.not_eq_true,Bool.or_eq_false_iff,Bool.not_eq_false',rM]at h2;simp only[Bool.not_eq_true,List.any_eq_false,sD,dK,decide_eq_true_eq,not_or,not_and,Decidable.not_not,Int.not_lt]at h3;exact⟨h1.1,h1.2,h2.1,h2.2,fun x hx y hy e=>(h3 x hx y hy).1 e,fun x hx y hy e=>(h3 x hx y hy).2 e⟩
 .intro h;rw[if_neg (by simp only[sD,decide_eq_true_eq,not_or,Nat.not_lt];exact⟨h.i,h.c⟩),if_neg (by
   simp only[Bool.not_eq_true,Bool.or_eq_false_iff,Bool.not_eq_false',rM];exact⟨h.it,h.ct⟩),if_neg (by
   simp only[Bool.not_eq_true,List.any_eq_false,sD,dK,decide_eq_true_eq,not_or,not_and,Decidable.not_not,Int.not_lt];exact fun x hx y hy=>⟨h.one x hx y hy,h.day x hx y hy⟩)]
def Ct.on (c:Ct)(d:Int):Bool:=jD d c.day (c.day+c.valid)
def zG (c o:Ct):Bool:=decide (o.it=c.src)&&decide (o.num<c.num)&&o.on c.day
def Bk.R4 (b:Bk)(bad held:List Int)(c:Ct):Bool:=((b.item c.src).gZ||b.aA.any fun o=>zG c o&&held.contains o.num)&&!bad.contains c.num
def Bk.iL (b:Bk)(bad:List Int):Nat->List Int
 |0=>[]
 |k+1=>b.iL bad k++(if(b.aA.any fun c=>decide (c.num=(k:Int))&&b.R4 bad (b.iL bad k) c)=true then[(k:Int)]else[])
theorem Ia {b:Bk}{bad:List Int}{k:Nat}:b.iL bad (k+1)=b.iL bad k++(if(b.aA.any fun c=>decide (c.num=(k:Int))&&b.R4 bad (b.iL bad k) c)=true then[(k:Int)]else[]):=rfl
def Bk.held (b:Bk)(bad:List Int):List Int:=b.iL bad 1000
theorem YH {b:Bk}{bad:List Int}{x:Int}:∀k,x∈b.iL bad k↔∃n:Nat,x=n/\n<k/\(b.aA.any fun c=>decide (c.num=(n:Int))&&b.R4 bad (b.iL bad n) c)=true
 |0=>⟨fun h=>(by cases h),fun⟨n,_,h,_⟩=>(by omega)⟩
 |k+1=>by
  rw[Ia,sS,YH k];constructor
  .rintro(⟨n,e,h1,h2⟩|h)
   .exact⟨n,e,by omega,h2⟩
   .split at h
    .rename_i hc;simp at h;exact⟨k,h,by omega,hc⟩
    .cases h
  .rintro⟨n,e,h1,h2⟩;by_cases hn:n=k
   .subst hn;right;rw[if_pos h2,e];simp
   .exact .inl ⟨n,e,by omega,h2⟩
theorem Zof {b:Bk}{bad:List Int}{x:Int}{j k:Nat}(h:j<=k)(hx:x∈b.iL bad j):x∈b.iL bad k:=by
 obtain⟨n,rfl,h1,h2⟩:=(YH j).1 hx;exact(YH k).2 ⟨n,rfl,by omega,h2⟩
theorem ZgU {b:Bk}{bad:List Int}{c:Ct}{n k:Nat}(hc:c.num=(n:Int))(hk:n<=k):b.R4 bad (b.iL bad k) c=b.R4 bad (b.iL bad n) c:=by
 unfold Bk.R4;congr 2;rw[rB,pB,pB];constructor
 .rintro⟨o,ho,h⟩;refine⟨o,ho,?_⟩;simp only[dK,jI]at h ⊢;refine⟨h.1,?_⟩;obtain⟨m,e,h1,h2⟩:=(YH k).1 h.2;have h3:o.num<c.num:=by have:=h.1;unfold zG at this;simp only[dK,decide_eq_true_eq]at this;exact this.1.2
  exact(YH n).2 ⟨m,e,by omega,h2⟩
 .rintro⟨o,ho,h⟩;refine⟨o,ho,?_⟩;simp only[dK,jI]at h ⊢;exact⟨h.1,Zof hk h.2⟩
theorem LA {b:Bk}(hb:b.ok){bad:List Int}{x:Int}:x∈b.held bad↔∃c∈b.aA,c.num=x/\b.R4 bad (b.held bad) c=true:=by
 unfold Bk.held;rw[YH];have hn:∀c∈b.aA,1<=c.num/\c.num<=999:=fun c hc=>by
  have:=hb.ct c hc
  unfold Bk.vE jD at this;simp only[dK,decide_eq_true_eq]at this;omega
 constructor
 .rintro⟨n,rfl,h1,h2⟩;rw[pB]at h2;obtain⟨c,hc,h3⟩:=h2;simp only[dK,decide_eq_true_eq]at h3;exact⟨c,hc,h3.1,by rw[ZgU h3.1 (by omega)];exact h3.2⟩
 .rintro⟨c,hc,rfl,h⟩;have h1:=hn c hc;obtain⟨n,yO⟩:∃n:Nat,c.num=n:=⟨c.num.toNat,by omega⟩;refine⟨n,yO,by omega,?_⟩;rw[pB];refine⟨c,hc,?_⟩;simp only[dK,decide_eq_true_eq];exact⟨yO,by rw[<-ZgU (k:=1000) yO (by omega)];exact h⟩
theorem ZcT {b:Bk}{bad:List Int}:∀k,(b.iL bad k).Pairwise (·<·)/\∀x∈b.iL bad k,x<(k:Int)
 |0=>⟨List.Pairwise.nil,fun x hx=>by cases hx⟩
 |k+1=>by
  obtain⟨h1,h2⟩:=ZcT (b:=b) (bad:=bad) k;rw[Ia];refine⟨?_,fun x hx=>?_⟩
  .rw[List.pairwise_append];refine⟨h1,by split<;>simp,fun x hx y hy=>?_⟩
   have:=h2 x hx
   split at hy
   .simp at hy;omega
   .cases hy
  .rcases sS.1 hx with hx|hx
   .have:=h2 x hx;omega
   .split at hx
    .simp at hx;omega
    .cases hx
def Bk.nums (b:Bk):List Int:=((List.range 1000).filter fun n:Nat=>b.aA.any fun c=>decide (c.num=(n:Int))).map Int.ofNat
theorem y9 {b:Bk}(hb:b.ok){x:Int}:x∈b.nums↔∃c∈b.aA,c.num=x:=by
 unfold Bk.nums;rw[iN];constructor
 .rintro⟨n,h,rfl⟩;rw[iZ,pB]at h;obtain⟨_,c,hc,e⟩:=h;exact⟨c,hc,by simpa using e⟩
 .rintro⟨c,hc,rfl⟩
  have:=hb.ct c hc
  unfold Bk.vE jD at this;simp only[dK,decide_eq_true_eq]at this;refine⟨c.num.toNat,?_,by show((c.num.toNat:Nat):Int)=_;omega⟩;rw[iZ,List.mem_range,pB];exact⟨by omega,c,hc,by simp;omega⟩
theorem UJ {b:Bk}:b.nums.Pairwise (·<·):=by
 unfold Bk.nums;rw[List.pairwise_map];exact(List.pairwise_lt_range.filter _).imp fun h=>by simpa using h
theorem ZjC:∀{a b:List Int},a.Pairwise (·<·)->b.Pairwise (·<·)->(∀x,x∈a↔x∈b)->a=b
 |[],[],_,_,_=>rfl
 |[],y::b,_,_,h=>absurd ((h y).2 (by simp)) (by simp)
 |x::a,[],_,_,h=>absurd ((h x).1 (by simp)) (by simp)
 |x::a,y::b,ha,hb,h=>by
  rw[I1]at ha hb;have exy:x=y:=by
   rcases jT.1 ((h x).1 (by simp))with e|e
   .exact e
   .rcases jT.1 ((h y).2 (by simp))with e'|e'
    .exact e'.symm
    .have h1:=hb.1 x e;have h2:=ha.1 y e';omega
  subst exy;rw[ZjC ha.2 hb.2 fun z=>?_];constructor
  .intro hz;rcases jT.1 ((h z).1 (by simp[hz]))with e|e
   .have:=ha.1 z hz;omega
   .exact e
  .intro hz;rcases jT.1 ((h z).2 (by simp[hz]))with e|e
   .have:=hb.1 z hz;omega
   .exact e
section
open Go.RowKit Go.ChangeShapes Go.WideShapes Go.Deep
def Cr.pv (r:Cr):PV:=.agg [.i r.lo,.i r.hi]
def It.pv (x:It):PV:=.agg [.i x.dR,.bool x.gZ,.i x.val.lo,.i x.val.hi]
def Ct.pv (c:Ct):PV:=.agg [.i c.num,.i c.it,.i c.src,.i c.day,.i c.valid,.i c.diff.lo,.i c.diff.hi]
def aS (l:List It):PV:=.aF false 4 (l.map It.pv)
def aK (l:List Ct):PV:=.aF false 7 (l.map Ct.pv)
def Bk.pv (b:Bk):PV:=.agg [aS b.items,aK b.aA]
section
variable {H:Type}{enc:TypeId×Value->H}{W:World}{sp:Nat->Bool}{held:Bool}{r:Reach}{base:Nat}
end
end
def ct0:Ct:=⟨0,0,0,0,0,⟨0,0⟩⟩
def Bk.get (b:Bk)(n:Int):Ct:=(b.aA.find? fun c=>decide (c.num=n)).getD ct0
theorem x7 {b:Bk}(hb:b.ok){c:Ct}(hc:c∈b.aA):b.get c.num=c:=by
 unfold Bk.get;cases hf:b.aA.find? (fun x=>decide (x.num=c.num))with
 |none=>
  rw[List.find?_eq_none]at hf
  have:=hf c hc
  simp at this
 |some x=>
  have h1:=List.mem_of_find?_eq_some hf;have h2:=List.find?_some hf;simp only[decide_eq_true_eq]at h2;exact hb.one x h1 c hc h2
theorem V8 {b:Bk}(hb:b.ok){n:Int}(hn:n∈b.nums):b.get n∈b.aA/\(b.get n).num=n:=by
 obtain⟨c,hc,rfl⟩:=(y9 hb).1 hn;rw[x7 hb hc];exact⟨hc,rfl⟩
def Bk.qA (item day below:Int)(c:Ct):Bool:=decide (c.num<below)&&(decide (c.it=item)&&c.on day)
def Bk.rH (b:Bk)(item day below:Int):List Ct:=(b.nums.map b.get).filter (Bk.qA item day below)
theorem BG {b:Bk}(hb:b.ok){item day below:Int}{c:Ct}:c∈b.rH item day below↔c∈b.aA/\Bk.qA item day below c=true:=by
 unfold Bk.rH;rw[iZ,iN];constructor
 .rintro⟨⟨n,hn,rfl⟩,h⟩;exact⟨(V8 hb hn).1,h⟩
 .rintro⟨h1,h2⟩;exact⟨⟨c.num,(y9 hb).2 ⟨c,h1,rfl⟩,x7 hb h1⟩,h2⟩
theorem Zj9 {b:Bk}(hb:b.ok){item day below:Int}{P:Ct->Bool}:(b.rH item day below).any P=b.aA.any fun c=>Bk.qA item day below c&&P c:=by
 rw[rB,pB,pB];constructor
 .rintro⟨c,hc,h⟩;obtain⟨h1,h2⟩:=(BG hb).1 hc;exact⟨c,h1,by rw[h2,h];rfl⟩
 .rintro⟨c,hc,h⟩;rw[dK]at h;exact⟨c,(BG hb).2 ⟨hc,h.1⟩,h.2⟩
theorem Nx {c o:Ct}:zG c o=Bk.qA c.src c.day c.num o:=by
 unfold zG Bk.qA;cases decide (o.it=c.src)<;>cases decide (o.num<c.num)<;>rfl
theorem Zle {b:Bk}(hb:b.ok){bad:List Int}{n:Int}(hn:n∈b.nums):(b.held bad).contains n=(((b.item (b.get n).src).gZ||(b.rH (b.get n).src (b.get n).day n).any fun o=>(b.held bad).contains o.num)&&!bad.contains n):=by
 obtain⟨h1,h2⟩:=V8 hb hn;rw[Zj9 hb];have e:(b.aA.any fun c=>Bk.qA (b.get n).src (b.get n).day n c&&(b.held bad).contains c.num)=b.aA.any fun o=>zG (b.get n) o&&(b.held bad).contains o.num:=by
  congr 1;funext o;rw[Nx,h2]
 rw[e,rB,jI,LA hb];have hB:b.R4 bad (b.held bad) (b.get n)=(((b.item (b.get n).src).gZ||b.aA.any fun o=>zG (b.get n) o&&(b.held bad).contains o.num)&&!bad.contains n):=by unfold Bk.R4;rw[h2]
 rw[<-hB];constructor
 .rintro⟨c,hc,e1,e2⟩
  have:b.get n=c:=by rw[<-e1];exact x7 hb hc
  rw[this];exact e2
 .intro h;exact⟨b.get n,h1,h2,h⟩
def Cr.plus (a b:Cr):Cr:=⟨a.lo+b.lo,a.hi+b.hi⟩
def Cr.wider (a:Cr)(n:Int):Cr:=a.plus ⟨-n,n⟩
def Cr.cut (a b:Cr):Cr:=⟨max a.lo b.lo,min a.hi b.hi⟩
def I7:Cr:=⟨-1099511627776,1099511627776⟩
theorem XJ {α:Type}(f:α->Cr):∀(l:List α) (e:Cr),e.lo<=(l.foldl (fun r x=>r.cut (f x)) e).lo/\(∀x∈l,(f x).lo<=(l.foldl (fun r x=>r.cut (f x)) e).lo)/\((l.foldl (fun r x=>r.cut (f x)) e).lo=e.lo\/∃x∈l,(l.foldl (fun r x=>r.cut (f x)) e).lo=(f x).lo)
 |[],e=>⟨Int.le_refl _,fun x hx=>(by cases hx),.inl rfl⟩
 |y::l,e=>by
  obtain⟨h1,h2,h3⟩:=XJ f l (e.cut (f y));rw[List.foldl_cons];have hm:(e.cut (f y)).lo=max e.lo (f y).lo:=rfl;refine⟨by omega,fun x hx=>?_,?_⟩
  .rcases jT.1 hx with rfl|hx
   .omega
   .exact h2 x hx
  .rcases h3 with h3|⟨x,hx,h3⟩
   .rcases Int.le_total e.lo (f y).lo with h|h
    .right;exact⟨y,by simp,by omega⟩
    .left;omega
   .right;exact⟨x,by simp[hx],h3⟩
theorem XP {α:Type}(f:α->Cr):∀(l:List α) (e:Cr),(l.foldl (fun r x=>r.cut (f x)) e).hi<=e.hi/\(∀x∈l,(l.foldl (fun r x=>r.cut (f x)) e).hi<=(f x).hi)/\((l.foldl (fun r x=>r.cut (f x)) e).hi=e.hi\/∃x∈l,(l.foldl (fun r x=>r.cut (f x)) e).hi=(f x).hi)
 |[],e=>⟨Int.le_refl _,fun x hx=>(by cases hx),.inl rfl⟩
 |y::l,e=>by
  obtain⟨h1,h2,h3⟩:=XP f l (e.cut (f y));rw[List.foldl_cons];have hm:(e.cut (f y)).hi=min e.hi (f y).hi:=rfl;refine⟨by omega,fun x hx=>?_,?_⟩
  .rcases jT.1 hx with rfl|hx
   .omega
   .exact h2 x hx
  .rcases h3 with h3|⟨x,hx,h3⟩
   .rcases Int.le_total e.hi (f y).hi with h|h
    .left;omega
    .right;exact⟨y,by simp,by omega⟩
   .right;exact⟨x,by simp[hx],h3⟩
theorem Cr.ext' {a b:Cr}(h1:a.lo=b.lo)(h2:a.hi=b.hi):a=b:=by
 obtain⟨a1,a2⟩:=a;obtain⟨b1,b2⟩:=b;simp only at h1 h2;subst h1 h2;rfl
theorem ZqG {α:Type}{f:α->Cr}{l l':List α}{e:Cr}(h:∀x,x∈l↔x∈l'):l.foldl (fun r x=>r.cut (f x)) e=l'.foldl (fun r x=>r.cut (f x)) e:=by
 obtain⟨a1,a2,a3⟩:=XJ f l e;obtain⟨b1,b2,b3⟩:=XJ f l' e;obtain⟨c1,c2,c3⟩:=XP f l e;obtain⟨d1,d2,d3⟩:=XP f l' e;refine Cr.ext' ?_ ?_
 .rcases a3 with a3|⟨x,hx,a3⟩<;>rcases b3 with b3|⟨y,hy,b3⟩
  .omega
  .have:=a2 y ((h y).2 hy);omega
  .have:=b2 x ((h x).1 hx);omega
  .have:=a2 y ((h y).2 hy);have:=b2 x ((h x).1 hx);omega
 .rcases c3 with c3|⟨x,hx,c3⟩<;>rcases d3 with d3|⟨y,hy,d3⟩
  .omega
  .have:=c2 y ((h y).2 hy);omega
  .have:=d2 x ((h x).1 hx);omega
  .have:=c2 y ((h y).2 hy);have:=d2 x ((h x).1 hx);omega
def Bk.kJ (b:Bk)(held:List Int)(S:Int->Cr)(item day below:Int):Cr:=
 if(b.item item).gZ=true then(b.item item).val else((b.aA.filter fun c=>Bk.qA item day below c&&held.contains c.num).foldl (fun r c=>r.cut ((S c.num).wider ((b.item item).dR*(day-c.day)))) I7)
def Bk.GL (b:Bk)(held:List Int):Nat->Int->Cr
 |0,_=>⟨0,0⟩
 |k+1,n=>if n=(k:Int)then(if held.contains n=true then(b.kJ held (b.GL held k) (b.get n).src (b.get n).day n).plus (b.get n).diff else⟨0,0⟩)else b.GL held k n
theorem Zeo {b:Bk}{held:List Int}{k:Nat}{n:Int}:b.GL held (k+1) n=if n=(k:Int)then(if held.contains n=true then(b.kJ held (b.GL held k) (b.get n).src (b.get n).day n).plus (b.get n).diff else⟨0,0⟩)else b.GL held k n:=rfl
theorem Zdr {b:Bk}{held:List Int}{S S':Int->Cr}{item day below:Int}(h:∀n,n<below->S n=S' n):b.kJ held S item day below=b.kJ held S' item day below:=by
 unfold Bk.kJ;split
 .rfl
 .have key:∀(l:List Ct) (e:Cr),(∀c∈l,c.num<below)->l.foldl (fun r c=>r.cut ((S c.num).wider ((b.item item).dR*(day-c.day)))) e=l.foldl (fun r c=>r.cut ((S' c.num).wider ((b.item item).dR*(day-c.day)))) e:=by
   intro l;induction l with
   |nil=>exact fun _ _=>rfl
   |cons c l ih=>
    intro e hl;rw[List.foldl_cons,List.foldl_cons,h c.num (hl c (by simp)),ih _ fun x hx=>hl x (by simp[hx])]
  refine key _ _ fun c hc=>?_
  rw[iZ]at hc
  have:=hc.2
  unfold Bk.qA at this;simp only[dK,decide_eq_true_eq]at this;exact this.1.1
def Bk.span (b:Bk)(held:List Int)(n:Int):Cr:=b.GL held 1000 n
theorem Zdt {b:Bk}{held:List Int}{n:Int}:∀{k:Nat},n<(k:Int)->∀j,b.GL held (k+j) n=b.GL held k n
 |k,h,0=>rfl
 |k,h,j+1=>by
  rw[<-Nat.add_assoc,Zeo,if_neg (by omega)];exact Zdt h j
theorem Mw {b:Bk}{held:List Int}{n:Nat}(hn:n<1000):b.span held n=if held.contains (n:Int)=true then(b.kJ held (b.span held) (b.get n).src (b.get n).day n).plus (b.get n).diff else⟨0,0⟩:=by
 have e:b.span held n=b.GL held (n+1) n:=by
  unfold Bk.span;rw[show 1000=n+1+(1000-(n+1)) by omega];exact Zdt (by omega) _
 rw[e,Zeo,if_pos rfl];split
 .congr 1;refine Zdr fun m hm=>?_
  unfold Bk.span;rw[show 1000=n+(1000-n) by omega];exact(Zdt hm _).symm
 .rfl
def Bk.contra (b:Bk):Bool:=b.aA.any fun c=>(b.held []).contains c.num&&decide ((b.kJ (b.held []) (b.span (b.held [])) c.it c.day 1000).hi<(b.kJ (b.held []) (b.span (b.held [])) c.it c.day 1000).lo)
section
attribute [local simp] aJ.bG Site.fP
theorem HB (n lo hi:Int):aC prog 137 [.i n,.i lo,.i hi] (.bool (jD n lo hi)):=by
 refine cS L137 ?_;by_cases h:lo<=n
 all_goals simp[h,L137,jD]
theorem yL (n lo hi:Int):aC prog 160 [.i n,.i lo,.i hi] (.bool (jD n lo hi)):=by
 refine cS L160 ?_;by_cases h:lo<=n
 all_goals simp[h,L160,jD]
theorem EB (n:Int):aC prog 164 [.i n] (.bool (jD n 0 1000)):=by
 refine cS L164 ?_;simp[L164];refine gH (k:=0) rfl rfl (HB n 0 1000) rfl ?_;simp
theorem ZkQ (n:Int):aC prog 88 [.i n] (.bool (jD n 1 999)):=by
 refine cS L88 ?_;simp[L88];refine gH (k:=0) rfl rfl (HB n 1 999) rfl ?_;simp
theorem Zmw (n:Int):aC prog 230 [.i n] (.bool (A6 n)):=by
 refine cS L230 ?_;simp[L230];refine gH (k:=0) rfl rfl (HB n (-100000) 100000) rfl ?_;simp[A6]
theorem Zkz (r:Cr):aC prog 184 [r.pv] (.bool r.okB):=by
 refine cS L184 ?_;simp[L184,Cr.pv];refine gH (k:=0) rfl rfl (Zmw r.lo) rfl ?_;cases h1:A6 r.lo
 .simp[Cr.okB,h1]
 .simp;refine gH (k:=0) rfl rfl (Zmw r.hi) rfl ?_;cases h2:A6 r.hi
  .simp[Cr.okB,h1,h2]
  .simp[Cr.okB,h1,h2]
theorem Zqi (x:It):aC prog 133 [x.pv] (.bool x.okB):=by
 obtain⟨d,s,lo,hi⟩:=x;refine cS L133 ?_;simp[L133,It.pv];refine gH (k:=0) rfl rfl (HB d 0 100) rfl ?_;cases h1:jD d 0 100
 .simp[It.okB,h1]
 .simp;refine gH (k:=0) rfl rfl (Zkz ⟨lo,hi⟩) rfl ?_;cases h2:Cr.okB ⟨lo,hi⟩
  .simp[It.okB,h1,h2]
  .cases s
   .simp[It.okB,h1,h2];rw[rB];simp
   .simp[It.okB,h1,h2]
theorem Ze (b:Bk)(n:Int)(h:b.items.length<=1000):aC prog 163 [b.pv,.i n] (.bool (b.uT n)):=by
 have hw:IntKind.i64.wrap ((b.items.length:Int)-1)=(b.items.length:Int)-1:=wrap64 (by omega);refine cS L163 ?_;simp[L163,Bk.pv,aS,hw];refine gH (k:=0) rfl rfl (HB n 0 ((b.items.length:Int)-1)) rfl ?_;simp[Bk.uT]
theorem Fb (c:Ct)(d:Int)(h:IntKind.i64.wrap (c.day+c.valid)=c.day+c.valid):aC prog 139 [c.pv,.i d] (.bool (c.on d)):=by
 refine cS L139 ?_;simp[L139,Ct.pv,h];refine gH (k:=0) rfl rfl (HB d c.day (c.day+c.valid)) rfl ?_;simp[Ct.on]
theorem Zfp (c:Ct)(d:Int)(h:IntKind.i64.wrap (c.day+c.valid)=c.day+c.valid):aC prog 113 [c.pv,.i d] (.bool (c.on d)):=by
 refine cS L113 ?_;simp[L113,Ct.pv,h];refine gH (k:=0) rfl rfl (yL d c.day (c.day+c.valid)) rfl ?_;simp[Ct.on]
theorem ZsX (c o:Ct)(h:IntKind.i64.wrap (o.day+o.valid)=o.day+o.valid):aC prog 116 [c.pv,o.pv] (.bool (zG c o)):=by
 refine cS L116 ?_;cases h1:decide (o.it=c.src)
 .simp[-decide_eq_true_eq,-decide_eq_false_iff_not,L116,Ct.pv,zG,h1]
 .cases h2:decide (o.num<c.num)
  .simp[-decide_eq_true_eq,-decide_eq_false_iff_not,L116,Ct.pv,zG,h1,h2]
  .simp[-decide_eq_true_eq,-decide_eq_false_iff_not,L116,Ct.pv,zG,h1,h2];refine gH (k:=0) rfl rfl (Zfp o c.day h) rfl ?_;simp
theorem Zm9 (r:Cr):aC prog 201 [r.pv] (.bool (jD r.lo (-100000) r.hi&&decide (r.hi<=100000))):=by
 refine cS L201 ?_;simp[L201,Cr.pv];refine gH (k:=0) rfl rfl (yL r.lo (-100000) r.hi) rfl ?_;cases h1:jD r.lo (-100000) r.hi
 .simp
 .simp[h1]
theorem MN (r:Cr):aC prog 269 [r.pv] (.i r.lo):=by
 refine cS L269 ?_;simp[L269,Cr.pv]
theorem ZrP (r:Cr):aC prog 270 [r.pv] (.i r.hi):=by
 refine cS L270 ?_;simp[L270,Cr.pv]
theorem ZrF (r o:Cr)(h1:IntKind.i64.wrap (r.lo+o.lo)=r.lo+o.lo)(h2:IntKind.i64.wrap (r.hi+o.hi)=r.hi+o.hi):aC prog 223 [r.pv,o.pv] (r.plus o).pv:=by
 have a1:=MN r;have a2:=MN o;have a3:=ZrP r;have a4:=ZrP o;refine cS L223 ?_;simp[L223,Cr.pv];refine BI (k:=0) rfl rfl a1 rfl ?_;simp;refine BI (k:=0) rfl rfl a2 rfl ?_;simp[h1];refine BI (k:=0) rfl rfl a3 rfl ?_;simp;refine gH (k:=0) rfl rfl a4 rfl ?_;simp[h2,Cr.plus]
theorem Zsc (r:Cr)(n:Int)(h0:IntKind.i64.wrap (-n) = -n)(h1:IntKind.i64.wrap (r.lo + -n)=r.lo + -n)(h2:IntKind.i64.wrap (r.hi+n)=r.hi+n):aC prog 226 [r.pv,.i n] (r.wider n).pv:=by
 have a1:=ZrF r ⟨-n,n⟩ h1 h2;refine cS L226 ?_;simp[L226,Cr.pv,h0];refine .inl (cQ [] [r.pv,Cr.pv ⟨-n,n⟩] a1 ?_);simp[aL,Cr.wider,Cr.plus,Cr.pv]
theorem ZiS:aC prog 224 [] I7.pv:=by
 refine cS L224 ?_;simp[L224,I7,Cr.pv]
theorem Zuh (l:List PV)(g:FuncId)(fs cs:List PV)(q:PV->Bool)(hq:∀x∈l,aC prog g (fs++[x]++cs) (.bool (q x)))(hl:l.length<=1000000)(hc:∀x∈l,∃a t b c,x=.agg [.i a,.bool t,.i b,.i c]):
  aC prog 182 [.aF false 4 l,.fn g fs cs] (.bool (l.any q)):=
 wY 229 (UC (row:=true) hq hl (fun x hx=>by obtain⟨a,t,b,c,rfl⟩:=hc x hx;exact⟨_,rfl,rfl⟩))
theorem Zrt (x:PV)(g:FuncId)(fs cs:List PV)(b:Bool)(hx:∃a t b c,x=.agg [.i a,.bool t,.i b,.i c])(hq:aC prog g (fs++[x]++cs) (.bool b)):
  aC prog 183 [x,.ref [.fn g fs cs]] (.bool (!b)):=by
 obtain⟨a,t,b,c,rfl⟩:=hx;refine cS L183 ?_;simp[L183];refine gH (k:=0) rfl rfl hq rfl ?_;simp
theorem Zum (l:List PV)(g:FuncId)(fs cs:List PV)(q:PV->Bool)(hq:∀x∈l,aC prog g (fs++[x]++cs) (.bool (q x)))(hl:l.length<=1000000)(hc:∀x∈l,∃a t b c,x=.agg [.i a,.bool t,.i b,.i c]):
  aC prog 132 [.aF false 4 l,.fn g fs cs] (.bool (l.all q)):=
 O4 182 183 (Zuh l 183 [] [.ref [.fn g fs cs]] (fun x=>!q x) (fun x hx=>Zrt x g fs cs (q x) (hc x hx) (hq x hx)) hl hc)
theorem Zo6 (l:List PV)(g:FuncId)(fs cs:List PV)(q:PV->Bool)(hq:∀x∈l,aC prog g (fs++[x]++cs) (.bool (q x)))(hl:l.length<=1000000)(hc:∀x∈l,∃a b c d e f h,x=.agg [.i a,.i b,.i c,.i d,.i e,.i f,.i h]):
  aC prog 75 [.aF false 7 l,.fn g fs cs] (.bool (l.any q)):=
 wY 91 (UC (row:=true) hq hl (fun x hx=>by obtain⟨a,b,c,d,e,f,h,rfl⟩:=hc x hx;exact⟨_,rfl,rfl⟩))
theorem Zrv (x:PV)(g:FuncId)(fs cs:List PV)(b:Bool)(hx:∃a b c d e f h,x=.agg [.i a,.i b,.i c,.i d,.i e,.i f,.i h])(hq:aC prog g (fs++[x]++cs) (.bool b)):
  aC prog 185 [x,.ref [.fn g fs cs]] (.bool (!b)):=by
 obtain⟨a,b,c,d,e,f,h,rfl⟩:=hx;refine cS L185 ?_;simp[L185];refine gH (k:=0) rfl rfl hq rfl ?_;simp
theorem Zun (l:List PV)(g:FuncId)(fs cs:List PV)(q:PV->Bool)(hq:∀x∈l,aC prog g (fs++[x]++cs) (.bool (q x)))(hl:l.length<=1000000)(hc:∀x∈l,∃a b c d e f h,x=.agg [.i a,.i b,.i c,.i d,.i e,.i f,.i h]):
  aC prog 134 [.aF false 7 l,.fn g fs cs] (.bool (l.all q)):=
 O4 75 185 (Zo6 l 185 [] [.ref [.fn g fs cs]] (fun x=>!q x) (fun x hx=>Zrv x g fs cs (q x) (hc x hx) (hq x hx)) hl hc)
theorem Zvh (b:Bk)(c:Ct)(h:b.items.length<=1000):aC prog 135 [b.pv,c.pv] (.bool (b.vE c)):=by
 have n1:=ZkQ c.num;have n2:=Ze b c.it h;have n3:=Ze b c.src h;have n4:=EB c.day;have n5:=EB c.valid;have n6:=Zkz c.diff;refine cS L135 ?_;simp[L135,Bk.pv,aS,aK,Ct.pv];refine gH (k:=0) rfl rfl n1 rfl ?_;cases e1:jD c.num 1 999
 .simp[Bk.vE,e1]
 simp;refine cG [b.pv,.i c.it] n2 ?_;cases e2:b.uT c.it
 .simp[Bk.vE,e1,e2]
 have hi:0<=c.it/\c.it<b.items.length:=by
  unfold Bk.uT jD at e2;simp only[dK,decide_eq_true_eq]at e2;omega
 obtain⟨x,hx⟩:∃x,b.items[c.it.toNat]?=some x:=⟨b.items[c.it.toNat]'(by omega),bC _⟩;have VP:b.item c.it=x:=by unfold Bk.item;rw[hx];rfl
 have hg:(b.items.map It.pv)[c.it.toNat]?=some (.agg [.i x.dR,.bool x.gZ,.i x.val.lo,.i x.val.hi]):=by rw[bY,hx];rfl
 obtain⟨k,hk⟩:∃k:Nat,c.it=k:=⟨c.it.toNat,by omega⟩;rw[hk]at hg hi;simp only[A1]at hg;have sP:k<b.items.length:=by omega
 simp[hk,↓hg];rcases Bool.eq_false_or_eq_true x.gZ with e3|e3
 .simp[Bk.vE,e1,e2,VP,e3]
 simp[e3];refine cG [b.pv,.i c.src] n3 ?_;cases e4:b.uT c.src
 .simp[Bk.vE,e1,e2,VP,e3,e4]
 rcases Bool.eq_false_or_eq_true (decide (c.src=(k:Int)))with e5|e5
 .simp[-decide_eq_true_eq,-decide_eq_false_iff_not,Bk.vE,e1,e4,hk,e5]
 have e5':decide (c.src≠(k:Int))=true:=by simp at e5 ⊢;exact e5
 simp[-decide_eq_true_eq,-decide_eq_false_iff_not,e5];refine gH (k:=0) rfl rfl n4 rfl ?_;cases e6:jD c.day 0 1000
 .simp[Bk.vE,e1,e2,VP,e3,e4,e6]
 simp;refine gH (k:=0) rfl rfl n5 rfl ?_;cases e7:jD c.valid 0 1000
 .simp[Bk.vE,e1,e2,VP,e3,e4,e6,e7]
 simp;refine cG [c.diff.pv] n6 ?_;have GB:=e2;rw[hk]at GB VP;simp[-decide_eq_true_eq,-decide_eq_false_iff_not,Bk.vE,e1,GB,VP,e3,e4,e6,e7,hk,e5']
theorem Mh (a b:Int):aC prog 271 [.aF false 1 [.i a,.i b]] (.i (max a b)):=by
 have hm:aC prog 293 [.aF false 1 [.i a,.i b]] (.i (max a b)):=by
  refine cS L293 ?_;simp[L293];have Uj:(if a<b then b else a)=max a b:=by split<;>omega
  refine eP (fun n τ=>(n=1/\τ=⟨[(0,.pv (.aF false 1 [.i a,.i b])),(3,.pv (.i a)),(4,.pv (.i 1))],[]⟩)\/(n=0/\τ=⟨[(0,.pv (.aF false 1 [.i a,.i b])),(3,.pv (.i (max a b))),(4,.pv (.i 2))],[]⟩)) ⟨1,_,Sub.mk (by simp) (by simp),.inl ⟨rfl,rfl⟩⟩ ?_;rintro J hJ n τ (⟨rfl,rfl⟩|⟨rfl,rfl⟩)
  .have aB:=hJ _ _ (.inr ⟨rfl,rfl⟩);have hw:IntKind.i64.wrap 2=2:=rfl;clear hJ;simp[hw];exact⟨_,_,(by omega:0<1),Sub.mk (by simp[Uj]) (by simp),aB⟩
  .simp
 refine cS L271 ?_;simp[L271];refine cG [.aF false 1 [.i a,.i b]] hm ?_;simp
theorem Ztu (a b:Int):aC prog 272 [.aF false 1 [.i a,.i b]] (.i (min a b)):=by
 have hm:aC prog 294 [.aF false 1 [.i a,.i b]] (.i (min a b)):=by
  refine cS L294 ?_;simp[L294];have Uj:(if b<a then b else a)=min a b:=by split<;>omega
  refine eP (fun n τ=>(n=1/\τ=⟨[(0,.pv (.aF false 1 [.i a,.i b])),(3,.pv (.i a)),(4,.pv (.i 1))],[]⟩)\/(n=0/\τ=⟨[(0,.pv (.aF false 1 [.i a,.i b])),(3,.pv (.i (min a b))),(4,.pv (.i 2))],[]⟩)) ⟨1,_,Sub.mk (by simp) (by simp),.inl ⟨rfl,rfl⟩⟩ ?_;rintro J hJ n τ (⟨rfl,rfl⟩|⟨rfl,rfl⟩)
  .have aB:=hJ _ _ (.inr ⟨rfl,rfl⟩);have hw:IntKind.i64.wrap 2=2:=rfl;clear hJ;simp[hw];exact⟨_,_,(by omega:0<1),Sub.mk (by simp[Uj]) (by simp),aB⟩
  .simp
 refine cS L272 ?_;simp[L272];refine cG [.aF false 1 [.i a,.i b]] hm ?_;simp
end
section
attribute [local simp] AS.exp jY aJ.iX AV.map AV.iT rN dO Site.uS aJ.dC AV.dC AV.hZ aT cT AS.lX fB gI cA pD kF mT gK w9
attribute [local simp] aJ.bG Site.fP
section
attribute [local simp] aL oK nV iU AS.cJ AV.cJ AV.aY aJ.cJ AS.tidy AS.j7
theorem Zqh (c:Ct)(n:Int):aC prog 76 [c.pv,.ref [.i n]] (.bool (decide (c.num=n))):=by
 refine cS L76 ?_;simp[L76,Ct.pv]
theorem ZjA (l:List Ct)(n:Int)(b c d e:PV)(hl:l.length<=1000):cU prog 37 [.ptr (.par 0) 0,.pv (.i n)] [(.par 0,aP (.aF false 7 (l.map Ct.pv)) b c d e)] (fun r B=>r=.pv (.bool (l.any fun x=>decide (x.num=n)))/\B=[(.par 0,aP (.aF false 7 (l.map Ct.pv)) b c d e)]):=by
 refine cB [.par 0] L37 ?_;simp[L37,aP];have JI:=Zo6 (l.map Ct.pv) 76 [] [.ref [.i n]] (fun x=>match x with
  |.agg (.int _ a::_)=>decide (a=n)
  |_=>false) (fun x hx=>by
   obtain⟨y,_,rfl⟩:=iN.1 hx;exact Zqh y n) (by rw[fZ];omega) (fun x hx=>by
   obtain⟨y,_,rfl⟩:=iN.1 hx;exact⟨_,_,_,_,_,_,_,rfl⟩)
 rw[List.any_map]at JI;refine .inl (cQ [.loc 3 0] [.aF false 7 (l.map Ct.pv),.fn 76 [] [.ref [.i n]]] JI ?_);simp[Function.comp_def,Ct.pv]
theorem Zc (l:List Lt)(n:Int)(a b d e:PV)(hs:(l.map Lt.num).Pairwise (·<·))(hl:l.length<=1000)(hw:∀y∈l,IntKind.i64.wrap (y.num-n)=y.num-n):cU prog 214 [.ptr (.par 0) 0,.pv (.i n)] [(.par 0,aP a b (.aF false 4 (l.map Lt.pv)) d e)] (fun r B=>r=.pv (.bN [.i (dJ (l.map Lt.num) n),.bool (decide (n∈l.map Lt.num))])/\B=[(.par 0,aP a b (.aF false 4 (l.map Lt.pv)) d e)]):=by
 refine cB [.par 0] L214 ?_;simp[L214,aP];refine .inl (cQ [] [.aF false 4 (l.map Lt.pv),.i n,.fn 259 [] []] (Zmh l n hs (by omega) hw) ?_);simp[-List.mem_map];simp
end
end
section
attribute [local simp] aJ.bG Site.fP
def Ez (r o:Cr):AS:=⟨[(4,.ptr (.loc 4 0) 0),(10,.pv (.i (max r.lo o.lo))),(15,.vec (.loc 15 0) 1 0 2)],[(.loc 15 0,.arr 3 1 [.i r.hi,.i o.hi]),(.loc 4 0,.cells [.pv (.i 0),.pv (.i 0)])]⟩
theorem Ey (r o:Cr):aC prog 225 [r.pv,o.pv] (r.cut o).pv:=by
 have a1:=Mh r.lo o.lo;have a2:=Ztu r.hi o.hi;refine cS L225 ?_;simp[L225,Cr.pv];refine KP (Ez r o) ?_ ?_
 .simp[gL,gS]
  repeat' (with_reducible refine And.intro ?_ ?_)
  all_goals trace_state
  all_goals refine BI (k:=1) (fs:=[]) (xs:=[.aF false 1 [.i r.lo,.i o.lo]]) (cs:=[]) rfl rfl a1 rfl ?_
  all_goals simp[gL,gS]
  all_goals refine Sub.mk ?_ ?_
  all_goals simp
 .simp[gL,gS,Ez];refine gH (k:=1) (fs:=[]) (xs:=[.aF false 1 [.i r.hi,.i o.hi]]) (cs:=[]) rfl rfl a2 rfl ?_;simp[gL,gS,Cr.cut]
end
theorem Sub.cJ {σ:AS}(fz:List Site):Sub (aL fz σ) σ:=fun _ _ _ _ ρ _ _ _ hS=>let ⟨m',_,h⟩:=hS.aL fz;⟨ρ,m',h⟩
abbrev kI:KT:=⟨false,[.int .i64]⟩
theorem Zos {a b:Int}:gV (.i a) (.i b)=decide (a=b):=by
 show((a==b)&&true)=_;rw[Bool.and_true,rB];simp
theorem ZrU {a b:Ct}:gV a.pv b.pv=decide (a=b):=by
 obtain⟨a1,a2,a3,a4,a5,a6,a7⟩:=a;obtain⟨b1,b2,b3,b4,b5,b6,b7⟩:=b;rw[rB];simp[gV,lT,wR,Ct.pv,PV.cells]
def nY {α:Type}(f:α->Int)(g:α->PV)(l:List α):List (PV×PV):=l.map fun c=>(.i (f c),g c)
theorem PB {α:Type}{f:α->Int}{g:α->PV}{l:List α}:A4 kI (nY f g l)=true:=by
 unfold A4 nY;rw[rM];intro p hp;obtain⟨c,_,rfl⟩:=iN.1 hp;rfl
theorem KV {α:Type}{f:α->Int}{g:α->PV}{n:Int}:∀{l:List α},fA (.i n) (nY f g l)=(l.find? fun c=>decide (f c=n)).map g
 |[]=>rfl
 |c::r=>by
  have ih:=KV (f:=f) (g:=g) (n:=n) (l:=r);unfold nY at ih ⊢;rw[iS,fA,Zos,List.find?_cons];by_cases h:n=f c
  .rw[decide_eq_true h,decide_eq_true h.symm];rfl
  .rw[decide_eq_false h,decide_eq_false (fun e=>h e.symm)];exact ih
theorem Hp {α:Type}{f:α->Int}{g:α->PV}{n:Int}{v:PV}:∀{l:List α},(∀c∈l,f c≠n)->mM (.i n) v (nY f g l)=nY f g l++[(.i n,v)]
 |[],_=>rfl
 |c::r,h=>by
  have ih:=Hp (f:=f) (g:=g) (n:=n) (v:=v) (l:=r) (fun x hx=>h x (by simp[hx]));unfold nY at ih ⊢;rw[iS,mM,Zos,decide_eq_false (fun e=>h c (by simp) e.symm)];show _::mM _ _ _=_;rw[ih];rfl
def wZ (acc:List Ct)(c:Ct):List Ct:=match acc.find? (fun o=>decide (o.num=c.num))with
 |some _=>acc
 |none=>acc++[c]
def Bk.fst (b:Bk)(k:Nat):List Ct:=(b.aA.take k).foldl wZ []
def oY (l:List Ct):List (PV×PV):=nY Ct.num Ct.pv l
theorem Hy {b:Bk}{k:Nat}{c:Ct}(h:b.aA[k]?=some c):b.fst (k+1)=wZ (b.fst k) c:=by
 unfold Bk.fst;rw[mV,h,List.foldl_append];rfl
theorem Zp7 {acc:List Ct}{c x:Ct}(h:x∈wZ acc c):x∈acc\/x=c:=by
 unfold wZ at h;split at h
 .exact .inl h
 .simpa using h
theorem XV {b:Bk}:∀k,∀x∈b.fst k,x∈b.aA.take k
 |0,x,h=>by cases h
 |k+1,x,h=>by
  cases hc:b.aA[k]? with
  |none=>
   rw[List.getElem?_eq_none_iff]at hc;unfold Bk.fst at h;rw[fQ (by omega)]at h ⊢
   have:=XV (b:=b) k x (by unfold Bk.fst;rw[fQ (by omega)];exact h)
   rwa [fQ (by omega)]at this
  |some c=>
   rw[Hy hc]at h;rw[mV,hc,sS];rcases Zp7 h with h|h
   .exact .inl (XV k x h)
   .right;simp[h]
theorem Qg {b:Bk}:∀k,(b.fst k).Pairwise (fun x y=>x.num≠y.num)
 |0=>List.Pairwise.nil
 |k+1=>by
  cases hc:b.aA[k]? with
  |none=>
   rw[List.getElem?_eq_none_iff]at hc
   have:=Qg (b:=b) k
   unfold Bk.fst at this ⊢;rw[fQ (by omega)]at this ⊢;exact this
  |some c=>
   rw[Hy hc];unfold wZ;split
   .exact Qg k
   .rename_i h;rw[List.find?_eq_none]at h;rw[List.pairwise_append];refine⟨Qg k,by simp,fun x hx y hy=>?_⟩;simp at hy;subst hy;simpa using h x hx
def Bk.same (b:Bk)(k:Nat):Prop:=∀c∈b.aA.take k,c∈b.fst k
theorem Zik {b:Bk}{k:Nat}{c:Ct}(h:b.aA[k]?=some c)(hs:b.same k)(hf:∀o,(b.fst k).find? (fun o=>decide (o.num=c.num))=some o->o=c):b.same (k+1):=by
 intro x hx;rw[mV,h,sS]at hx;rw[Hy h];unfold wZ;cases ho:(b.fst k).find? (fun o=>decide (o.num=c.num))with
 |none=>
  rcases hx with hx|hx
  .simp[hs x hx]
  .simp at hx;simp[hx]
 |some o=>
  rcases hx with hx|hx
  .exact hs x hx
  .simp at hx;subst hx
   have:=hf o ho
   subst this;exact List.mem_of_find?_eq_some ho
theorem Zm3 {b:Bk}(h1:∀c∈b.aA,1<=c.num/\c.num<=999)(hs:b.same b.aA.length):kW ((b.fst b.aA.length).map Ct.num)=b.nums/\(∀x∈b.aA,∀y∈b.aA,x.num=y.num->x=y):=by
 have kM:=XV (b:=b) b.aA.length;unfold Bk.same at hs;rw[nD]at hs kM;have qE:=Qg (b:=b) b.aA.length;refine⟨?_,fun x hx y hy e=>?_⟩
 .refine ZjC ?_ UJ (fun x=>?_)
  .have h1:=ZcM ((b.fst b.aA.length).map Ct.num);have h2:(kW ((b.fst b.aA.length).map Ct.num)).Nodup:=by
    rw[(Ig _).nodup_iff];exact List.pairwise_map.2 qE
   exact(h1.and h2).imp (fun{a c} h=>by have:=h.2;omega)
  .rw[(Ig _).mem_iff];unfold Bk.nums;simp only[iN,iZ,List.mem_range,pB,decide_eq_true_eq];constructor
   .rintro⟨c,hc,rfl⟩;have hb:=h1 c (kM c hc);exact⟨c.num.toNat,⟨by omega,c,kM c hc,by omega⟩,by show((c.num.toNat:Nat):Int)=c.num;omega⟩
   .rintro⟨n,⟨_,c,hc,e⟩,rfl⟩;exact⟨c,hs c hc,e⟩
 .have hp:∀{l:List Ct},l.Pairwise (fun x y=>x.num≠y.num)->∀x∈l,∀y∈l,x.num=y.num->x=y:=by
   intro l hl;induction hl with
   |nil=>intro x hx;cases hx
   |cons h _ ih=>
    intro x hx y hy e;rcases jT.1 hx with e1|Z1<;>rcases jT.1 hy with e2|Bd
    .rw[e1,e2]
    .subst e1;exact absurd e (h y Bd)
    .subst e2;exact absurd e.symm (h x Z1)
    .exact ih x Z1 y Bd e
  exact hp qE x (hs x hx) y (hs y hy) e
theorem Zmz {b:Bk}{x y:Ct}(hx:x∈b.aA)(hy:y∈b.aA)(e:x.num=y.num)(dA:x≠y):b.A3=true:=by
 unfold Bk.A3;rw[pB];refine⟨x,hx,?_⟩;rw[pB];exact⟨y,hy,by simp[e,dA]⟩
theorem ZmA {b:Bk}{x y:Ct}(hx:x∈b.aA)(hy:y∈b.aA)(e:y.num<x.num)(hd:x.day<y.day):b.A3=true:=by
 unfold Bk.A3;rw[pB];refine⟨x,hx,?_⟩;rw[pB];exact⟨y,hy,by simp[e,hd]⟩
theorem Zta {b:Bk}(h1:∀x∈b.aA,∀y∈b.aA,x.num=y.num->x=y)(h2:∀x∈b.aA,∀y∈b.aA,y.num<x.num->y.day<=x.day):b.A3=false:=by
 cases h:b.A3
 .rfl
 .unfold Bk.A3 at h;rw[pB]at h;obtain⟨x,hx,h⟩:=h;rw[pB]at h;obtain⟨y,hy,h⟩:=h;simp only[sD,dK,decide_eq_true_eq]at h;rcases h with⟨e,h⟩|⟨e,h⟩
  .exact absurd (h1 x hx y hy e) h
  .have:=h2 x hx y hy e;omega
theorem ZtW {l:List Int}(f:Int->Int)(hs:l.Pairwise (·<·))(h:∀(i:Nat) (x y:Int),l[i]?=some x->l[i+1]?=some y->f x<=f y):∀x∈l,∀y∈l,y<x->f y<=f x:=by
 induction hs with
 |nil=>intro x hx;cases hx
 |@cons a r ha hr ih=>
  have ih':=ih (fun i x y h1 h2=>h (i+1) x y (by simpa using h1) (by simpa using h2));have first:∀x∈r,f a<=f x:=by
   intro x hx;cases r with
   |nil=>cases hx
   |cons c t=>
    have hac:=h 0 a c rfl rfl;rcases jT.1 hx with rfl|rX
    .exact hac
    .have h2:=(I1.1 hr).1 x rX
     have:=ih' x (by simp[rX]) c (by simp) h2
     omega
  intro x hx y hy e;rcases jT.1 hx with e1|Z1<;>rcases jT.1 hy with e2|Bd
  .omega
  .have:=ha y Bd;omega
  .rw[e2];exact first x Z1
  .exact ih' x Z1 y Bd e
structure xJ (b:Bk)(es:List (PV×PV)):Prop where
 k:A4 kI es=true
 f:∀n:Int,fA (.i n) es=if n∈b.nums then some (b.get n).pv else none
theorem ZoI {b:Bk}(hb:b.ok)(hs:b.same b.aA.length):xJ b (oY (b.fst b.aA.length)):=by
 refine⟨PB,fun n=>?_⟩;have kM:=XV (b:=b) b.aA.length;unfold Bk.same at hs;rw[nD]at hs kM;unfold oY;rw[KV];cases hf:(b.fst b.aA.length).find? (fun c=>decide (c.num=n))with
 |none=>
  rw[if_neg]
  .rfl
  .intro hn;obtain⟨c,hc,e⟩:=(y9 hb).1 hn;rw[List.find?_eq_none]at hf;exact absurd e (by simpa using hf c (hs c hc))
 |some c=>
  have h1:=kM c (List.mem_of_find?_eq_some hf);have h2:=List.find?_some hf;simp only[decide_eq_true_eq]at h2;subst h2;rw[if_pos ((y9 hb).2 ⟨c,h1,rfl⟩),x7 hb h1];rfl
section
attribute [local simp] aJ.bG Site.fP
theorem Zj2 {P:Program}{f:FuncId}{xs:List PV}{y:PV}(hc:jS P f)(h:∀(w:World) (m:Mem) (vs:Array Value),vs.size=xs.length->(∀(j:Nat) (d:Value) (c:PV),vs[j]?=some d->xs[j]?=some c->dH m d c)->Calls P f vs w (fun e w'=>(∃v,e=.returned v/\dH m v y)/\w'=w)):aC P f xs y:=by
 refine⟨hc,fun w m ρ vs hB ⟨hm,_⟩ fI lK=>(h w m vs (by simpa using fI) (fun j d c k1 k2=>(lK j d (.pv c) k1 (by rw[bY,k2];rfl)).nN)).mono ?_⟩;rintro e w' ⟨⟨v,rfl,hv⟩,rfl⟩;exact⟨v,.pv y,[],ρ,m,rfl,⟨rfl,rfl⟩,vH.nil _ _ _,Le.refl m,hm,fun _=>rfl,fun s b k hs=>by simp[List.lookup]at hs,fun b o v h=>.inl h,.pv _ _ hv,cY.tS _ _⟩
theorem Zvj (x:Int)(h0:0<=x)(h1:x<=18446744073709551615):aC prog 187 [.int .u64 x] (.i (Lib.bitLen x.toNat)):=by
 refine Zj2 ⟨_,_,func187,by decide +kernel,rfl⟩ (fun w m vs fI lK=>?_);obtain⟨v,rfl⟩:∃v,vs=#[v]:=by
  match vs,fI with
  |⟨[v]⟩,_=>exact⟨v,rfl⟩
 have hv:=lK 0 v _ rfl rfl;cases hv;have hD:∀D,_:=fun D=>AnyS.bits_LenInS { Zxp with } D x w h0 h1
 have:=calls_of_every_depth hD
 refine this.mono ?_;rintro e w' ⟨rfl,rfl⟩;exact⟨⟨_,rfl,.int _ _⟩,rfl⟩
theorem Zqj:aC prog 231 [.emp (some true),.i 0,.i 0] (.bN []):=by
 refine cS L231 ?_;have H0:IntKind.i64.wrap 1=1:=rfl;simp[L231,H0];refine eP (fun n τ=>n=0/\τ=⟨[(0,.pv (.emp (some true))),(1,.pv (.i 0)),(2,.pv (.i 0)),(6,.pv (.i 1))],[]⟩) ⟨0,_,Sub.mk (by simp) (by simp),rfl,rfl⟩ ?_;rintro J hJ n τ ⟨rfl,rfl⟩;simp
theorem ZuJ (m:Int):aC prog 186 [.emp (some true),.i 0,.i 0,.i m] (.bN []):=by
 refine cS L186 ?_;have H0:IntKind.i64.wrap 0=0:=rfl;simp[L186];refine eP (fun n τ=>n=0/\τ=⟨[(0,.pv (.emp (some true))),(1,.pv (.i 0)),(2,.pv (.i 0))],[]⟩) ⟨0,_,Sub.mk (by simp) (by simp),rfl,rfl⟩ ?_;rintro J hJ n τ ⟨rfl,rfl⟩;simp[H0];refine cG [.emp (some true),.i 0,.i 0] Zqj ?_;simp
theorem Zsw:aC prog 136 [.emp (some true)] (.bN []):=by
 refine cS L136 ?_;have H0:IntKind.u64.wrap 0=0:=rfl;simp[L136,H0];refine cG [.int .u64 0] (Zvj 0 (by omega) (by omega)) ?_;simp;refine cG [.emp (some true),.i 0,.i 0,.i (Lib.bitLen (0:Int).toNat)] (ZuJ _) ?_;simp
end
section
attribute [local simp] aJ.bG Site.fP
attribute [local simp] AS.exp jY aJ.iX AV.map AV.iT dO Site.uS aJ.dC AV.dC AV.hZ
def aX (b:Bk)(m:Site)(Z:List AV):List AV:=.pv (aS b.items)::.pv (aK b.aA)::.mp m::.pv (.aF false 1 (b.nums.map aO))::Z
def mF:List AV:=List.replicate 1000 (.pv (.bool false))
def Bk.cells (b:Bk):List AV:=[.pv (aS b.items),.pv (aK b.aA)]
def MD (b:Bk)(k:Nat):AS:=⟨[(1,.ptr (.loc 1 0) 0),(4,.ptr (.loc 38 0) 0),(40,.pv (aK b.aA)),(41,.pv (.i b.aA.length)),(42,.pv (.i k))],
 [(.loc 79 0,.arr 3 1 ((b.fst k).map fun c=>aO c.num)),(.loc 38 0,.cells (.pv (aS b.items)::.pv (aK b.aA)::.mp (.loc 36 0)::.vec (.loc 79 0) 1 0 (b.fst k).length::mF)),(.loc 36 0,.map (oY (b.fst k))),(.loc 1 0,.cells b.cells)]⟩
def rdR (b:Bk)(r:AV)(B:List (Site×aJ)):Prop:=
 (b.fault≠0/\r=.pv (.bN [.eX,.i b.fault])/\B=[])\/
 (b.fault=0/\∃es,xJ b es/\r=.bN [.ptr (.ret 0) 0,.pv (.i 0)]/\B=[(.ret 0,.cells (aX b (.ret 1) mF)),(.ret 1,.map es)])
theorem Zqs {d n:Nat}{x:AV}(h:x.has d=false):AV.rC d (List.replicate n x)=false:=by
 induction n with
 |zero=>rfl
 |succ n ih=>rw[List.replicate_succ];simp only[AV.rC,h,ih];rfl
theorem Zo7 {q:Site->Bool}{n:Nat}{x:AV}(h:x.dC q=true):AV.hZ q (List.replicate n x)=true:=by
 induction n with
 |zero=>rfl
 |succ n ih=>rw[List.replicate_succ];simp only[AV.hZ,h,ih];rfl
theorem ZlB:List.replicate 1000 (AV.pv (.bool false))=mF:=rfl
theorem ZlA (d:Nat):AV.rC d mF=false:=Zqs rfl
theorem ZlC (q:Site->Bool):AV.hZ q mF=true:=Zo7 rfl
theorem YS (d:Nat):mF.map (AV.bG d)=mF:=List.map_replicate
theorem Zrb:mF.length=1000:=List.length_replicate
theorem Zp8 {g:Site->Site}{n:Nat}{x:PV}:AV.iT g (List.replicate n (.pv x))=List.replicate n (.pv x):=by
 induction n with
 |zero=>rfl
 |succ n ih=>rw[List.replicate_succ];simp only[AV.iT,AV.map,ih]
theorem Zlz (g:Site->Site):AV.iT g mF=mF:=Zp8
theorem bK {k:Nat}(h:k<=1000000):IntKind.i64.wrap ((k:Int)+1)=((k+1:Nat):Int):=by rw[wrap64 (by omega)];omega
theorem ZjJ {b:Bk}:∀k,(b.fst k).length<=k
 |0=>fH _
 |k+1=>by
  have ih:=ZjJ (b:=b) k;cases hc:b.aA[k]? with
  |none=>
   rw[List.getElem?_eq_none_iff]at hc;unfold Bk.fst at ih ⊢;rw[fQ (by omega)]at ih ⊢;omega
  |some c=>
   rw[Hy hc];unfold wZ;split
   .omega
   .rw[gF];simp;omega
theorem ZjI {b:Bk}(h1:∀x∈b.aA,∀y∈b.aA,x.num=y.num->x=y){c:Ct}(hc:c∈b.aA):b.get c.num=c:=by
 unfold Bk.get;cases hf:b.aA.find? (fun x=>decide (x.num=c.num))with
 |none=>
  rw[List.find?_eq_none]at hf
  have:=hf c hc
  simp at this
 |some x=>
  have k1:=List.mem_of_find?_eq_some hf;have k2:=List.find?_some hf;simp only[decide_eq_true_eq]at k2;exact h1 x k1 c hc k2
theorem ZfC {b:Bk}(h1:∀c∈b.aA,1<=c.num/\c.num<=999){x:Int}:x∈b.nums↔∃c∈b.aA,c.num=x:=by
 unfold Bk.nums;simp only[iN,iZ,List.mem_range,pB,decide_eq_true_eq];constructor
 .rintro⟨n,⟨_,c,hc,e⟩,rfl⟩;exact⟨c,hc,e⟩
 .rintro⟨c,hc,rfl⟩;have hb:=h1 c hc;exact⟨c.num.toNat,⟨by omega,c,hc,by omega⟩,by show((c.num.toNat:Nat):Int)=c.num;omega⟩
theorem Zqx {b:Bk}(h1:∀c∈b.aA,1<=c.num/\c.num<=999)(h2:∀x∈b.aA,∀y∈b.aA,x.num=y.num->x=y)(hs:b.same b.aA.length){n:Int}(hn:n∈b.nums):fA (.i n) (oY (b.fst b.aA.length))=some (b.get n).pv/\(b.get n).num=n/\b.get n∈b.aA:=by
 obtain⟨c,hc,rfl⟩:=(ZfC h1).1 hn;rw[ZjI h2 hc];refine⟨?_,rfl,hc⟩;have kM:=XV (b:=b) b.aA.length;unfold Bk.same at hs;rw[nD]at hs kM;unfold oY;rw[KV];cases hf:(b.fst b.aA.length).find? (fun x=>decide (x.num=c.num))with
 |none=>
  rw[List.find?_eq_none]at hf
  have:=hf c (hs c hc)
  simp at this
 |some x=>
  have k1:=kM x (List.mem_of_find?_eq_some hf);have k2:=List.find?_some hf;simp only[decide_eq_true_eq]at k2;rw[h2 x k1 c hc k2];rfl
def VC (b:Bk)(es:List (PV×PV))(k:Nat):AS:=⟨[(1,.ptr (.loc 1 0) 0),(4,.ptr (.loc 38 0) 0),(91,.pv (.aF false 1 (b.nums.map aO))),(92,.pv (.i b.nums.length)),(93,.pv (.i k))],
 [(.loc 38 0,.cells (aX b (.loc 36 0) mF)),(.loc 36 0,.map es),(.loc 1 0,.cells b.cells)]⟩
theorem Zrc {s:Site}{n:Nat}{xs:List PV}:AV.aY s n xs mF=mF:=by
 have:∀k,AV.aY s n xs (List.replicate k (.pv (.bool false)))=List.replicate k (.pv (.bool false)):=fun k=>by
  induction k with
  |zero=>rfl
  |succ k ih=>rw[List.replicate_succ];simp only[AV.aY,AV.cJ,ih]
 exact this 1000
theorem Zge {b:Bk}(h:b.xR=true):b.fault=3:=by unfold Bk.fault;rw[if_pos h]
theorem Zgf {b:Bk}(h0:b.xR=false)(h:b.bad=true):b.fault=1:=by unfold Bk.fault;rw[if_neg (by simp[h0]),if_pos h]
theorem Zgd {b:Bk}(h0:b.xR=false)(h1:b.bad=false)(h:b.A3=true):b.fault=6:=by unfold Bk.fault;rw[if_neg (by simp[h0]),if_neg (by simp[h1]),if_pos h]
theorem Ht {b:Bk}(h0:b.xR=false)(h1:b.bad=false)(h:b.A3=false):b.fault=0:=by unfold Bk.fault;rw[if_neg (by simp[h0]),if_neg (by simp[h1]),if_neg (by simp[h])]
def itQ:PV->Bool
 |.agg [.int _ d,.bool t,.int _ lo,.int _ hi]=>It.okB ⟨d,t,⟨lo,hi⟩⟩
 |_=>false
def ctQ (b:Bk):PV->Bool
 |.agg [.int _ n,.int _ i,.int _ s,.int _ d,.int _ v,.int _ lo,.int _ hi]=>b.vE ⟨n,i,s,d,v,⟨lo,hi⟩⟩
 |_=>false
theorem Sq (b:Bk)(hi:b.items.length<=1000):aC prog 132 [aS b.items,.fn 133 [] []] (.bool (b.items.all It.okB)):=by
 have a1:=Zum (b.items.map It.pv) 133 [] [] itQ (fun x hx=>by
  obtain⟨y,_,rfl⟩:=iN.1 hx;exact Zqi y) (by rw[fZ];omega) (fun x hx=>by
  obtain⟨y,_,rfl⟩:=iN.1 hx;exact⟨_,_,_,_,rfl⟩)
 rw[List.all_map]at a1;exact a1
theorem Xr (b:Bk)(hi:b.items.length<=1000)(hc:b.aA.length<=1000):aC prog 134 [aK b.aA,.fn 135 [b.pv] []] (.bool (b.aA.all b.vE)):=by
 have a1:=Zun (b.aA.map Ct.pv) 135 [b.pv] [] (ctQ b) (fun x hx=>by
  obtain⟨y,_,rfl⟩:=iN.1 hx;exact Zvh b y hi) (by rw[fZ];omega) (fun x hx=>by
  obtain⟨y,_,rfl⟩:=iN.1 hx;exact⟨_,_,_,_,_,_,_,rfl⟩)
 rw[List.all_map]at a1;exact a1
theorem Zip (b:Bk)(hi:b.items.length<=1000)(hc:b.aA.length<=1000):cU prog 87 [.pv b.pv] [] (rdR b):=by
 have a1:=Sq b hi;have a2:=Xr b hi hc;refine cE L87 ?_;generalize hR:rdR b=R;have vO:∀e:Int,b.fault=e->e≠0->R (.pv (.bN [.eX,.i e])) []:=fun e h h0=>by
  rw[<-hR];exact .inl ⟨by rw[h];exact h0,by rw[h],rfl⟩
 by_cases c1:8<b.items.length
 .have d1:decide ((8:Int)<(b.items.length:Int))=true:=by simp;omega
  have:=vO 3 (Zge (by simp[Bk.xR,c1])) (by omega)
  simp[-List.reduceReplicate,-decide_eq_true_eq,-decide_eq_false_iff_not,L87,Bk.pv,aS,aK,d1];exact⟨[],by simpa[aT,rN]using this⟩
 have d1:decide ((8:Int)<(b.items.length:Int))=false:=by simp;omega
 by_cases c2:24<b.aA.length
 .have d2:decide ((24:Int)<(b.aA.length:Int))=true:=by simp;omega
  have:=vO 3 (Zge (by simp[Bk.xR,c2])) (by omega)
  simp[-List.reduceReplicate,-decide_eq_true_eq,-decide_eq_false_iff_not,L87,Bk.pv,aS,aK,d1,d2];exact⟨[],by simpa[aT,rN]using this⟩
 have d2:decide ((24:Int)<(b.aA.length:Int))=false:=by simp;omega
 have qY:b.xR=false:=by simp[Bk.xR];omega
 simp[-List.reduceReplicate,-decide_eq_true_eq,-decide_eq_false_iff_not,L87,Bk.pv,aS,aK,d1,d2];refine gH (k:=4) (fs:=[]) (xs:=[aS b.items,.fn 133 [] []]) (cs:=[]) rfl rfl a1 rfl ?_;cases e1:b.items.all It.okB
 .have:=vO 1 (Zgf qY (by simp only[Bk.bad,e1];rfl)) (by omega)
  simp[-List.reduceReplicate];exact⟨[],by simpa[aT,rN]using this⟩
 simp[-List.reduceReplicate];refine gH (k:=4) (fs:=[]) (xs:=[aK b.aA,.fn 135 [b.pv] []]) (cs:=[]) rfl rfl a2 rfl ?_;cases e2:b.aA.all b.vE
 .have:=vO 1 (Zgf qY (by simp only[Bk.bad,e1,e2];rfl)) (by omega)
  simp[-List.reduceReplicate];exact⟨[],by simpa[aT,rN]using this⟩
 have lS:b.bad=false:=by simp only[Bk.bad,e1,e2];rfl
 simp[-List.reduceReplicate,ZlB,ZlB,ZlA,Zrb];by_cases dA:b.aA=[]
 .have xN:b.nums=[]:=by unfold Bk.nums;rw[dA];simp
  have Z3:b.A3=false:=by unfold Bk.A3;rw[dA];rfl
  have hs:b.same b.aA.length:=by intro c tD;rw[dA]at tD;simp at tD
  have sB:=ZoI (Bk.R6.1 (Ht qY lS Z3)) hs;have lE:oY (b.fst b.aA.length)=[]:=by unfold Bk.fst;rw[dA];rfl
  rw[lE]at sB;have AJ:b.aA.length=0:=by rw[dA];rfl
  have ZS:R (.bN [.ptr (.ret 0) 0,.pv (.i 0)]) [(.ret 0,.cells (aX b (.ret 1) mF)),(.ret 1,.map [])]:=by
   rw[<-hR];exact .inr ⟨Ht qY lS Z3,_,sB,rfl,rfl⟩
  refine eP (fun n τ=>n=0/\τ=⟨[(1,.ptr (.loc 1 0) 0),(4,.ptr (.loc 38 0) 0),(41,.pv (.i 0)),(42,.pv (.i 0))],
   [(.loc 38 0,.cells (.pv (aS b.items)::.pv (aK b.aA)::.mp (.loc 36 0)::.pv (.emp (some true))::mF)),(.loc 36 0,.map []),(.loc 1 0,.cells b.cells)]⟩) ⟨0,_,Sub.mk (by simp[AJ]) (by simp[Bk.cells,aS,aK]),rfl,rfl⟩ ?_
  rintro J hJ n τ ⟨rfl,rfl⟩;clear hJ;simp;refine cG [.emp (some true)] Zsw ?_;simp;refine eP (fun n τ=>n=0/\τ=⟨[(1,.ptr (.loc 1 0) 0),(4,.ptr (.loc 38 0) 0),(92,.pv (.i 0)),(93,.pv (.i 0))],[(.loc 38 0,.cells (aX b (.loc 36 0) mF)),(.loc 36 0,.map []),(.loc 1 0,.cells b.cells)]⟩) ⟨0,_,Sub.trans' (Sub.mk (by simp) (by simp[aX,Bk.cells,xN])) (Sub.aX (s:=.loc 38 0) (i:=3) (ax:=.pv (aS b.items)::.pv (aK b.aA)::.mp (.loc 36 0)::.pv (.emp (some true))::mF) (a:=.pv (.emp (some true))) (.pv (.aF false 1 [])) (by simp) rfl (LR fun m v h=>BF h)),rfl,rfl⟩ ?_;rintro J hJ n τ ⟨rfl,rfl⟩;simp[aX,xN];refine⟨[.loc 38 0,.loc 36 0],?_⟩;simp[aT,rN,ZlC,Zlz];unfold aX at ZS;rw[xN]at ZS;exact ZS
 refine eP (fun n τ=>∃k:Nat,k<=b.aA.length/\n=b.aA.length-k/\b.same k/\τ=MD b k) ⟨b.aA.length,MD b 0,Sub.trans' (Sub.mk (by simp[AS.mB,aK]) (by simp[AS.mB,Bk.cells,aS,aK,Bk.fst,oY,nY,YS,ZlA]))
  (mB 79 3 1 (s:=.loc 38 0) (cs:=.pv (.aF false 4 (b.items.map It.pv))::.pv (.aF false 7 (b.aA.map Ct.pv))::.mp (.loc 36 0)::.pv (.emp (some true))::mF) 3 (by simp[YS]) rfl (by decide)),0,gW _,rfl,(fun c hc=>by cases hc),rfl⟩ ?_
 rintro J hJ n τ ⟨k,hk,rfl,hs,rfl⟩;by_cases aI:k<b.aA.length
 .obtain⟨c,NK⟩:∃c,b.aA[k]?=some c:=⟨b.aA[k],bC aI⟩;have hg:(b.aA.map Ct.pv)[k]?=some (.agg [.i c.num,.i c.it,.i c.src,.i c.day,.i c.valid,.i c.diff.lo,.i c.diff.hi]):=by rw[bY,NK];rfl
  have hw:=bK (k:=k) (by omega);have s6:=KV (f:=Ct.num) (g:=Ct.pv) (n:=c.num) (l:=b.fst k);have T9:A4 kI (oY (b.fst k))=true:=PB;have qI:=ZjJ (b:=b) k;have aH:b.aA.length-(k+1)<b.aA.length-k:=by omega
  have Db:=Hy NK;cases ho:(b.fst k).find? (fun o=>decide (o.num=c.num))with
  |some o=>
   rw[ho]at s6;have JA:fA (.i c.num) (oY (b.fst k))=some (.agg [.i o.num,.i o.it,.i o.src,.i o.day,.i o.valid,.i o.diff.lo,.i o.diff.hi]):=s6;have heq:gV (.agg [.i o.num,.i o.it,.i o.src,.i o.day,.i o.valid,.i o.diff.lo,.i o.diff.hi]) (.agg [.i c.num,.i c.it,.i c.src,.i c.day,.i c.valid,.i c.diff.lo,.i c.diff.hi])=decide (o=c):=ZrU;cases e:decide (o=c)
   .rw[e]at heq;have h6:=vO 6 (Zgd qY lS (Zmz (List.mem_of_mem_take (XV k o (List.mem_of_find?_eq_some ho))) (dL NK) (by simpa using List.find?_some ho) (by simpa using e))) (by omega);simp[MD,aK,aI,↓hg,T9,JA,heq,-gV,YS,gK];exact⟨[],by simpa[aT,rN]using h6⟩
   .rw[e]at heq;have H3:o=c:=by simpa using e
    have aB:=hJ _ _ ⟨k+1,aI,rfl,Zik NK hs (fun o' h'=>by rw[ho]at h';cases h';exact H3),rfl⟩;unfold MD at aB;rw[Db]at aB;have SG:wZ (b.fst k) c=b.fst k:=by unfold wZ;rw[ho]
    rw[SG]at aB;simp[MD,aK,aI,↓hg,T9,JA,heq,-gV,YS,gK,hw];exact⟨_,_,aH,Sub.mk (by simp[aK]) (by simp[aK,Bk.cells]),aB⟩
  |none=>
   rw[ho]at s6;have JA:fA (.i c.num) (oY (b.fst k))=none:=s6;have aB:=hJ _ _ ⟨k+1,aI,rfl,Zik NK hs (fun o' h'=>by rw[ho]at h';cases h'),rfl⟩;have SG:wZ (b.fst k) c=b.fst k++[c]:=by unfold wZ;rw[ho]
   have nJ:mM (.i c.num) (.agg [.i c.num,.i c.it,.i c.src,.i c.day,.i c.valid,.i c.diff.lo,.i c.diff.hi]) (oY (b.fst k))=oY (b.fst k++[c]):=by
    unfold oY;rw[Hp (fun x hx=>by rw[List.find?_eq_none]at ho;simpa using ho x hx)];unfold nY;rw[mL];rfl
   have tC:(((b.fst k).map fun c=>aO c.num)).length<=1000:=by rw[fZ];omega
   have E7:(b.fst k).length+1<=1000000:=by omega
   unfold MD at aB;rw[Db,SG]at aB;simp[MD,aK,aI,↓hg,T9,JA,nJ,YS,gK,hw,aN,E7];exact⟨_,_,aH,Sub.mk (by simp[aK]) (by simp[aK,aO,Bk.cells]),aB⟩
 .have he:k=b.aA.length:=by omega
  subst he;clear hJ;have JF:∀c∈b.aA,1<=c.num/\c.num<=999:=fun c tD=>by
   have:=rM.1 e2 c tD
   unfold Bk.vE jD at this;simp only[dK,decide_eq_true_eq]at this;omega
  obtain⟨MZ,r7⟩:=Zm3 JF hs;have NB:b.nums.length=(b.fst b.aA.length).length:=by rw[<-MZ,Ir,fZ]
  have hle:=ZjJ (b:=b) b.aA.length;have RH:A4 kI (oY (b.fst b.aA.length))=true:=PB;have kO:=fun n=>Zqx JF r7 hs (n:=n)
  have Ub:b.A3=false->xJ b (oY (b.fst b.aA.length)):=fun h=>ZoI (Bk.R6.1 (Ht qY lS h)) hs
  have ZS:b.A3=false->R (.bN [.ptr (.ret 0) 0,.pv (.i 0)]) [(.ret 0,.cells (aX b (.ret 1) mF)),(.ret 1,.map (oY (b.fst b.aA.length)))]:=fun h=>by
   rw[<-hR];exact .inr ⟨Ht qY lS h,_,Ub h,rfl,rfl⟩
  have Ui:(b.fst b.aA.length).map Ct.num≠[]:=by
   intro e;rw[List.map_eq_nil_iff]at e;unfold Bk.same at hs;rw[nD,e]at hs;cases FX:b.aA with
   |nil=>exact dA FX
   |cons x r=>have:=hs x (by rw[FX];simp);cases this
  have MU:=Zuv 3 ((b.fst b.aA.length).map Ct.num) Ui (by rw[fZ];omega);rw[MZ,fZ,List.map_map,<-NB]at MU;have oS:b.nums.length<=1000:=by omega
  have wH:((b.fst b.aA.length).map fun c=>aO c.num)=(b.fst b.aA.length).map (aO∘Ct.num):=rfl;generalize hES:oY (b.fst b.aA.length)=es at *;have Cl:(b.fst b.aA.length).length=b.nums.length:=NB.symm;simp[MD,aK,hES,wH,Cl];refine cM [.vec (.par 0) 1 0 b.nums.length] [(.par 0,.arr 3 1 ((b.fst b.aA.length).map (aO∘Ct.num)))] 87 [.loc 79 0] rfl MU (by simp[cA]) ?_;simp[cT,AS.lX,fB,gI,YS,Bk.cells];have jX:(b.nums.map aO).take b.nums.length=b.nums.map aO:=fQ (by rw[fZ];exact fH _);refine eP (fun n τ=>∃k:Nat,k<=b.nums.length/\n=b.nums.length-k/\(∀(i:Nat) (x y:Int),i+1<k->b.nums[i]?=some x->b.nums[i+1]?=some y->(b.get x).day<=(b.get y).day)/\τ=VC b es k) ⟨b.nums.length,VC b es 0,Sub.trans' (Sub.mk (by simp[aL,AS.cJ,AV.cJ,jX]) (by simp[aL,AS.cJ,aJ.cJ,AV.cJ,AV.aY,Zrc,aX,Bk.cells,aK,jX])) (Sub.cJ [.loc 79 0]),0,gW _,rfl,(fun i x y h=>by omega),rfl⟩ ?_;rintro J hJ n τ ⟨k,hk,rfl,hinv,rfl⟩;by_cases aI:k<b.nums.length
  .obtain⟨x,hx⟩:∃x,b.nums[k]?=some x:=⟨b.nums[k],bC aI⟩;have oT:(b.nums.map aO)[k]?=some (.i x):=by rw[bY,hx];rfl
   have hw:=bK (k:=k) (by omega);have aH:b.nums.length-(k+1)<b.nums.length-k:=by omega
   obtain⟨mK,T4,hxc⟩:=kO x (dL hx);by_cases hz:k=0
   .subst hz;have aB:=hJ _ _ ⟨1,aI,rfl,(fun i x y h=>by omega),rfl⟩;have H0:IntKind.i64.wrap 1=1:=rfl;simp[VC,aX,aI,↓oT,H0];exact⟨_,_,aH,Sub.mk (by simp) (by simp[aX,Bk.cells]),aB⟩
   .obtain⟨j,DI⟩:∃j,j+1=k:=⟨k-1,by omega⟩;have hj:j<b.nums.length:=by omega
    obtain⟨y,hy⟩:∃y,b.nums[j]?=some y:=⟨b.nums[j],bC _⟩;have IZ:(b.nums.map aO)[j]?=some (.i y):=by rw[bY,hy];rfl
    obtain⟨Vp,T1,IA⟩:=kO y (dL hy);have qD:IntKind.i64.wrap ((k:Int)-1)=(j:Int):=by rw[wrap64 (by omega)];omega
    have hyx:y<x:=by
     have:=R3.1 (UJ (b:=b)) j k hj aI (by omega)
     rw[bC hj]at hy;rw[bC aI]at hx;cases hy;cases hx;exact this
    have IL:decide ((0:Int)<(k:Int))=true:=by simp;omega
    have M3:0<k:=by omega
    have jF:decide ((k:Int)<(b.nums.length:Int))=true:=by simp;omega
    unfold Ct.pv at mK Vp;cases hd:decide ((b.get x).day<(b.get y).day)
    .have aB:=hJ _ _ ⟨k+1,aI,rfl,(fun i x' y' h e1 e2=>by
      rcases Nat.lt_succ_iff_lt_or_eq.1 h with h|h
      .exact hinv i x' y' h e1 e2
      .have:i=j:=by omega
       subst this;rw[DI]at e2;rw[hy]at e1;rw[hx]at e2;cases e1;cases e2;simp at hd;omega),rfl⟩
     simp[-decide_eq_true_eq,-decide_eq_false_iff_not,VC,aX,aI,↓oT,↓IZ,qD,M3,RH,mK,Vp,gK,hd,hw];exact⟨_,_,aH,Sub.mk (by simp) (by simp[aX,Bk.cells]),aB⟩
    .have h6:=vO 6 (Zgd qY lS (ZmA hxc IA (by rw[T4,T1];exact hyx) (by simpa using hd))) (by omega);simp[-decide_eq_true_eq,-decide_eq_false_iff_not,VC,aX,aI,jF,hj,↓oT,↓IZ,qD,IL,M3,RH,mK,Vp,gK,hd,hw];exact⟨[],by simpa[aT,rN]using h6⟩
  .have he:k=b.nums.length:=by omega
   subst he;clear hJ;have Z3:b.A3=false:=Zta r7 (fun x hx y hy e=>by
    have:=ZtW (fun n=>(b.get n).day) UJ (fun i x y e1 e2=>hinv i x y (cD.1 e2).1 e1 e2) x.num ((ZfC JF).2 ⟨x,hx,rfl⟩) y.num ((ZfC JF).2 ⟨y,hy,rfl⟩) e
    rw[ZjI r7 hx,ZjI r7 hy]at this;exact this)
   have:=ZS Z3
   simp[VC,aX];refine⟨[.loc 38 0,.loc 36 0],?_⟩;simp[aT,rN,ZlC,Zlz];exact this
end
section
def Cr.sub (a b:Cr):Prop:=b.lo<=a.lo/\a.hi<=b.hi
theorem Zqv {α β:Type}{f:α->Cr}{g:β->Cr}{l:List α}{l':List β}{e:Cr}(h:∀y∈l',∃x∈l,(f x).sub (g y)):(l.foldl (fun r c=>r.cut (f c)) e).sub (l'.foldl (fun r c=>r.cut (g c)) e):=by
 obtain⟨a1,a2,_⟩:=XJ f l e;obtain⟨_,_,b3⟩:=XJ g l' e;obtain⟨c1,c2,_⟩:=XP f l e;obtain⟨_,_,d3⟩:=XP g l' e;constructor
 .rcases b3 with b3|⟨y,hy,b3⟩
  .omega
  .obtain⟨x,hx,h1,_⟩:=h y hy
   have:=a2 x hx;omega
 .rcases d3 with d3|⟨y,hy,d3⟩
  .omega
  .obtain⟨x,hx,_,h1⟩:=h y hy
   have:=c2 x hx;omega
theorem Cr.sub.wider {a b:Cr}(h:a.sub b)(n:Int):(a.wider n).sub (b.wider n):=by
 unfold Cr.sub at h ⊢;unfold Cr.wider Cr.plus;simp only;omega
theorem Cr.sub.plus {a b:Cr}(h:a.sub b)(d:Cr):(a.plus d).sub (b.plus d):=by
 unfold Cr.sub at h ⊢;unfold Cr.plus;simp only;omega
theorem Cr.sub.refl (a:Cr):a.sub a:=⟨Int.le_refl _,Int.le_refl _⟩
theorem GO {b:Bk}(hb:b.ok){c:Ct}(hc:c∈b.aA):∃n:Nat,c.num=n/\1<=n/\n<1000:=by
 have:=hb.ct c hc
 unfold Bk.vE jD at this;simp only[dK,decide_eq_true_eq]at this;exact⟨c.num.toNat,by omega,by omega,by omega⟩
theorem ZiL {b b':Bk}(hb:b.ok)(nT:b'.ok)(hi:∀c∈b.aA,b'.item c.src=b.item c.src)(hc:∀c∈b.aA,c∈b'.aA){bad yV:List Int}(lS:∀x∈yV,x∈bad){x:Int}(hx:x∈b.held bad):x∈b'.held yV:=by
 have key:∀n:Nat,(n:Int)∈b.held bad->(n:Int)∈b'.held yV:=by
  intro n;induction n using Nat.strongRecOn with
  |_ n ih=>
  intro hx;obtain⟨c,NL,FY,Dk⟩:=(LA hb).1 hx;refine(LA nT).2 ⟨c,hc c NL,FY,?_⟩;unfold Bk.R4 at Dk ⊢;rw[dK,sD]at Dk ⊢;refine⟨?_,?_⟩
  .rcases Dk.1 with h|h
   .left;rw[hi c NL];exact h
   .right;rw[pB]at h ⊢;obtain⟨o,ho,h1⟩:=h;rw[dK,jI]at h1;refine⟨o,hc o ho,?_⟩;rw[dK,jI];refine⟨h1.1,?_⟩;have h2:o.num<c.num:=by have:=h1.1;unfold zG at this;simp only[dK,decide_eq_true_eq]at this;exact this.1.2
    obtain⟨m,hm,_,_⟩:=GO hb ho;have h3:=h1.2;rw[hm]at h3 ⊢;exact ih m (by omega) h3
  .have h:=Dk.2;rw[Bool.not_eq_true',Bool.eq_false_iff]at h ⊢;intro h';rw[jI]at h';exact h (jI.2 (lS _ h'))
 obtain⟨c0,NM,e0,_⟩:=(LA hb).1 hx;obtain⟨n,hn,_,_⟩:=GO hb NM;have e:x=n:=by omega
 rw[e]at hx ⊢;exact key n hx
theorem Iz {b:Bk}{held:List Int}{S:Int->Cr}{item day below:Int}(h:(b.item item).gZ=false):b.kJ held S item day below=(b.aA.filter fun c=>Bk.qA item day below c&&held.contains c.num).foldl (fun r c=>r.cut ((S c.num).wider ((b.item item).dR*(day-c.day)))) I7:=by
 unfold Bk.kJ;rw[if_neg (by rw[h];simp)]
theorem ZiG {b b':Bk}{S S':Int->Cr}{h h':List Int}{item day below:Int}(hi:b'.item item=b.item item)(hc:∀c∈b.aA,c∈b'.aA)(hh:∀x∈h,x∈h')(hS:∀c∈b.aA,c.num<below->c.num∈h->(S' c.num).sub (S c.num)):(b'.kJ h' S' item day below).sub (b.kJ h S item day below):=by
 cases hs:(b.item item).gZ with
 |true=>
  unfold Bk.kJ;rw[hi,if_pos hs,if_pos hs];exact Cr.sub.refl _
 |false=>
  rw[Iz hs,Iz (by rw[hi];exact hs),hi];refine Zqv fun c mD=>?_
  rw[iZ,dK,jI]at mD;obtain⟨h1,h2,h3⟩:=mD;have aI:c.num<below:=by unfold Bk.qA at h2;simp only[dK,decide_eq_true_eq]at h2;exact h2.1
  refine⟨c,?_,(hS c h1 aI h3).wider _⟩;rw[iZ,dK,jI];exact⟨hc c h1,h2,hh _ h3⟩
theorem ZmJ {b b':Bk}(hb:b.ok)(nT:b'.ok)(hi:∀c∈b.aA,b'.item c.src=b.item c.src)(hc:∀c∈b.aA,c∈b'.aA):∀c∈b.aA,c.num∈b.held []->(b'.span (b'.held []) c.num).sub (b.span (b.held []) c.num):=by
 have hh:∀x∈b.held [],x∈b'.held []:=fun x hx=>ZiL hb nT hi hc (fun _ h=>h) hx
 have key:∀n:Nat,∀c∈b.aA,c.num=n->c.num∈b.held []->(b'.span (b'.held []) c.num).sub (b.span (b.held []) c.num):=by
  intro n;induction n using Nat.strongRecOn with
  |_ n ih=>
  intro c mD hn hx;obtain⟨n',yO,h1,h2⟩:=GO hb mD
  have:n'=n:=by omega
  subst this;have g1:b.get (n':Int)=c:=by rw[<-hn];exact x7 hb mD
  have g2:b'.get (n':Int)=c:=by rw[<-hn];exact x7 nT (hc c mD)
  rw[hn]at hx ⊢;rw[Mw h2,Mw h2,if_pos (jI.2 hx),if_pos (jI.2 (hh _ hx)),g1,g2];refine Cr.sub.plus (ZiG (hi c mD) hc hh fun o ho aI QV=>?_) _;obtain⟨m,hm,_,_⟩:=GO hb ho;exact ih m (by omega) o ho hm QV
 intro c mD;obtain⟨n,hn,_,_⟩:=GO hb mD;exact key n c mD hn
def Cr.lW (r:Cr)(B:Int):Prop:=-B<=r.lo/\r.lo<=B/\-B<=r.hi/\r.hi<=B
theorem Zqw {α:Type}{f:α->Cr}{l:List α}{B:Int}(hB:B<1099511627776)(dA:l≠[])(h:∀x∈l,(f x).lW B):(l.foldl (fun r c=>r.cut (f c)) I7).lW B:=by
 obtain⟨x0,CQ⟩:=List.exists_mem_of_ne_nil l dA;obtain⟨_,a2,a3⟩:=XJ f l I7;obtain⟨_,c2,c3⟩:=XP f l I7;have h0:=h x0 CQ;have h1:=a2 x0 CQ;have h2:=c2 x0 CQ;have e1:I7.lo = -1099511627776:=rfl;have e2:I7.hi=1099511627776:=rfl;unfold Cr.lW at h0 ⊢;refine⟨by omega,?_,?_,by omega⟩
 .rcases a3 with a3|⟨y,hy,a3⟩
  .omega
  .have:=h y hy;unfold Cr.lW at this;omega
 .rcases c3 with c3|⟨y,hy,c3⟩
  .omega
  .have:=h y hy;unfold Cr.lW at this;omega
theorem xE {b:Bk}(hb:b.ok){c:Ct}(hc:c∈b.aA):1<=c.num/\c.num<=999/\0<=c.it/\c.it<b.items.length/\(b.item c.it).gZ=false/\0<=c.src/\c.src<b.items.length/\c.src≠c.it/\0<=c.day/\c.day<=1000/\0<=c.valid/\c.valid<=1000/\c.diff.lW 100000/\c.diff.lo<=c.diff.hi:=by
 have:=hb.ct c hc
 unfold Bk.vE jD Bk.uT jD Cr.okB A6 jD at this;simp only[dK,decide_eq_true_eq,Bool.not_eq_true']at this;unfold Cr.lW;obtain⟨⟨⟨⟨⟨⟨⟨a1,a2⟩,a3⟩,a4⟩,a5⟩,a6⟩,a7⟩,a8⟩:=this;refine⟨a1.1,a1.2,a2.1,by omega,a3,a4.1,by omega,a5,a6.1,a6.2,a7.1,a7.2,?_,a8.2⟩;omega
theorem ZhK {b:Bk}(hb:b.ok){i:Int}(h0:0<=i)(h1:i<b.items.length):0<=(b.item i).dR/\(b.item i).dR<=100/\(b.item i).val.lW 100000/\(b.item i).val.lo<=(b.item i).val.hi:=by
 have hm:b.item i∈b.items:=by
  unfold Bk.item;rw[bC (by omega)];exact A2 _
 have:=hb.it _ hm
 unfold It.okB jD Cr.okB A6 jD at this;simp only[dK,decide_eq_true_eq]at this;unfold Cr.lW;omega
theorem Zlg {b:Bk}(hb:b.ok){c:Ct}(hc:c∈b.aA){bad:List Int}(h:c.num∈b.held bad):(b.item c.src).gZ=true\/∃o∈b.aA,Bk.qA c.src c.day c.num o=true/\o.num∈b.held bad:=by
 obtain⟨c',tD,e,h1⟩:=(LA hb).1 h
 have:c'=c:=hb.one c' tD c hc e
 subst this;unfold Bk.R4 at h1;rw[dK,sD]at h1;rcases h1.1 with h2|h2
 .exact .inl h2
 .rw[pB]at h2;obtain⟨o,ho,h3⟩:=h2;rw[dK,jI,Nx]at h3;exact .inr ⟨o,ho,h3.1,h3.2⟩
theorem Zmt {r:Cr}{A B d:Int}(h:r.lW A)(h0:0<=d)(h1:A+d<=B):(r.wider d).lW B:=by
 unfold Cr.lW at h ⊢;unfold Cr.wider Cr.plus;simp only;omega
theorem Zb {b:Bk}(hb:b.ok){o:Ct}(ho:o∈b.aA){day:Int}(Z8:o.on day=true):0<=(b.item o.it).dR*(day-o.day)/\(b.item o.it).dR*(day-o.day)<=100000:=by
 have h1:=xE hb ho;have h2:=ZhK hb h1.2.2.1 h1.2.2.2.1;unfold Ct.on jD at Z8;simp only[dK,decide_eq_true_eq]at Z8;have h3:0<=day-o.day:=by omega
 have h4:day-o.day<=1000:=by omega
 exact⟨Int.mul_nonneg h2.1 h3,Int.le_trans (Int.mul_le_mul h2.2.1 h4 h3 (by omega)) (by omega)⟩
theorem ZhL {b:Bk}(hb:b.ok){held:List Int}{S:Int->Cr}{item day below:Int}{A:Int}(h0:0<=item)(h1:item<b.items.length)(hA:100000<=A)(hA2:A+100000<1099511627776)(hex:(b.item item).gZ=true\/∃o∈b.aA,Bk.qA item day below o=true/\o.num∈held)(hS:∀c∈b.aA,c.num<below->c.num∈held->(S c.num).lW A):(b.kJ held S item day below).lW (A+100000):=by
 cases hs:(b.item item).gZ with
 |true=>
  unfold Bk.kJ;rw[if_pos hs]
  have:=(ZhK hb h0 h1).2.2.1
  unfold Cr.lW at this ⊢;omega
 |false=>
  rw[Iz hs];obtain⟨o,ho,h2,h3⟩:∃o∈b.aA,Bk.qA item day below o=true/\o.num∈held:=by
   rcases hex with h|h
   .rw[hs]at h;cases h
   .exact h
  refine Zqw (by omega) (fun e=>?_) fun c hc=>?_
  .have:o∈(b.aA.filter fun c=>Bk.qA item day below c&&held.contains c.num):=by
    rw[iZ,dK,jI];exact⟨ho,h2,h3⟩
   rw[e]at this;cases this
  .rw[iZ,dK,jI]at hc;obtain⟨k1,k2,k3⟩:=hc;unfold Bk.qA at k2;simp only[dK,decide_eq_true_eq]at k2;have hf:=Zb hb k1 k2.2.2;rw[k2.2.1]at hf;exact Zmt (hS c k1 k2.1 k3) hf.1 (by omega)
theorem YP {b:Bk}(hb:b.ok):∀c∈b.aA,c.num∈b.held []->(b.span (b.held []) c.num).lW (300000*(c.num+1)):=by
 have key:∀n:Nat,∀c∈b.aA,c.num=n->c.num∈b.held []->(b.span (b.held []) c.num).lW (300000*(c.num+1)):=by
  intro n;induction n using Nat.strongRecOn with
  |_ n ih=>
  intro c mD hn hx;obtain⟨n',yO,h1,h2⟩:=GO hb mD
  have:n'=n:=by omega
  subst this;have g1:b.get (n':Int)=c:=by rw[<-hn];exact x7 hb mD
  have JE:=xE hb mD;have Bo:=Zlg hb mD hx;rw[hn]at hx Bo ⊢;rw[Mw h2,if_pos (jI.2 hx),g1];have hi:=ZhL hb (S:=b.span (b.held [])) (day:=c.day) (below:=(n':Int)) (A:=300000*(n':Int)) JE.2.2.2.2.2.1 JE.2.2.2.2.2.2.1 (by omega) (by omega) Bo fun o ho aI QV=>by
   obtain⟨m,hm,_,_⟩:=GO hb ho
   have:=ih m (by omega) o ho hm QV
   unfold Cr.lW at this ⊢;omega
  have hd:=JE.2.2.2.2.2.2.2.2.2.2.2.2.1;unfold Cr.lW at hi hd ⊢;unfold Cr.plus;simp only;omega
 intro c mD;obtain⟨n,hn,_,_⟩:=GO hb mD;exact key n c mD hn
structure Cons (P:Program) where
 m:Nat
 S:Type
 X:S->List aJ
 step:S->PV->S×Bool
 good:PV->Prop
 live:S->Prop
 m0:0<m
 len:∀s,(X s).length=m
 cl:∀s,FC m (X s)
 sV:∀s x,live s->good x->GS P 0 [.pv x] (laid 0 (X s)) (fun r B=>r=.pv (.bool (step s x).2)/\B=laid 0 (X (step s x).1))
 goes:∀s x,live s->good x->(step s x).2=true->live (step s x).1
def Cons.run {P:Program}(C:Cons P):C.S->List PV->C.S×Bool
 |s,[]=>(s,true)
 |s,x::r=>match(C.step s x).2 with
  |true=>C.run (C.step s x).1 r
  |false=>((C.step s x).1,false)
theorem Cons.Yt {P:Program}{C:Cons P}:∀(a b:List PV) (s:C.S),C.run s (a++b)=match(C.run s a).2 with
  |true=>C.run (C.run s a).1 b
  |false=>C.run s a
 |[],b,s=>rfl
 |x::a,b,s=>by
  rw[List.cons_append,Cons.run,Cons.run];split
  .exact Cons.Yt a b _
  .rfl
theorem Cons.ZxJ {P:Program}{C:Cons P}(s:C.S)(x:PV):C.run s [x]=C.step s x:=by
 rw[Cons.run];split
 .rename_i h;rw[Cons.run];exact Prod.ext rfl h.symm
 .rename_i h;exact Prod.ext rfl h.symm
theorem Zdz {P:Program}{C:Cons P}{c:C.S}{k:Nat}:((laid 0 (C.X c)).filter fun p=>!p.1.fP k).map (fun p=>(p.1,p.2.bG k))=laid 0 (C.X c):=ZeF (C.cl c)
theorem OZ {tm:List (Nat×AV)}{X:List aJ}:yB ⟨tm,laid 0 X⟩ X:=by
 have:=UN (tm:=tm) (X:=X) (r:=[])
 rwa [xC]at this
def gD (l:List Int):List AV:=(List.range 1000).map fun i:Nat=>.pv (.bool (l.contains (i:Int)))
theorem Zh0 {l:List Int}{n:Nat}(h:n<1000):(gD l)[n]?=some (.pv (.bool (l.contains (n:Int)))):=by
 unfold gD;rw[bY,List.getElem?_range h];rfl
theorem HA:mF=gD []:=by
 refine List.ext_getElem? (fun n=>?_);unfold mF gD;rw[bY];by_cases h:n<1000
 .rw[List.getElem?_range h,List.getElem?_replicate,if_pos h];rfl
 .rw[List.getElem?_replicate,if_neg h,List.getElem?_eq_none (by rw[List.length_range];omega)];rfl
theorem Zra {l:List Int}{n:Nat}(h:n<1000):(gD l).set n (.pv (.bool true))=gD (l++[(n:Int)]):=by
 refine List.ext_getElem? (fun k=>?_);by_cases hk:k<1000
 .rw[List.getElem?_set,Zh0 hk,Zh0 hk];by_cases e:n=k
  .subst e;rw[if_pos rfl,if_pos (by unfold gD;rw[fZ,List.length_range];exact h)];simp
  .rw[if_neg e];congr 3;rw[rB,jI,jI,sS];constructor
   .exact .inl
   .rintro(h|h)
    .exact h
    .simp at h;omega
 .rw[List.getElem?_eq_none (by unfold gD;simp;omega),List.getElem?_eq_none (by unfold gD;simp;omega)]
theorem ZhZ {l:List Int}:(gD l).length=1000:=by unfold gD;simp
theorem ZfJ {α:Type}{f:α->PV}{d:Nat}:∀l:List α,AV.rC d (l.map fun x=>.pv (f x))=false
 |[]=>rfl
 |x::l=>by rw[iS];simp only[AV.rC,AV.has,ZfJ l];rfl
theorem ZfK {α:Type}{f:α->PV}{q:Site->Bool}:∀l:List α,AV.hZ q (l.map fun x=>.pv (f x))=true
 |[]=>rfl
 |x::l=>by rw[iS];simp only[AV.hZ,AV.dC,ZfK l];rfl
theorem ZfH {α:Type}{f:α->PV}{d:Nat}(l:List α):(l.map fun x=>AV.pv (f x)).map (AV.bG d)=l.map fun x=>.pv (f x):=by
 rw[List.map_map];rfl
theorem ZfI {α:Type}{f:α->PV}{g:Site->Site}:∀l:List α,AV.iT g (l.map fun x=>.pv (f x))=l.map fun x=>.pv (f x)
 |[]=>rfl
 |x::l=>by rw[iS];simp only[AV.iT,AV.map,ZfI l]
theorem ZaS {l:List Int}(d:Nat):AV.rC d (gD l)=false:=ZfJ _
theorem J0 {l:List Int}(q:Site->Bool):AV.hZ q (gD l)=true:=ZfK _
theorem BH {l:List Int}(d:Nat):(gD l).map (AV.bG d)=gD l:=ZfH _
theorem W3 {l:List Int}(g:Site->Site):AV.iT g (gD l)=gD l:=ZfI _
theorem ZsV {fz outs:List Site}{rs:List oF}{R:AV->List (Site×aJ)->Prop}{σ:AS}(h:aT outs rs R (aY fz σ)):rS rs R σ:=by
 obtain⟨l,h1,h2,h3,h4,h5⟩:=h;exact⟨fz,outs,l,h1,h2,h3,fun s hs b hb=>Zet h4 s hs b hb,h5⟩
theorem ZhX {P:Program}(fz outs:List Site){f:FuncId}{F:aW}{args:List AV}{B:List (Site×aJ)}{R:AV->List (Site×aJ)->Prop}(hm:P.follows .mixedOrders=true)(hf:fV P f=some F)(hn:args.length<=F.nt)
  (h:eM P F.code (lF (fun σ=>aT outs F.res R (aY fz σ))) ⟨eZ 0 args,B⟩):cU P f args B R:=Jc hm hf hn (fun _ h=>ZsV h) (J1 h)
section
attribute [local simp] aJ.bG Site.fP
attribute [local simp] oL aY AS.cJ AV.cJ AV.aY aJ.cJ AS.tidy AS.j7
theorem ZjX (b:Bk)(hi:b.items.length<=1000)(hc:b.aA.length<=1000):aC prog 208 [b.pv] (.i b.fault):=by
 have hr:=Zip b hi hc;refine cS L208 ?_;simp[L208,Bk.pv];refine cL [.pv b.pv] [] 7 [] rfl hr ?_
 rintro r0 B0 (⟨h0,rfl,rfl⟩|⟨h0,es,lE,rfl,rfl⟩)
 .refine⟨rfl,by simp,?_⟩;simp[AV.map,gI,AS.lX,fB,cT]
 .refine⟨rfl,by simp[cA,aX,aJ.dC,AV.dC,AV.hZ,HA,J0],?_⟩;simp[AV.map,AV.iT,gI,AS.lX,fB,cT,aJ.iX,aX,HA,W3,h0]
structure WAt (b:Bk)(bad:List Int)(es:List (PV×PV))(X:List aJ)(jw jm:Nat):Prop where
 w:X[jw]?=some (.cells (aX b (.par jm) (gD bad)))
 m:X[jm]?=some (.map es)
def PO (s:Site)(item day below:Int):AV:=.fn 138 [] [.ptr s 0,.pv (.ref [.i below]),.pv (.ref [.i item]),.pv (.ref [.i day])]
attribute [local simp] AS.exp jY aJ.iX AV.map AV.iT dO Site.uS aJ.dC AV.dC AV.hZ
theorem ZaT {l:List Int}{s:Site}{n:Nat}{xs:List PV}:AV.aY s n xs (gD l)=gD l:=by
 have:∀k:List Nat,AV.aY s n xs (k.map fun i:Nat=>.pv (.bool (l.contains (i:Int))))=k.map fun i:Nat=>.pv (.bool (l.contains (i:Int))):=fun k=>by
  induction k with
  |nil=>rfl
  |cons x k ih=>rw[iS];simp only[AV.aY,AV.cJ,ih]
 exact this _
def kK (b:Bk)(bad:List Int)(es:List (PV×PV)):List aJ:=[.cells (aX b (.par 1) (gD bad)),.map es]
theorem CE (b:Bk)(bad:List Int)(es:List (PV×PV))(item day below:Int):cU prog 89 [.ptr (.par 0) 0,.pv (.i item),.pv (.i day),.pv (.i below)] (laid 0 (kK b bad es)) (fun r B=>r=PO (.ret 0) item day below/\B=(.ret 0,.cells [.ptr (.par 0) 0])::laid 0 (kK b bad es)):=by
 refine ZhX [.loc 5 0,.loc 6 0,.loc 7 0] [.loc 4 0,.par 0,.par 1] mixed L89_ok (tR rfl) ?_;generalize hR:(fun(r:AV) (B:List (Site×aJ))=>r=PO (.ret 0) item day below/\B=(.ret 0,.cells [.ptr (.par 0) 0])::laid 0 (kK b bad es))=R;simp[L89,laid,kK,aX,eD,GA,BH,ZaT];simp[aT,rN,J0,W3,w9];rw[<-hR];refine⟨rfl,?_⟩;simp[laid,kK,aX]
end
attribute [local simp] Zf0 ZfZ ZfY Zdv Zfu Zfv Zer Zdz
attribute [local simp] AV.map AV.iT dO Site.uS aJ.dC AV.dC AV.hZ AS.lX
def lV (l:List Ct):List PV:=l.map Ct.pv
def Bk.X4 (b:Bk)(item day below:Int)(k:Nat):List Ct:=((b.nums.take k).map b.get).filter (Bk.qA item day below)
theorem ZpZ {b:Bk}{item day below:Int}{k:Nat}{n:Int}(h:b.nums[k]?=some n):b.X4 item day below (k+1)=b.X4 item day below k++(if Bk.qA item day below (b.get n)=true then[b.get n]else[]):=by
 unfold Bk.X4;rw[mV,h,mL,I2];congr 1;simp only[Option.toList,iS,List.map_nil,xT,List.filter_nil]
theorem Ztb {b:Bk}{item day below:Int}(k:Nat):b.rH item day below=b.X4 item day below k++((b.nums.drop k).map b.get).filter (Bk.qA item day below):=by
 unfold Bk.X4 Bk.rH;rw[<-I2,<-mL,List.take_append_drop]
theorem Zp0 {b:Bk}{item day below:Int}:b.X4 item day below b.nums.length=b.rH item day below:=by
 unfold Bk.X4 Bk.rH;rw[nD]
theorem YB {b:Bk}:b.nums.length<=1000:=by
 unfold Bk.nums;rw[fZ];exact lM (Q7 _ _) (by rw[List.length_range];exact fH _)
theorem Ha {X:List aJ}{j:Nat}{b:aJ}(h:X[j]?=some b):(laid 0 X).lookup (.par j)=some b:=by
 have:=ZhJ X 0 j
 rw[sF]at this;rw[this,h]
theorem Gk (C:Cons prog)(b:Bk)(hb:b.ok)(bad:List Int)(es:List (PV×PV))(lE:xJ b es)(j0 jw jm:Nat)(hW:∀c,C.live c->WAt b bad es (C.X c) jw jm)(h0:∀c,C.live c->(C.X c)[j0]?=some (.cells [.ptr (.par jw) 0]))
  (item day below:Int) (c:C.S) (hc:C.live c) (hg:∀x∈b.rH item day below,C.good x.pv):
  cU prog 138 [.nQ (.par 0),.ptr (.par j0) 0,.pv (.ref [.i below]),.pv (.ref [.i item]),.pv (.ref [.i day])] (laid 0 (C.X c)) (fun r B=>r=.pv (.bN [])/\B=laid 0 (C.X (C.run c (lV (b.rH item day below))).1)):=by
 have hlen:=YB (b:=b);refine Qj (dM C.m) mixed L138_ok (tR rfl) ?_;generalize hR:(fun(r:AV) (B:List (Site×aJ))=>r=.pv (.bN [])/\B=laid 0 (C.X (C.run c (lV (b.rH item day below))).1))=R;have k0:=Ha (h0 c hc);have kw:=Ha (hW c hc).w;simp[L138,k0,kw,aX];refine eP (fun n τ=>∃(k:Nat) (c':C.S),k<=b.nums.length/\n=b.nums.length-k/\C.run c (lV (b.X4 item day below k))=(c',true)/\C.live c'/\τ=⟨[(0,.nQ (.par 0)),(1,.ptr (.par j0) 0),(2,.pv (.ref [.i below])),(3,.pv (.ref [.i item])),(4,.pv (.ref [.i day])),(12,.pv (.aF false 1 (b.nums.map aO))),(13,.pv (.i b.nums.length)),(14,.pv (.i k))],laid 0 (C.X c')⟩)
  ⟨b.nums.length,⟨[(0,.nQ (.par 0)),(1,.ptr (.par j0) 0),(2,.pv (.ref [.i below])),(3,.pv (.ref [.i item])),(4,.pv (.ref [.i day])),(12,.pv (.aF false 1 (b.nums.map aO))),(13,.pv (.i b.nums.length)),(14,.pv (.i 0))],laid 0 (C.X c)⟩,Sub.mk (by simp) (Iu OZ),0,c,gW _,rfl,by simp[Bk.X4,lV,Cons.run],hc,rfl⟩ ?_
 rintro J hJ n τ ⟨k,c',hk,rfl,dG,zT,rfl⟩;have k0:=Ha (h0 c' zT);have kw:=Ha (hW c' zT).w;have km:=Ha (hW c' zT).m;unfold aX at kw;by_cases aI:k<b.nums.length
 .obtain⟨x,hx⟩:∃x,b.nums[k]?=some x:=⟨b.nums[k],bC aI⟩;have xL:=dL hx;have oT:(b.nums.map aO)[k]?=some (.i x):=by rw[bY,hx];rfl
  have hw:=bK (k:=k) (by omega);have aH:b.nums.length-(k+1)<b.nums.length-k:=by omega
  obtain⟨sB,oB⟩:=V8 hb xL;have mK:=lE.f x;rw[if_pos xL]at mK;have T9:=lE.k;have iI:=ZpZ (item:=item) (day:=day) (below:=below) hx;have jR:=xE hb sB;have Z8:=Fb (b.get x) day (by rw[wrap64 (by omega)]);have gB:Bk.qA item day below (b.get x)=true->b.get x∈b.rH item day below:=fun h=>(BG hb).2 ⟨sB,h⟩
  have M0:Bk.qA item day below (b.get x)=false->J (b.nums.length-(k+1)) ⟨[(0,.nQ (.par 0)),(1,.ptr (.par j0) 0),(2,.pv (.ref [.i below])),(3,.pv (.ref [.i item])),(4,.pv (.ref [.i day])),(12,.pv (.aF false 1 (b.nums.map aO))),(13,.pv (.i b.nums.length)),(14,.pv (.i (k+1:Nat)))],laid 0 (C.X c')⟩:=fun h=>by
   rw[if_neg (by simp[h]),xC]at iI;exact hJ _ _ ⟨k+1,c',aI,rfl,by rw[iI];exact dG,zT,rfl⟩
  have hB:Bk.qA item day below (b.get x)=(decide (x<below)&&(decide ((b.get x).it=item)&&(b.get x).on day)):=by unfold Bk.qA;rw[oB]
  generalize b.get x=y at *;obtain⟨yn,yi,ys,yd,yv,⟨yl,yh⟩⟩:=y;simp only at oB;subst oB;unfold Ct.pv at mK Z8;simp only at hB;cases e1:decide (yn<below)
  .rw[e1,Bool.false_and]at hB;simp[-decide_eq_true_eq,-decide_eq_false_iff_not,aI,↓oT,k0,kw,km,T9,mK,gK,e1,hw];exact⟨_,_,aH,Sub.mk (by simp) (Iu (by repeat (first|exact OZ|exact UN|refine YL rfl ?_))),M0 hB⟩
  rw[e1,Bool.true_and]at hB;cases e2:decide (yi=item)
  .rw[e2,Bool.false_and]at hB;simp[-decide_eq_true_eq,-decide_eq_false_iff_not,aI,↓oT,k0,kw,km,T9,mK,gK,e1,e2,hw];exact⟨_,_,aH,Sub.mk (by simp) (Iu (by repeat (first|exact OZ|exact UN|refine YL rfl ?_))),M0 hB⟩
  rw[e2,Bool.true_and]at hB;simp[-decide_eq_true_eq,-decide_eq_false_iff_not,aI,↓oT,k0,kw,km,T9,mK,gK,e1,e2];refine cG [.agg [.i yn,.i yi,.i ys,.i yd,.i yv,.i yl,.i yh],.i day] Z8 ?_;cases e3:Ct.on ⟨yn,yi,ys,yd,yv,⟨yl,yh⟩⟩ day
  .rw[e3]at hB;simp[-decide_eq_true_eq,-decide_eq_false_iff_not,hw];exact⟨_,_,aH,Sub.mk (by simp) (Iu (by repeat (first|exact OZ|exact UN|refine YL rfl ?_))),M0 hB⟩
  rw[e3]at hB;have NG:=hg _ (gB hB);rw[if_pos hB]at iI;simp[-decide_eq_true_eq,-decide_eq_false_iff_not];refine ZlN 41 C.m (C.X c') rfl C.m0 (C.len c') (by repeat (first|exact OZ|exact UN|refine YL rfl ?_)) (C.cl c') rfl (C.sV c' (Ct.pv ⟨yn,yi,ys,yd,yv,⟨yl,yh⟩⟩) zT NG) ?_;rintro r B ⟨rfl,rfl⟩;refine⟨C.X (C.step c' (Ct.pv ⟨yn,yi,ys,yd,yv,⟨yl,yh⟩⟩)).1,rfl,C.len _,C.cl _,rfl,?_⟩;have kG:C.run c (lV (b.X4 item day below (k+1)))=C.step c' (Ct.pv ⟨yn,yi,ys,yd,yv,⟨yl,yh⟩⟩):=by
   rw[iI,lV,mL,Cons.Yt];rw[show List.map Ct.pv (b.X4 item day below k)=lV (b.X4 item day below k) from rfl,dG];exact Cons.ZxJ c' _
  cases hs:(C.step c' (Ct.pv ⟨yn,yi,ys,yd,yv,⟨yl,yh⟩⟩)).2
  .simp;refine Zim (L:=C.X (C.step c' (Ct.pv ⟨yn,yi,ys,yd,yv,⟨yl,yh⟩⟩)).1) rfl rfl (C.len _) (by repeat (first|exact OZ|exact UN|refine YL rfl ?_)) (C.cl _) ?_;rw[<-hR];refine⟨rfl,?_⟩;have eV:C.run c (lV (b.rH item day below))=C.step c' (Ct.pv ⟨yn,yi,ys,yd,yv,⟨yl,yh⟩⟩):=by
    rw[Ztb (k+1),lV,mL,Cons.Yt];rw[show List.map Ct.pv (b.X4 item day below (k+1))=lV (b.X4 item day below (k+1)) from rfl,kG,hs]
   rw[eV]
  .have aB:=hJ _ _ ⟨k+1,(C.step c' (Ct.pv ⟨yn,yi,ys,yd,yv,⟨yl,yh⟩⟩)).1,aI,rfl,by rw[kG];exact Prod.ext rfl hs,C.goes _ _ zT NG hs,rfl⟩;simp[hw];exact⟨_,_,aH,Sub.mk (by simp) (Iu (by repeat (first|exact OZ|exact UN|refine YL rfl ?_))),aB⟩
 .have he:k=b.nums.length:=by omega
  subst he;simp;refine Zim (L:=C.X c') rfl rfl (C.len _) OZ (C.cl _) ?_;rw[<-hR];exact⟨rfl,by rw[Zp0]at dG;rw[dG]⟩
end
end Go.Proofs.YthmbecacehfgfabGreatDoor
