/- The registrar's book: what the statement needs, joined and shortened by program. -/
import Derived.Test.YtfpmaennjlggeaaGreatDoorP0
import Derived.Test.YtfpmaennjlggeaaGreatDoorP1
import Derived.Test.YtfpmaennjlggeaaGreatDoorProg
import Derived.Shelf.Strings.Builder1
import Derived.Shelf.Strings.Builder2
import Derived.Shelf.Strings.OnBuilder
import Derived.Shelf.Small.Bits
import Derived.Shelf.Utf8.RuneCount
import Derived.Shelf.Strconv.Atoi
import Derived.Shelf.Strconv.Itoa0
import Derived.Shelf.Strconv.Itoa1
import Derived.Shelf.LaysM
import Derived.Shelf.Strconv.Itoa2
import Derived.Shelf.Strconv.Itoa3
import Derived.Shelf.Strconv.AtoiErrFast
import Derived.Shelf.Strconv.ParseIntEmpty
import Derived.Shelf.Strconv.AtoiFail
import Derived.Shelf.Strconv.Clone
import Derived.Shelf.Strconv.SyntaxError
import Derived.Shelf.LaysC
import Derived.Shelf.Strconv.ToError
import Derived.Shelf.Strconv.Lower
import Derived.Shelf.Strconv.ParseUint10
import Derived.Shelf.Strconv.ParseUint10Empty
import Derived.Shelf.Strconv.ParseUint10Any
import Derived.Shelf.Strconv.ParseInt10
import Derived.Shelf.Strconv.AtoiLong
import Derived.Shelf.Strconv.AtoiInnerAll
import Derived.Shelf.Strconv.RangeError
import Derived.Shelf.Strconv.ToErrorRange
import Derived.Shelf.Strconv.AtoiAll
import Derived.Shelf.Strconv.ErrVarAll
import Derived.Shelf.Strings.Search1
import Derived.Shelf.Strings.Search2
import Derived.Shelf.Strings.Search3
import Derived.Shelf.Strings.Count
import Derived.Shelf.Strings.Shaped
import Derived.Shelf.Strings.Prefix
import Derived.Shelf.Strings.Split
import Derived.Shelf.Strings.SplitShaped
import Derived.Shelf.Unicode.Decode
import Derived.Shelf.Strings.RuneCount
import Derived.Shelf.Strings.Explode
import Derived.Shelf.Bits.Mul64
import Derived.Shelf.Unicode.DecodeSlow
import Derived.Shelf.Unicode.DecodeAny
import Derived.Shelf.Slices.Reverse
import Derived.Ground.Names2Prog
import Derived.Shelf.Slices.Clone
import Derived.Shelf.Slices.SearchI
import Derived.Shelf.Slices.Cells
import Derived.Shelf.Slices.Empties
import Derived.Ground.SlgnProg
import Derived.Shelf.SlicesE.Clone
import Derived.RecoverIn
import Derived.Shelf.Sort.Plain
set_option linter.unusedSimpArgs false
set_option linter.unusedVariables false
set_option maxHeartbeats 32000000
set_option maxRecDepth 10000
namespace Go.Proofs.YtfpmaennjlggeaaGreatDoor
open Go.RowKit
section
set_option maxRecDepth 100000
noncomputable section
def L15:LFn :=⟨24,S [O 2 (.alloc (.agg [E0,E0,E0,E0,E0])),Pe 3,OM 4 0] (.seq (S [Om 7 0,Ok 8 30 [.t 7],Om 5 8] (S [Om 9 5,Oc 10 .neq 9 0] (Cd 10 (S [O 11 (.build (.agg [E0,E0,E0,E0,E0]) []),Om 12 5,Ns 5 2 11,Pe 3,Om 4 12] .ret) .skip))) (S [Om 14 0,Ok 15 31 [.t 14],Om 13 15,Oe 16 13 0,Oe 17 13 1,Om 6 16,Om 3 17] (S [Om 18 6,Oz 19 18,Oa 20 0 19,Ot 21 5 20,Ok 22 35 [.t 21],Om 23 3,Ns 5 2 22,Om 3 23,OM 4 0] .ret))),[.cell 2 true 5,.tm 3,.tm 4]⟩
def L24:LFn :=⟨88,S [O 2 (.mov (.c (.str ⟨#[]⟩))),OM 3 0] (.seq (S [Om 16 0,Ok 17 30 [.t 16],Om 4 17] (S [Om 18 4,Oc 19 .neq 18 0] (Cd 19 (S [Om 20 4,O 2 (.mov (.c (.str ⟨#[]⟩))),Om 3 20] .ret) .skip))) (S [Om 22 0,Ok 23 31 [.t 22],Om 21 23,Oe 24 21 0,Oe 25 21 1,Om 5 24,Om 6 25] (S [O 7 (.x (.alB 130 5))] (S [O 26 (.mkf 47 [] [.t 7]),Om 8 26] (.seq (S [Om 27 5,Oz 28 27,Oa 29 0 28,Oa 30 2 29,Ol 31 1 30,On 32 31,OM 33 0] (.block 0 (.loop (S [Ob 34 .lss 33 32] (.seq (Ce 34 0) (.seq (.block 1 (S [Oi 35 4 31 33,Ot 36 4 35,O 10 (.alloc (.agg [Z0,Z0,Z0,.bool false])),Ns 4 10 36] (.region [Om 37 8,Om 38 5,Ot 39 4 10,Ok 40 49 [.t 38,.t 39],O 41 (.call (.t 37) [.t 40])]))) (.region [Oc 42 .add 33 1,Om 33 42]))))))) (S [Om 44 5,Ok 45 51 [.t 44],Ok 46 50 [.t 45,.c E0],Om 43 46,Oe 47 43 0,Oe 48 43 1,Om 11 47,Om 12 48] (S [Pm 49 8,Of 50 (.x (.mif 9 (.c (.str ⟨#[99,101,114,116,115]⟩)))),Pm 51 5,Pz 52 51,Pa 53 0 52,Pa 54 0 53,Of 58 (.x (.mif 9 (.c (.str ⟨#[104,101,108,100]⟩)))),Pm 59 11,Of 60 (.len none (.t 59)),Of 61 (.x (.mif 3 (.t 60))),Of 62 (.x (.mif 9 (.c (.str ⟨#[98,97,100]⟩)))),Pm 63 5,Pz 64 63,Pa 65 0 64,Pa 66 1 65,Pl 55 54,Of 56 (.len none (.t 55)),Of 57 (.x (.mif 3 (.t 56))),Pl 67 66,Of 68 (.len none (.t 67)),Of 69 (.x (.mif 3 (.t 68))),O 70 (.bslice 20 1 [.t 50,.t 57,.t 58,.t 61,.t 62,.t 69]),Ok 71 52 [.t 70],O 72 (.call (.t 49) [.t 71])] (S [Om 74 5,Ok 75 53 [.t 74],Ok 76 12 [.t 75],Om 73 76,Oe 77 73 0,Oe 78 73 1,Oe 79 73 2,Om 13 77,Om 14 78,Om 15 79] (S [Om 80 8,O 81 (.x (.mif 9 (.c (.str ⟨#[101,110,100]⟩)))),Om 82 14,O 83 (.x (.mif 3 (.t 82))),O 84 (.bslice 20 1 [.t 81,.t 83]),Ok 85 52 [.t 84],O 86 (.call (.t 80) [.t 85])] (S [Ok 87 54 [.t 7],Om 2 87,OM 3 0] .ret)))))))))),[.tm 2,.tm 3]⟩
def L30:LFn :=⟨13,S [OM 2 0] (S [O 3 (.mov (C 68))] (.seq (S [Om 4 0,On 5 4,Oc 6 .gtr 5 50,Om 7 6,G 8 7 false (M 0),G 9 7 false (M 3),G 10 7 false (.call (C 69) [.t 8,.t 9]),G 11 7 false (.not (.t 10)),Pq 12 7 11] (Cd 12 (S [OM 2 3] .ret) .skip)) (S [OM 2 0] .ret))),[.tm 2]⟩
def L33:LFn :=⟨10,S [Pe 4] (S [Om 5 0,Ok 6 29 [.t 5],Om 7 1,Pb 8 3 1 7,Py 9 3 1 8 6 8,Om 4 9] .ret),[.tm 4]⟩
def L42:LFn :=⟨8,S [Pe 2] (.seq (S [Om 3 0,O 4 (.nilq .sl false (.t 3))] (Cd 4 (S [Pe 2] .ret) .skip)) (S [O 5 (.bslice 47 7 []),Om 6 0,O 7 (.app0 47 7 56 (.t 5) (.t 6)),Om 2 7] .ret)),[.tm 2]⟩
@[simp] def L49a:LT:=.alt (Of 42 (.call (C 95) [.t 41])) (.op (Of 43 (.x (.mif 9 (.t 42)))) .done) .no
def L49:LFn :=⟨62,S [Ox 3 4 1,O 4 (.mov (.c (.str ⟨#[]⟩)))] (S [OM 5 0] (.seq (S [Om 9 0,Oz 10 9,Oa 11 0 10,Oa 12 3 11,Ol 13 1 12,On 14 13,OM 15 0] (.block 0 (.loop (S [Ob 16 .lss 15 14] (.seq (Ce 16 0) (.seq (.block 1 (S [Oi 17 4 13 15,Ot 18 4 17,O 7 (.alloc (.agg [Z0,Z0,Z0,Z0])),Ns 4 7 18] (S [Oa 19 0 7,Ol 20 1 19,Oa 21 0 3,Ol 22 1 21,Ob 23 .eql 20 22,Om 24 23,Pn 25 24 0,G 26 24 true (.load true 4 (.t 7)),G 27 24 true (.call (C 34) [.t 25,.t 26]),Pp 28 24 27] (Cd 28 (.region [Om 29 5,Oc 30 .add 29 1,Om 5 30]) .skip)))) (.region [Oc 31 .add 15 1,Om 15 31]))))))) (.seq (.regT (.op (Of 32 (.x (.mif 9 (.c (.str ⟨#[108,111,116]⟩))))) (.op (Pa 33 0 3) (.op (Of 36 (.x (.mif 9 (.c (.str ⟨#[116,101,115,116,115]⟩))))) (.op (Pm 37 5) (.op (Of 38 (.x (.mif 3 (.t 37)))) (.op (Pm 39 0) (.op (Pt 40 4 3) (.seq (.alt (Pl 34 33) (.op (Of 35 (.x (.mif 3 (.t 34)))) (.alt (Ok 41 93 [.t 39,.t 40]) L49a .no)) (.alt (Ok 41 93 [.t 39,.t 40]) (.op (Pl 34 33) (.op (Of 35 (.x (.mif 3 (.t 34)))) L49a)) .no)) (.alt (O 44 (.bslice 20 1 [.t 32,.t 35,.t 36,.t 38,.t 43])) (.alt (Ok 45 52 [.t 44]) (.op (Om 8 45) .done) .no) .no)))))))))) (.seq (S [Oa 46 3 3,Ol 47 1 46] (Cd 47 (.region [Om 48 8,O 49 (.x (.mif 9 (.t 48))),O 50 (.x (.mif 9 (.c (.str ⟨#[112,97,115,115,101,100]⟩)))),O 51 (.bslice 20 1 [.t 49,.t 50]),Ok 52 52 [.t 51],Om 8 52]) .skip)) (.seq (S [Om 53 0,Ot 54 4 3,Ok 55 46 [.t 53,.t 54]] (Cd 55 (.region [Om 56 8,O 57 (.x (.mif 9 (.t 56))),O 58 (.x (.mif 9 (.c (.str ⟨#[114,101,99,97,108,108,101,100]⟩)))),O 59 (.bslice 20 1 [.t 57,.t 58]),Ok 60 52 [.t 59],Om 8 60]) .skip)) (S [Om 61 8,Om 4 61] .ret)))))),[.tm 4]⟩
def L51:LFn :=⟨15,S [Ox 1 1 0,O 2 (.alloc (.agg [E0,E0]))] (S [Ol 4 1 1,Oz 5 4,Oa 6 0 5,Oa 7 0 6,Ol 8 1 7,Ok 9 42 [.t 8],O 10 (.mkf 98 [] [.t 1]),Ok 11 41 [.t 9,.t 10],Om 3 11] (S [Ok 12 100 [],Om 13 3,O 14 (.build (.agg [E0,E0]) [(0,(1,(.t 12))),(1,(1,(.t 13)))]),Ns 2 2 14] .ret)),[.cell 2 true 2]⟩
def L61:LFn :=⟨5,S [Pf 2] (S [Om 3 0,Ok 4 108 [.t 3,I 0,I 40],Om 2 4] .ret),[.tm 2]⟩
def L64:LFn :=⟨48,S [Pe 4] (.seq (S [Om 9 1,Oc 10 .lss 9 0] (Cd 10 (.region [O 11 (.x (.mif 9 (.c (.str ⟨#[99,97,110,110,111,116,32,98,101,32,110,101,103,97,116,105,118,101]⟩)))),N (.x (.pan (.t 11)))]) .skip)) (S [Om 13 0,On 14 13,O 15 (.conv .u64 (.t 14)),Om 16 1,O 17 (.conv .u64 (.t 16)),Ok 18 113 [.t 15,.t 17],Om 12 18,Oe 19 12 0,Oe 20 12 1,Om 5 19,Om 6 20] (.seq (S [Om 21 5,O 22 (.bin false .gtr (.t 21) (.c (.int .u64 (0)))),Om 23 22,G 24 23 false (M 6),G 25 23 false (.bin false .gtr (.t 24) (.c (.int .u64 (9223372036854775807)))),Pq 26 23 25] (Cd 26 (.region [O 27 (.x (.mif 9 (.c (.str ⟨#[116,104,101,32,114,101,115,117,108,116,32,111,102,32,40,108,101,110,40,120,41,32,42,32,99,111,117,110,116,41,32,111,118,101,114,102,108,111,119,115]⟩)))),N (.x (.pan (.t 27)))]) .skip)) (S [Om 28 6,O 29 (.conv .i64 (.t 28)),O 30 (.mks 3 1 8 Z0 (.t 29) (.t 29)),Om 7 30] (S [Om 31 7,Om 32 0,O 33 (.x (.copy 1 (.t 31) (.t 32))),Om 8 33] (.seq (.block 0 (.loop (.seq (S [Om 34 8,Om 35 7,On 36 35,Ob 37 .lss 34 36] (Ce 37 0)) (.block 1 (.region [Om 38 8,Om 39 7,Om 40 8,O 41 (.slc 1 none (.t 39) (some (.t 40)) none none),Om 42 7,Om 43 8,O 44 (.slc 1 none (.t 42) none (some (.t 43)) none),O 45 (.x (.copy 1 (.t 41) (.t 44))),Ob 46 .add 38 45,Om 8 46]))))) (S [Om 47 7,Om 4 47] .ret))))))),[.tm 4]⟩
def L66:LFn :=⟨42,S [Pe 4] (S [Om 8 0,Om 9 1,Ok 10 114 [.t 8,.t 9],Om 5 10] (.seq (S [Om 11 5,Oc 12 .eql 11 (-1)] (Cd 12 (S [Om 13 0,Om 4 13] .ret) .skip)) (.seq (S [Om 14 5,Oc 15 .add 14 1,Om 6 15] (.block 0 (.loop (.seq (S [Om 16 6,Om 17 0,On 18 17,Ob 19 .lss 16 18] (Ce 19 0)) (.seq (.block 1 (S [Om 22 0,Om 23 6,Oi 24 1 22 23,Ol 25 1 24,Om 7 25] (S [Om 26 1,Om 27 7,O 28 (.call (.t 26) [.t 27]),Oo 29 28] (Cd 29 (S [Om 30 0,Om 31 5,Om 32 7,Oi 33 1 30 31,Ns 1 33 32] (.region [Om 34 5,Oc 35 .add 34 1,Om 5 35])) .skip)))) (.region [Om 20 6,Oc 21 .add 20 1,Om 6 21])))))) (S [Om 36 0,Om 37 5,O 38 (.slc 1 none (.t 36) (some (.t 37)) none none),N (.x (.clear 1 Z0 (.t 38)))] (S [Om 39 0,Om 40 5,O 41 (.slc 1 none (.t 39) none (some (.t 40)) none),Om 4 41] .ret))))),[.tm 4]⟩
def L68:LFn :=⟨6,S [Pf 2] (S [Om 3 0,O 4 (.x (.slen (.t 3))),Oc 5 .leq 4 200,Om 2 5] .ret),[.tm 2]⟩
def L69:LFn :=⟨9,S [Ox 3 1 1,Pf 4] (S [Om 5 0,O 6 (.mkf 119 [] [.t 3]),Ok 7 118 [.t 5,.t 6],Oo 8 7,Om 4 8] .ret),[.tm 4]⟩
def L72:LFn :=⟨8,S [Ox 2 7 0,Pf 3] (S [Oa 4 0 2,Ol 5 1 4,Ol 6 1 1,Ob 7 .eql 5 6,Om 3 7] .ret),[.tm 3]⟩
def L73:LFn :=⟨8,S [Pe 2] (.seq (S [Om 3 0,O 4 (.nilq .sl false (.t 3))] (Cd 4 (S [Pe 2] .ret) .skip)) (S [O 5 (.bslice 4 1 []),Om 6 0,O 7 (.app0 4 1 1 (.t 5) (.t 6)),Om 2 7] .ret)),[.tm 2]⟩
def L81:LFn :=⟨21,S [Ox 1 4 0,Pf 2] (S [Oa 3 0 1,Ol 4 1 3,Ok 5 130 [.t 4,I 0,I 100],Om 6 5,Ph 7 6 2 1,G 8 6 true (.load true 2 (.t 7)),G 9 6 true (.call (C 131) [.t 8]),Pp 10 6 9,Om 11 10,Ph 12 11 1 1,Pg 13 11 12,Pn 14 11 13,G 15 14 false (.fa 2 (.t 1)),G 16 14 false (.load true 2 (.t 15)),G 17 14 false (.build (.agg [Z0,Z0]) []),G 18 14 false (.x (.eqv false ⟨true,[.int .i64,.int .i64]⟩ (.t 16) (.t 17))),G 19 11 true (.pick (.t 14) Bt (.t 18)),Pp 20 11 19,Om 2 20] .ret),[.tm 2]⟩
@[simp] def L86a:LT:=.alt (Of 36 (.call (C 89) [.t 33,.t 35])) .done .no
@[simp] def L86b:LT:=.alt (Pl 23 22) (.alt (Ok 33 88 [.t 26,.t 28,.t 30,.t 32]) L86a .no) (.alt (Ok 33 88 [.t 26,.t 28,.t 30,.t 32]) (.op (Pl 23 22) L86a) .no)
@[simp] def L86c:LT:=.alt (Pl 23 22) (.alt (Pl 25 24) (.alt (Ok 33 88 [.t 26,.t 28,.t 30,.t 32]) L86a .no) (.alt (Ok 33 88 [.t 26,.t 28,.t 30,.t 32]) (.op (Pl 25 24) L86a) .no)) (.alt (Pl 25 24) L86b (.alt (Ok 33 88 [.t 26,.t 28,.t 30,.t 32]) (.op (Pl 23 22) (.op (Pl 25 24) L86a)) .no))
@[simp] def L86d:LT:=.alt (Pl 23 22) (.alt (Ok 33 88 [.t 26,.t 28,.t 30,.t 32]) (.op (Pt 35 2 34) L86a) (.alt (Pt 35 2 34) (.alt (Ok 33 88 [.t 26,.t 28,.t 30,.t 32]) L86a .no) .no)) (.alt (Ok 33 88 [.t 26,.t 28,.t 30,.t 32]) (.op (Pl 23 22) (.op (Pt 35 2 34) L86a)) (.alt (Pt 35 2 34) L86b .no))
@[simp] def L86e:LT:=.alt (Pl 20 2) (.op (Pz 21 20) (.op (Pa 22 2 21) L86b)) (.alt (Ok 33 88 [.t 26,.t 28,.t 30,.t 32]) (.op (Pl 20 2) (.op (Pz 21 20) (.op (Pa 22 2 21) (.op (Pl 23 22) L86a)))) .no)
@[simp] def L86f:LT:=.op (Pl 25 24) (.op (Pt 35 2 34) L86a)
def L86:LFn :=⟨41,.seq (S [Om 6 0,On 7 6,Oc 8 .eql 7 0] (Cd 8 .ret .skip)) (.seq (S [Pm 13 0,Pj 14 1 13 0,Pl 9 1,Pz 10 9,Pa 11 2 10,Pl 12 11,Pl 15 14,Of 16 (.x (.look ⟨false,[.int .i64]⟩ (.agg [Z0,Z0,Z0,Z0,Z0,Z0,Z0]) false (.t 12) (.t 15))),Of 5 (.alloc (.agg [Z0,Z0,Z0,Z0,Z0,Z0,Z0])),Ns 7 5 16] (S [Ol 17 1 2,Ot 18 7 5,Ok 19 87 [.t 17,.t 18]] (Cd 19 (.regT (.op (Pa 24 0 5) (.op (Pa 27 2 5) (.op (Pa 29 3 5) (.op (Pa 31 0 5) (.op (Pa 34 5 5) (.op (Pl 26 2) (.op (Pl 28 27) (.op (Pl 30 29) (.op (Pl 32 31) (.seq (.alt (Pl 20 2) (.op (Pz 21 20) (.op (Pa 22 2 21) (.alt (Pl 23 22) (.alt (Pl 25 24) (.alt (Ok 33 88 [.t 26,.t 28,.t 30,.t 32]) (.op (Pt 35 2 34) L86a) (.alt (Pt 35 2 34) (.alt (Ok 33 88 [.t 26,.t 28,.t 30,.t 32]) L86a .no) .no)) (.alt (Ok 33 88 [.t 26,.t 28,.t 30,.t 32]) L86f (.alt (Pt 35 2 34) (.alt (Pl 25 24) (.alt (Ok 33 88 [.t 26,.t 28,.t 30,.t 32]) L86a .no) (.alt (Ok 33 88 [.t 26,.t 28,.t 30,.t 32]) (.op (Pl 25 24) L86a) .no)) .no))) (.alt (Pl 25 24) L86d (.alt (Ok 33 88 [.t 26,.t 28,.t 30,.t 32]) (.op (Pl 23 22) L86f) (.alt (Pt 35 2 34) L86c .no)))))) (.alt (Pl 25 24) (.alt (Pl 20 2) (.op (Pz 21 20) (.op (Pa 22 2 21) L86d)) (.alt (Ok 33 88 [.t 26,.t 28,.t 30,.t 32]) (.op (Pl 20 2) (.op (Pz 21 20) (.op (Pa 22 2 21) (.op (Pl 23 22) (.op (Pt 35 2 34) L86a))))) (.alt (Pt 35 2 34) L86e .no))) (.alt (Ok 33 88 [.t 26,.t 28,.t 30,.t 32]) (.op (Pl 20 2) (.op (Pz 21 20) (.op (Pa 22 2 21) (.op (Pl 23 22) L86f)))) (.alt (Pt 35 2 34) (.alt (Pl 20 2) (.op (Pz 21 20) (.op (Pa 22 2 21) L86c)) (.alt (Pl 25 24) L86e (.alt (Ok 33 88 [.t 26,.t 28,.t 30,.t 32]) (.op (Pl 20 2) (.op (Pz 21 20) (.op (Pa 22 2 21) (.op (Pl 23 22) (.op (Pl 25 24) L86a))))) .no))) .no)))) (.alt (N (.x (.upd ⟨false,[.int .i64]⟩ (.t 23) (.t 25) (.t 36)))) .done .no)))))))))))) .skip))) (.region [Pm 38 0,Of 39 (.slc 1 none (.t 38) (some (I 1)) none none),Pl 37 3,O 40 (.call (.t 37) [.t 39])])),[]⟩
def L87:LFn :=⟨12,S [Ox 3 7 1,Pf 4] (S [Pm 5 0,Pz 6 5,Pa 7 1 6,Pa 9 0 3,Pl 8 7,Pl 10 9,Of 11 (.x (.look ⟨false,[.int .i64]⟩ (.bool false) false (.t 8) (.t 10))),Om 4 11] .ret),[.tm 4]⟩
def L89:LFn :=⟨28,S [Ox 2 2 0,Ox 3 2 1,O 4 (.alloc (.agg [Z0,Z0]))] (S [O 7 (.build (.agg [.nilfn]) [(0,(1,(C 139)))]),O 8 (.build (.agg [.nilfn]) [(0,(1,(C 140)))]),O 5 (.alloc (.agg [.nilfn])),O 6 (.alloc (.agg [.nilfn])),Ns 1 5 7,Ns 1 6 8] (S [Pa 9 0 5,Pa 13 0 5,Pa 18 0 6,Pa 22 0 6,Pl 10 9,Pt 11 2 2,Pl 14 13,Pt 15 2 3,Pl 19 18,Pt 20 2 2,Pl 23 22,Pt 24 2 3,Of 12 (.call (.t 10) [.t 11]),Of 16 (.call (.t 14) [.t 15]),Of 17 (.bin false .add (.t 12) (.t 16)),Of 21 (.call (.t 19) [.t 20]),O 25 (.call (.t 23) [.t 24]),Ob 26 .add 21 25,O 27 (.build (.agg [Z0,Z0]) [(0,(1,(.t 17))),(1,(1,(.t 26)))]),Ns 2 4 27] .ret)),[.cell 4 true 2]⟩
def L90:LFn :=⟨19,S [OM 4 0] (.seq (S [Om 6 0,On 7 6,OM 8 0] (.block 0 (.loop (S [Ob 9 .lss 8 7] (.seq (Ce 9 0) (.seq (.block 1 (S [Om 10 8,Om 5 10] (S [Om 11 1,Om 12 0,Om 13 5,Oi 14 7 12 13,Ot 15 7 14,O 16 (.call (.t 11) [.t 15])] (Cd 16 (S [Om 17 5,Om 4 17] .ret) .skip)))) (.region [Oc 18 .add 8 1,Om 8 18]))))))) (S [OM 4 (-1)] .ret)),[.tm 4]⟩
def L92:LFn :=⟨15,S [Ox 2 3 0,O 4 (.mov (.c (.int .u8 (0))))] (.seq (.block 0 (S [Om 6 1,Oa 7 1 2,Ol 8 1 7,Ob 9 .leq 6 8,Om 5 9] (Cd 5 (S [O 4 (.mov (.c (.int .u8 (1))))] .ret) (S [Om 11 1,Oa 12 2 2,Ol 13 1 12,Ob 14 .geq 11 13,Om 10 14] (Cd 10 (S [O 4 (.mov (.c (.int .u8 (2))))] .ret) .skip))))) (S [O 4 (.mov (.c (.int .u8 (3))))] .ret)),[.tm 4]⟩
def L95:LFn :=⟨8,S [O 2 (.mov (.c (.str ⟨#[]⟩)))] (.seq (S [Om 3 0] (.block 0 (S [O 5 (.bin false .eql (.t 3) (.c (.int .u8 (1)))),Om 4 5] (Cd 4 (S [O 2 (.mov (.c (.str ⟨#[97,99,99,101,112,116,101,100]⟩)))] .ret) (S [O 7 (.bin false .eql (.t 3) (.c (.int .u8 (2)))),Om 6 7] (Cd 6 (S [O 2 (.mov (.c (.str ⟨#[114,101,106,101,99,116,101,100]⟩)))] .ret) .skip)))))) (S [O 2 (.mov (.c (.str ⟨#[111,112,101,110]⟩)))] .ret)),[.tm 2]⟩
def L97:LFn :=⟨8,S [Pf 3] (S [Ol 4 1 1,Om 5 0,O 6 (.x (.look ⟨false,[.int .i64]⟩ (.bool false) false (.t 4) (.t 5))),Oo 7 6,Om 3 7] .ret),[.tm 3]⟩
def L98:LFn :=⟨12,S [Ox 2 7 0,Pf 3] (S [Pa 9 0 2,Pl 4 1,Pz 5 4,Pa 6 0 5,Pa 7 1 6,Pl 8 7,Pl 10 9,Ok 11 99 [.t 8,.t 10],Om 3 11] .ret),[.tm 3]⟩
def L103:LFn :=⟨4,S [Pe 0] (S [O 1 (.build (.agg [Z0,Z0]) [(0,(1,(I 10))),(1,(1,(I 13)))]),Pb 2 35 2 1,O 3 (.bslice 36 1 [.t 2,.c E0]),Om 0 3] .ret),[.tm 0]⟩
def L105:LFn :=⟨9,S [Pf 4] (S [Om 5 0,Om 6 1,Ok 7 151 [.t 5,.t 6],Oc 8 .geq 7 0,Om 4 8] .ret),[.tm 4]⟩
def L112:LFn :=⟨8,S [Ox 2 3 0,Pf 3] (S [Ol 4 1 1,Ot 5 3 2,O 6 (.call (.t 4) [.t 5]),Oo 7 6,Om 3 7] .ret),[.tm 3]⟩
def L118:LFn :=⟨9,S [Pf 4] (S [Om 5 0,Om 6 1,Ok 7 159 [.t 5,.t 6],Oc 8 .geq 7 0,Om 4 8] .ret),[.tm 4]⟩
def L127:LFn :=⟨36,S [OM 4 0] (.seq (S [Om 9 0,On 10 9,OM 11 0] (.block 0 (.loop (S [Ob 12 .lss 11 10] (.seq (Ce 12 0) (.seq (.block 1 (S [Om 13 11,Oi 14 1 9 11,Ol 15 1 14,Om 5 13,Om 6 15] (.seq (S [Om 16 5,Om 17 1,On 18 17,Ob 19 .geq 16 18] (Cd 19 (S [OM 4 1] .ret) .skip)) (S [Om 20 1,Om 21 5,Oi 22 1 20 21,Ol 23 1 22,Om 7 23] (S [Om 24 6,Om 25 7,Ok 26 164 [.t 24,.t 25],Om 8 26] (S [Om 27 8,Oc 28 .neq 27 0] (Cd 28 (S [Om 29 8,Om 4 29] .ret) .skip))))))) (.region [Oc 30 .add 11 1,Om 11 30]))))))) (.seq (S [Om 31 0,On 32 31,Om 33 1,On 34 33,Ob 35 .lss 32 34] (Cd 35 (S [OM 4 (-1)] .ret) .skip)) (S [OM 4 0] .ret))),[.tm 4]⟩
def L134:LFn :=⟨134,S [O 8 (.mov Bt)] (S [O 9 (.mov Bt)] (.block 0 (.loop (.block 1 (S [Om 19 2,Om 20 1,Ob 21 .sub 19 20,Om 10 21] (.seq (S [Om 22 10,Oc 23 .leq 22 12] (Cd 23 (S [Om 24 0,Om 25 1,Om 26 2,Ok 27 167 [.t 24,.t 25,.t 26]] .ret) .skip)) (.seq (S [Om 28 3,Oc 29 .eql 28 0] (Cd 29 (S [Om 30 0,Om 31 1,Om 32 2,Ok 33 168 [.t 30,.t 31,.t 32]] .ret) .skip)) (.seq (S [Om 34 8,Oo 35 34] (Cd 35 (S [Om 36 0,Om 37 1,Om 38 2,Ok 39 169 [.t 36,.t 37,.t 38]] (.region [Om 40 3,Oc 41 .sub 40 1,Om 3 41])) .skip)) (S [Om 43 0,Om 44 1,Om 45 2,Ok 46 170 [.t 43,.t 44,.t 45],Om 42 46,Oe 47 42 0,Oe 48 42 1,Om 11 47,Om 12 48] (.seq (S [Om 49 12,Oc 50 .eql 49 2] (Cd 50 (S [Om 51 0,Om 52 1,Om 53 2,Ok 54 171 [.t 51,.t 52,.t 53]] (S [Om 55 2,Oc 56 .sub 55 1,Om 57 11,Om 58 1,Ob 59 .sub 57 58,Ob 60 .sub 56 59,Om 11 60] (.region [OM 12 1]))) .skip)) (.seq (S [Om 61 8,Om 62 61,Pn 63 62 9,Pp 64 62 63,Om 65 64,Pn 66 65 12,G 67 65 true (.bin false .eql (.t 66) (I 1)),Pp 68 65 67] (Cd 68 (S [Om 69 0,Om 70 1,Om 71 2,Ok 72 172 [.t 69,.t 70,.t 71]] (Cd 72 .ret .skip)) .skip)) (.seq (S [Pm 73 1,Of 74 (.bin false .gtr (.t 73) (I 0)),Pm 75 74,Gf 76 75 true (M 0),Gf 77 75 true (M 1),Gf 78 75 true (.bin false .sub (.t 77) (I 1)),Gf 79 75 true (.ia 1 none (.t 76) (.t 78)),Gf 81 75 true (M 0),Gf 82 75 true (M 11),Gf 83 75 true (.ia 1 none (.t 81) (.t 82)),Pi 80 75 79,Pi 84 75 83,G 85 75 true (.call (C 173) [.t 80,.t 84]),G 86 75 true (.not (.t 85)),Pp 87 75 86] (Cd 87 (S [Om 88 0,Om 89 1,Om 90 2,Om 91 11,Ok 92 174 [.t 88,.t 89,.t 90,.t 91],Om 13 92] (S [Om 93 13,Om 1 93] (.exit 1))) .skip)) (S [Om 95 0,Om 96 1,Om 97 2,Om 98 11,Ok 99 175 [.t 95,.t 96,.t 97,.t 98],Om 94 99,Oe 100 94 0,Oe 101 94 1,Om 14 100,Om 15 101] (S [Om 102 15,Om 9 102] (S [Om 103 14,Om 104 1,Ob 105 .sub 103 104,Om 106 2,Om 107 14,Ob 108 .sub 106 107,Om 16 105,Om 17 108] (S [Om 109 10,Oc 110 .quo 109 8,Om 18 110] (S [Om 111 16,Om 112 17,Ob 113 .lss 111 112] (Cd 113 (S [Om 114 16,Om 115 18,Ob 116 .geq 114 115,Om 8 116] (S [Om 117 0,Om 118 1,Om 119 14,Om 120 3,Ok 121 134 [.t 117,.t 118,.t 119,.t 120]] (.region [Om 122 14,Oc 123 .add 122 1,Om 1 123]))) (S [Om 124 17,Om 125 18,Ob 126 .geq 124 125,Om 8 126] (S [Om 127 0,Om 128 14,Oc 129 .add 128 1,Om 130 2,Om 131 3,Ok 132 134 [.t 127,.t 129,.t 130,.t 131]] (.region [Om 133 14,Om 2 133]))))))))))))))))))))),[]⟩
def L138:LFn :=⟨11,S [Ox 2 2 0,O 4 (.alloc (.agg [Z0,Z0]))] (S [Ot 5 2 2,Om 6 1,O 7 (.neg (.t 6)),Om 8 1,O 9 (.build (.agg [Z0,Z0]) [(0,(1,(.t 7))),(1,(1,(.t 8)))]),Ok 10 89 [.t 5,.t 9],Ns 2 4 10] .ret),[.cell 4 true 2]⟩
def L140:LFn :=⟨5,S [Ox 1 2 0,OM 2 0] (S [Oa 3 1 1,Ol 4 1 3,Om 2 4] .ret),[.tm 2]⟩
def L143:LFn :=⟨6,S [Ox 1 3 0,Pf 2] (S [Oa 3 0 1,Ol 4 1 3,Oc 5 .geq 4 1,Om 2 5] .ret),[.tm 2]⟩
def L147:LFn :=⟨19,S [OM 4 0] (.seq (S [Om 6 0,On 7 6,OM 8 0] (.block 0 (.loop (S [Ob 9 .lss 8 7] (.seq (Ce 9 0) (.seq (.block 1 (S [Om 10 8,Om 5 10] (S [Om 11 1,Om 12 0,Om 13 5,Oi 14 1 12 13,Ol 15 1 14,Ob 16 .eql 11 15] (Cd 16 (S [Om 17 5,Om 4 17] .ret) .skip)))) (.region [Oc 18 .add 8 1,Om 8 18]))))))) (S [OM 4 (-1)] .ret)),[.tm 4]⟩
def L151:LFn :=⟨19,S [OM 4 0] (.seq (S [Om 6 0,On 7 6,OM 8 0] (.block 0 (.loop (S [Ob 9 .lss 8 7] (.seq (Ce 9 0) (.seq (.block 1 (S [Om 10 8,Om 5 10] (S [Om 11 1,Om 12 0,Om 13 5,Oi 14 2 12 13,Ot 15 2 14,O 16 (.call (.t 11) [.t 15])] (Cd 16 (S [Om 17 5,Om 4 17] .ret) .skip)))) (.region [Oc 18 .add 8 1,Om 8 18]))))))) (S [OM 4 (-1)] .ret)),[.tm 4]⟩
def Y157_0a:LCode :=(.region [Om 5 15])
def Y157_0b:LCode :=(.block 1 (S [Of 20 (.fa 2 (.t 3)),Of 22 (M 5),Of 26 (.fa 0 (.t 3)),Of 16 (.load false 1 (.t 2)),Of 17 (.nilc (.t 16)),Of 18 (.fa 2 (.t 17)),Of 19 (.load false 1 (.t 18)),Of 21 (.load false 1 (.t 20)),Of 23 (.ia 4 none (.t 19) (.t 21)),Of 24 (.ia 1 (some 4) (.t 23) (.t 22)),Of 25 (.load false 1 (.t 24)),Of 27 (.load false 1 (.t 26)),Ob 28 .neq 25 27] (Cd 28 (.region [Ol 29 1 4,Om 30 5,Oa 31 2 3,Ol 32 1 31,O 33 (.build (.agg [Z0,Z0,Z0]) [(0,(1,(I (-1)))),(1,(1,(.t 30))),(2,(1,(.t 32)))]),O 34 (.bslice 197 3 [.t 33]),O 35 (.app 197 3 24 (.t 29) (.t 34)),Ns 1 4 35]) .skip)))
def L157:LFn :=⟨50,S [Ox 2 1 0,Ox 3 3 1,O 4 (.alloc E0)] (.seq (S [Pa 10 0 3,Pa 12 2 3,Pl 6 2,Pz 7 6,Pa 8 0 7,Pt 9 2 8,Pl 11 10,Pl 13 12,Ok 14 185 [.t 9,.t 11,.t 13]] (.block 0 (.rng 50 (.t 14) (rcode Tryz.prog 157 0) Y157_0a Y157_0b [15]))) (.seq (S [Ol 36 1 2,Oa 37 0 3,Ol 38 1 37,Oa 39 2 3,Ol 40 1 39,Ok 41 184 [.t 36,.t 38,.t 40],Oc 42 .neq 41 (-1)] (Cd 42 (.region [Ol 43 1 4,Oa 44 0 3,Ol 45 1 44,O 46 (.build (.agg [Z0,Z0,Z0]) [(0,(1,(.t 45))),(1,(1,(I (-1)))),(2,(1,(I (-1))))]),Pb 47 197 3 46,Py 48 197 3 24 43 47,Ns 1 4 48]) .skip)) (S [Ol 49 1 4,Ns 1 4 49] .ret))),[.cell 4 false 1]⟩
theorem L157_ok:litF Tryz.prog 157=some L157:=by kernel_rfl
def L161:LFn :=⟨9,S [O 0 (.mov (.c .nilmap))] (S [O 1 (.x .mmk),O 2 (.build (.agg [Z0,.nilfn]) [(0,(1,(I 7))),(1,(1,(C 187)))]),N (.x (.upd ⟨false,[.str]⟩ (.t 1) (.c (.str ⟨#[99,101,114,116]⟩)) (.t 2))),O 3 (.build (.agg [Z0,.nilfn]) [(0,(1,(I 1))),(1,(1,(C 188)))]),N (.x (.upd ⟨false,[.str]⟩ (.t 1) (.c (.str ⟨#[98,97,100]⟩)) (.t 3))),O 4 (.build (.agg [Z0,.nilfn]) [(0,(1,(I 3))),(1,(1,(C 189)))]),N (.x (.upd ⟨false,[.str]⟩ (.t 1) (.c (.str ⟨#[108,111,116]⟩)) (.t 4))),O 5 (.build (.agg [Z0,.nilfn]) [(0,(1,(I 4))),(1,(1,(C 190)))]),N (.x (.upd ⟨false,[.str]⟩ (.t 1) (.c (.str ⟨#[116,101,115,116]⟩)) (.t 5))),O 6 (.build (.agg [Z0,.nilfn]) [(0,(1,(I 1))),(1,(1,(C 191)))]),N (.x (.upd ⟨false,[.str]⟩ (.t 1) (.c (.str ⟨#[112,97,115,115]⟩)) (.t 6))),O 7 (.build (.agg [Z0,.nilfn]) [(0,(1,(I 3))),(1,(1,(C 192)))]),N (.x (.upd ⟨false,[.str]⟩ (.t 1) (.c (.str ⟨#[114,117,110]⟩)) (.t 7))),Om 8 1,Om 0 8] .ret),[.tm 0]⟩
def L163:LFn :=⟨26,S [OM 2 0] (S [Om 6 0,Ok 7 193 [.t 6],Om 5 7,Oe 8 5 0,Oe 9 5 1,Om 3 8,Om 4 9] (S [Om 10 4,O 11 (.x (.nif false (.t 10))),Om 12 11,Pn 13 12 3,G 14 12 true (.call (C 101) [.t 13]),Pn 15 12 0,G 16 12 true (.x (.eqv false ⟨false,[.str]⟩ (.t 14) (.t 15))),Pp 17 12 16,Om 18 17,Pn 19 18 0,G 20 18 true (.call (C 194) [.t 19,.c (.str ⟨#[45]⟩)]),G 21 18 true (.x (.slen (.t 20))),G 22 18 true (.bin false .leq (.t 21) (I 9)),Pp 23 18 22,Ok 24 162 [.t 23,I 4]] (S [Om 25 3,Om 2 25] .ret))),[.tm 2]⟩
theorem L163_ok:litF Tryz.prog 163=some L163:=by kernel_rfl
def L167:LFn :=⟨49,S [Om 8 1,Oc 9 .add 8 1,Om 6 9] (.block 0 (.loop (.seq (S [Om 10 6,Om 11 2,Ob 12 .lss 10 11] (Ce 12 0)) (.seq (.block 1 (S [Om 15 6,Om 7 15] (.block 2 (.loop (.seq (S [Pm 16 7,Pm 17 1,Of 18 (.bin false .gtr (.t 16) (.t 17)),Pm 19 18,Gf 20 19 true (M 0),Gf 21 19 true (M 7),Gf 22 19 true (.ia 1 none (.t 20) (.t 21)),Gf 24 19 true (M 0),Gf 25 19 true (M 7),Gf 26 19 true (.bin false .sub (.t 25) (I 1)),Gf 27 19 true (.ia 1 none (.t 24) (.t 26)),Pi 23 19 22,Pi 28 19 27,G 29 19 true (.call (C 173) [.t 23,.t 28]),Pp 30 19 29] (Ce 30 2)) (.seq (.block 3 (.region [Pm 33 0,Pm 34 7,Pm 35 0,Pm 36 7,Of 37 (.bin false .sub (.t 36) (I 1)),Pm 38 0,Pm 39 7,Of 40 (.bin false .sub (.t 39) (I 1)),Of 41 (.ia 1 none (.t 38) (.t 40)),Pm 43 0,Pm 44 7,Of 45 (.ia 1 none (.t 43) (.t 44)),Pl 42 41,Pl 46 45,Oi 47 1 33 34,Ns 1 47 42,Oi 48 1 35 37,Ns 1 48 46])) (.region [Om 31 7,Oc 32 .sub 31 1,Om 7 32]))))))) (.region [Om 13 6,Oc 14 .add 13 1,Om 6 14]))))),[]⟩
def L192:LFn :=⟨68,S [Om 7 1,O 8 (.ia 1 none (.t 7) (I 0)),Ol 9 1 8,Ok 10 219 [.t 9,I 1,I 40],Om 11 10,Pn 12 11 1,G 13 11 true (.ia 1 none (.t 12) (I 1)),Pg 14 11 13,G 15 11 true (.call (C 219) [.t 14,I 0,I 40]),Pp 16 11 15,Om 17 16,Pn 18 17 1,G 19 17 true (.ia 1 none (.t 18) (I 2)),Pg 20 17 19,G 21 17 true (.call (C 219) [.t 20,I 1,I 3]),Pp 22 17 21,Ok 23 162 [.t 22,I 2]] (S [Om 24 0,Oz 25 24,Oa 26 0 25,Oa 27 4 26,Ol 28 1 27,On 29 28,Oc 30 .lss 29 6,Ok 31 162 [.t 30,I 3]] (S [Pm 32 0,Pm 33 0,Pz 34 33,Pa 35 0 34,Pa 36 4 35,Pm 38 1,Pj 39 1 38 0,Pm 41 1,Pj 42 1 41 1,Pm 44 1,Pj 45 1 44 2,Pm 48 1,Pj 49 1 48 2,Pl 37 36,Pl 40 39,Pl 43 42,Pl 46 45,Of 47 (.bin false .neq (.t 46) (I 2)),Pl 50 49,Of 51 (.bin false .neq (.t 50) (I 1)),Of 52 (.bslice 4 1 [.t 47,.t 51]),Of 53 (.build (.agg [Z0,Z0,E0]) [(0,(1,(.t 40))),(1,(1,(.t 43))),(2,(1,(.t 52)))]),Ok 54 223 [.t 37,.t 53],Oz 55 32,Oa 56 0 55,Oa 57 4 56,Ns 1 57 54] (S [Om 59 0,Ok 60 53 [.t 59],Ok 61 12 [.t 60],Om 58 61,Oe 62 58 0,Oe 63 58 1,Oe 64 58 2,Om 4 62,Om 5 63,Om 6 64] (.region [Om 65 6,Oc 66 .eql 65 0,Ok 67 162 [.t 66,I 9]])))),[]⟩
def L222:LFn :=⟨10,S [Ox 3 4 1,Pe 4] (.seq (.regT (.op (Pm 5 0) (.op (Pt 7 4 3) (.seq (.alt (Of 6 (.call (C 75) [.t 5])) (.alt (Pb 8 58 4 7) .done .no) (.alt (Pb 8 58 4 7) (.alt (Of 6 (.call (C 75) [.t 5])) .done .no) .no)) (.alt (Py 9 58 4 32 6 8) (.op (Om 4 9) .done) .no))))) .ret),[.tm 4]⟩
end
end
section
set_option maxRecDepth 100000
noncomputable section
def L8:LFn :=⟨23,S [Pf 2] (.seq (S [OM 3 0] (.block 0 (.loop (.seq (S [Om 4 3,Om 5 0,On 6 5,Ob 7 .lss 4 6,Om 8 7,Pn 9 8 3,G 10 8 true (.bin false .lss (.t 9) (I 56)),Pp 11 8 10] (Ce 11 0)) (.seq (.block 1 (S [Om 14 0,Om 15 3,Oi 16 1 14 15,Ol 17 1 16,O 18 (.x (.slen (.t 17))),Oc 19 .gtr 18 210] (Cd 19 (S [Pf 2] .ret) .skip))) (.region [Om 12 3,Oc 13 .add 12 1,Om 3 13])))))) (S [Om 20 0,On 21 20,Oc 22 .leq 21 55,Om 2 22] .ret)),[.tm 2]⟩
def L10:LFn :=⟨108,S [Pf 0] (S [Ok 11 23 [],O 12 (.bslice 9 1 [.c (.str ⟨#[116,101,115,116,32,55,32,51,32,50,48,32,54,48,48]⟩),.c (.str ⟨#[98,97,100,32,49]⟩),.c (.str ⟨#[116,101,115,116,32,55,32,50,32,50,48,32,54,48,48]⟩)]),Py 13 9 1 16 11 12,Ok 14 15 [.t 13],Om 10 14,Oe 15 10 0,Oe 16 10 1,Oe 17 10 2,O 1 (.alloc (.agg [E0,E0,E0,E0,E0])),Ns 5 1 15,Om 2 16,Om 3 17] (S [Ok 19 23 [],Ok 20 13 [.t 19,I 1],Om 18 20,Oe 21 18 0,Oe 22 18 1,Om 4 21,Om 5 22] (S [Ok 24 23 [],Ok 25 24 [.t 24],Om 23 25,Oe 26 23 0,Oe 27 23 1,Om 6 26,Om 7 27] (S [O 29 (.bslice 9 1 [.c (.str ⟨#[97]⟩)]),Ok 30 25 [.t 29],Om 28 30,Oe 31 28 0,Oe 32 28 1,Om 8 31,Om 9 32] (S [Om 33 3,Oc 34 .eql 33 0,Om 35 34,Pn 36 35 2,G 37 35 true (.len none (.t 36)),G 38 35 true (.bin false .eql (.t 37) (I 7)),Pp 39 35 38,Om 40 39,Pn 41 40 2,G 42 40 true (.ia 1 none (.t 41) (I 0)),Pg 43 40 42,G 44 40 true (.bin false .eql (.t 43) (I 0)),Pp 45 40 44,Om 46 45,Pn 47 46 2,G 48 46 true (.ia 1 none (.t 47) (I 1)),Pg 49 46 48,G 50 46 true (.bin false .eql (.t 49) (I 0)),Pp 51 46 50,Om 52 51,Pn 53 52 2,G 54 52 true (.ia 1 none (.t 53) (I 2)),Pg 55 52 54,G 56 52 true (.bin false .eql (.t 55) (I 0)),Pp 57 52 56,Om 58 57,Pn 59 58 2,G 60 58 true (.ia 1 none (.t 59) (I 3)),Pg 61 58 60,G 62 58 true (.bin false .eql (.t 61) (I 0)),Pp 63 58 62,Om 64 63,Pn 65 64 2,G 66 64 true (.ia 1 none (.t 65) (I 4)),Pg 67 64 66,G 68 64 true (.bin false .eql (.t 67) (I 10)),Pp 69 64 68,Om 70 69,Pn 71 70 2,G 72 70 true (.ia 1 none (.t 71) (I 5)),Pg 73 70 72,G 74 70 true (.bin false .eql (.t 73) (I 0)),Pp 75 70 74,Om 76 75,Pn 77 76 2,G 78 76 true (.ia 1 none (.t 77) (I 6)),Pg 79 76 78,G 80 76 true (.bin false .eql (.t 79) (I 10)),Pp 81 76 80,Om 82 81,Pn 83 82 5,G 84 82 true (.bin false .eql (.t 83) (I 0)),Pp 85 82 84,Om 86 85,Pn 87 86 4,G 88 86 true (.bslice 3 1 [I 0,I 1]),G 89 86 true (.call (C 26) [.t 87,.t 88]),Pp 90 86 89,Om 91 90,Pn 92 91 7,G 93 91 true (.bin false .eql (.t 92) (I 0)),Pp 94 91 93,Om 95 94,Pn 96 95 6,G 97 95 true (.x (.eqv false ⟨false,[.str]⟩ (.t 96) (.c (.str ⟨#[108,111,116,32,55,32,116,101,115,116,115,32,50,32,111,112,101,110,10,99,101,114,116,115,32,49,32,104,101,108,100,32,49,32,98,97,100,32,48,10,101,110,100,32,48,10]⟩)))),Pp 98 95 97,Om 99 98,Pn 100 99 9,G 101 99 true (.bin false .eql (.t 100) (I 0)),Pp 102 99 101,Om 103 102,Pn 104 103 8,G 105 103 true (.x (.sof (.t 104))),G 106 103 true (.x (.eqv false ⟨false,[.str]⟩ (.t 105) (.c (.str ⟨#[123,48,48,49,58,57,57,56,58,48,48,49,48,57,125,97,10]⟩)))),Pp 107 103 106,Om 0 107] .ret))))),[.tm 0]⟩
def L14:LFn :=⟨6,S [Pe 2] (S [O 3 (.bslice 9 1 []),Om 4 0,O 5 (.app0 9 1 16 (.t 3) (.t 4)),Om 2 5] .ret),[.tm 2]⟩
def L19:LFn :=⟨57,S [Ox 1 2 0,Pe 2,OM 3 0] (S [Ot 13 2 1,Ok 14 38 [.t 13],Om 12 14,Oe 15 12 0,Oe 16 12 1,Om 4 15,Om 5 16] (.seq (.block 0 (S [Om 18 5,Oc 19 .neq 18 0,Om 17 19] (Cd 17 (S [Om 20 5,Pe 2,Om 3 20] .ret) (S [Om 22 4,Ok 23 39 [.t 22],Ok 24 40 [.t 23],Oo 25 24,Om 21 25] (Cd 21 (S [Pe 2,OM 3 7] .ret) .skip))))) (S [Pe 6] (.seq (S [Om 26 4,Oz 27 26,Oa 28 3 27,Ol 29 1 28,On 30 29,OM 31 0] (.block 1 (.loop (S [Ob 32 .lss 31 30] (.seq (Ce 32 1) (.seq (.block 2 (S [Oi 33 1 29 31,Ol 34 1 33,O 8 (.alloc Z0),Ns 1 8 34] (S [Ot 35 2 1,O 9 (.alloc (.agg [E0,E0])),Ns 2 9 35] (S [Oa 36 1 1,Ol 37 1 36,Ok 38 42 [.t 37],O 39 (.mkf 43 [] [.t 8]),Ok 40 41 [.t 38,.t 39],Oa 41 1 9,Ns 1 41 40] (S [Ot 43 2 9,Ok 44 38 [.t 43],Om 42 44,Oe 45 42 0,Oe 46 42 1,Om 10 45,Om 11 46] (S [Om 47 10,Ok 48 39 [.t 47],Ok 49 40 [.t 48],Oo 50 49] (Cd 50 (.region [Om 51 6,Ol 52 1 8,Pb 53 3 1 52,Py 54 3 1 8 51 53,Om 6 54]) .skip))))))) (.region [Oc 55 .add 31 1,Om 31 55]))))))) (S [Om 56 6,Om 2 56,OM 3 0] .ret))))),[.tm 2,.tm 3]⟩
def L23:LFn :=⟨2,S [Pe 0] (S [O 1 (.bslice 9 1 [.c (.str ⟨#[99,101,114,116,32,49,32,50,32,48,32,49,48,32,49,48,48,32,45,49,32,49]⟩),.c (.str ⟨#[108,111,116,32,55,32,56,32,53,48,48]⟩),.c (.str ⟨#[116,101,115,116,32,55,32,50,32,50,48,32,53,49,49]⟩),.c (.str ⟨#[116,101,115,116,32,55,32,50,32,50,48,32,53,49,48]⟩)]),Om 0 1] .ret),[.tm 0]⟩
def L25:LFn :=⟨12,S [Pe 2,OM 3 0] (.seq (S [Om 5 0,Ok 6 30 [.t 5],Om 4 6] (S [Om 7 4,Oc 8 .neq 7 0] (Cd 8 (S [Om 9 4,Pe 2,Om 3 9] .ret) .skip))) (S [Om 10 0,Ok 11 55 [.t 10],Om 2 11,OM 3 0] .ret)),[.tm 2,.tm 3]⟩
def L26:LFn :=⟨26,S [Pf 4] (.seq (S [Om 6 0,On 7 6,Om 8 1,On 9 8,Ob 10 .neq 7 9] (Cd 10 (S [Pf 4] .ret) .skip)) (.seq (S [OM 5 0] (.block 0 (.loop (.seq (S [Om 11 5,Om 12 0,On 13 12,Ob 14 .lss 11 13] (Ce 14 0)) (.seq (.block 1 (S [Pm 17 0,Pm 18 5,Of 19 (.ia 1 none (.t 17) (.t 18)),Pm 21 1,Pm 22 5,Of 23 (.ia 1 none (.t 21) (.t 22)),Pl 20 19,Pl 24 23,Ob 25 .neq 20 24] (Cd 25 (S [Pf 4] .ret) .skip))) (.region [Om 15 5,Oc 16 .add 15 1,Om 5 16])))))) (S [O 4 (.mov Bt)] .ret))),[.tm 4]⟩
def L27:LFn :=⟨38,S [Ox 1 2 0,OM 2 0] (S [O 3 (.mov (C 56))] (S [O 4 (.mov (C 57))] (S [O 6 (.mkf 60 [] [.t 1]),Om 5 6] (.seq (.block 0 (S [Oa 8 0 1,Ol 9 1 8,On 10 9,Oc 11 .gtr 10 4,Om 12 11,G 13 12 false (.fa 1 (.t 1)),G 14 12 false (.load false 1 (.t 13)),G 15 12 false (.len none (.t 14)),G 16 12 false (.bin false .gtr (.t 15) (I 6)),Pq 17 12 16,Om 18 17,G 19 18 false (.fa 0 (.t 1)),G 20 18 false (.load false 1 (.t 19)),G 21 18 false (M 3),G 22 18 false (.call (C 62) [.t 20,.t 21]),G 23 18 false (.not (.t 22)),Pq 24 18 23,Om 7 24] (Cd 7 (S [OM 2 3] .ret) (S [Oa 26 0 1,Ol 27 1 26,Om 28 4,Ok 29 62 [.t 27,.t 28],Oo 30 29,Om 31 30,G 32 31 false (.fa 1 (.t 1)),G 33 31 false (.load false 1 (.t 32)),G 34 31 false (M 5),G 35 31 false (.call (C 63) [.t 33,.t 34]),G 36 31 false (.not (.t 35)),Pq 37 31 36,Om 25 37] (Cd 25 (S [OM 2 1] .ret) .skip))))) (S [OM 2 0] .ret))))),[.tm 2]⟩
def L29:LFn :=⟨8,S [Pe 2] (.seq (S [Om 3 0,O 4 (.nilq .sl false (.t 3))] (Cd 4 (S [Pe 2] .ret) .skip)) (S [O 5 (.bslice 3 1 []),Om 6 0,O 7 (.app0 3 1 8 (.t 5) (.t 6)),Om 2 7] .ret)),[.tm 2]⟩
def L31:LFn :=⟨25,S [O 2 (.mov (.c .nilp)),Pe 3] (S [O 8 (.build (.agg [E0,E0,E0,E0,E0]) []),Ox 9 5 8,Om 4 9] (S [Pe 5] (.seq (S [Om 10 0,On 11 10,OM 12 0] (.block 0 (.loop (S [Ob 13 .lss 12 11] (.seq (Ce 13 0) (.seq (.block 1 (S [Oi 14 1 10 12,Ol 15 1 14,Om 7 15] (.region [Om 16 5,Om 17 4,Om 18 7,Ok 19 70 [.t 17,.t 18],Pb 20 39 1 19,Py 21 39 1 8 16 20,Om 5 21]))) (.region [Oc 22 .add 12 1,Om 12 22]))))))) (S [Om 23 4,Om 24 5,Om 2 23,Om 3 24] .ret)))),[.tm 2,.tm 3]⟩
def L32:LFn :=⟨12,S [Ox 3 1 1,Pf 4] (S [Om 5 0,Oz 6 5,Oa 7 0 6,Oa 8 0 7,Ol 9 1 8,O 10 (.mkf 72 [] [.t 3]),Ok 11 71 [.t 9,.t 10],Om 4 11] .ret),[.tm 4]⟩
def L34:LFn :=⟨19,S [Ox 3 4 1,Pf 4] (.seq (.regT (.op (Pm 8 0) (.op (Pa 10 1 3) (.op (Pa 12 2 3) (.seq (.alt (Ok 9 51 [.t 8]) (.op (Pl 11 10) (.op (Pl 13 12) .done)) (.alt (Pl 11 10) (.alt (Ok 9 51 [.t 8]) (.op (Pl 13 12) .done) (.alt (Pl 13 12) (.alt (Ok 9 51 [.t 8]) .done .no) .no)) (.alt (Pl 13 12) (.alt (Ok 9 51 [.t 8]) (.op (Pl 11 10) .done) (.alt (Pl 11 10) (.alt (Ok 9 51 [.t 8]) .done .no) .no)) .no))) (.alt (Ok 14 36 [.t 9,.t 11,.t 13]) (.op (Om 7 14) (.op (Oe 15 7 0) (.op (Oe 16 7 1) (.op (Om 5 15) (.op (Om 6 16) .done))))) .no)))))) (S [Om 17 6,Oc 18 .eql 17 0,Om 4 18] .ret)),[.tm 4]⟩
def L35:LFn :=⟨39,S [Ox 1 5 0,O 2 (.alloc (.agg [E0,E0,E0,E0,E0]))] (S [Pe 3] (.seq (S [Oa 6 4 1,Ol 7 1 6,On 8 7,OM 9 0] (.block 0 (.loop (S [Ob 10 .lss 9 8] (.seq (Ce 10 0) (.seq (.block 1 (S [Oi 11 3 7 9,Ot 12 3 11,O 5 (.alloc (.agg [Z0,Z0,E0])),Ns 3 5 12] (.region [Pm 13 3,Pa 14 0 5,Pa 16 1 5,Pa 18 2 5,Pl 15 14,Pl 17 16,Pl 19 18,Of 20 (.call (C 73) [.t 19]),O 21 (.build (.agg [Z0,Z0,E0]) [(0,(1,(.t 15))),(1,(1,(.t 17))),(2,(1,(.t 20)))]),Pb 22 147 3 21,Py 23 147 3 40 13 22,Om 3 23]))) (.region [Oc 24 .add 9 1,Om 9 24]))))))) (S [Pa 25 0 1,Pa 28 1 1,Pa 31 2 1,Pa 34 3 1,Pm 37 3,Pl 26 25,Pl 29 28,Pl 32 31,Pl 35 34,Of 27 (.call (C 42) [.t 26]),Of 30 (.call (C 29) [.t 29]),Of 33 (.call (C 74) [.t 32]),Ok 36 75 [.t 35],O 38 (.build (.agg [E0,E0,E0,E0,E0]) [(0,(1,(.t 27))),(1,(1,(.t 30))),(2,(1,(.t 33))),(3,(1,(.t 36))),(4,(1,(.t 37)))]),Ns 5 2 38] .ret))),[.cell 2 true 5]⟩
def L45:LFn :=⟨71,S [Ox 2 2 0,O 4 (.mov (.c (.int .u8 (0)))),OM 5 0,OM 6 0] (.seq (S [Ot 14 2 2,Ok 15 91 [.t 14],Om 7 15] (S [Om 16 7,Oc 17 .neq 16 0] (Cd 17 (S [Om 18 7,O 4 (.mov (.c (.int .u8 (0)))),OM 5 0,Om 6 18] .ret) .skip))) (S [OM 8 0,OM 9 0] (.seq .skip (.seq (S [Oa 19 1 2,Ol 20 1 19,On 21 20,OM 22 0] (.block 0 (.loop (S [Ob 23 .lss 22 21] (.seq (Ce 23 0) (.seq (.block 1 (S [Oi 24 3 20 22,Ot 25 3 24,O 11 (.alloc (.agg [Z0,Z0,Z0])),Ns 3 11 25] (.seq (S [Om 26 1,On 27 26,Om 28 8,Oa 29 0 11,Ol 30 1 29,Ob 31 .add 28 30,Ob 32 .lss 27 31] (Cd 32 (S [Pm 33 8,Pa 34 0 11,Pm 37 1,Of 38 (.len none (.t 37)),Of 4 (.mov (.c (.int .u8 (3)))),Pl 35 34,Ob 36 .add 33 35,Ob 39 .sub 36 38,Om 5 39,OM 6 0] .ret) .skip)) (.seq (S [Om 40 1,Om 41 8,Om 42 8,Oa 43 0 11,Ol 44 1 43,Ob 45 .add 42 44,O 46 (.slc 1 none (.t 40) (some (.t 41)) (some (.t 45)) none),On 47 46,OM 48 0] (.block 2 (.loop (S [Ob 49 .lss 48 47] (.seq (Ce 49 2) (.seq (.block 3 (S [Oi 50 1 46 48,Ol 51 1 50,Om 13 51] (S [Om 52 13] (Cd 52 (.region [Om 53 9,Oc 54 .add 53 1,Om 9 54]) .skip)))) (.region [Oc 55 .add 48 1,Om 48 55]))))))) (S [Om 56 8,Oa 57 0 11,Ol 58 1 57,Ob 59 .add 56 58,Om 8 59] (S [Ot 60 3 11,Om 61 9,Ok 62 92 [.t 60,.t 61],Om 4 62] (S [Om 63 4,O 64 (.bin false .neq (.t 63) (.c (.int .u8 (3))))] (Cd 64 (.exit 0) .skip)))))))) (.region [Oc 65 .add 22 1,Om 22 65]))))))) (.seq (S [Om 66 1,On 67 66,Om 68 8,Ob 69 .gtr 67 68] (Cd 69 (S [O 4 (.mov (.c (.int .u8 (0)))),OM 5 0,OM 6 2] .ret) .skip)) (S [Om 70 4,Om 4 70,OM 5 0,OM 6 0] .ret)))))),[.tm 4,.tm 5,.tm 6]⟩
def L46:LFn :=⟨13,S [Ox 3 4 1,Pf 4] (S [Oa 5 3 3,Ol 6 1 5,Om 7 6,Pn 8 7 0,G 9 7 true (.load true 4 (.t 3)),G 10 7 true (.call (C 93) [.t 8,.t 9]),G 11 7 true (.bin false .neq (.t 10) (.c (.int .u8 (1)))),Pp 12 7 11,Om 4 12] .ret),[.tm 4]⟩
def L53:LFn :=⟨10,S [O 2 (.alloc (.agg [E0,E0]))] (S [Pm 4 0,Pz 5 4,Pa 6 0 5,Pa 7 4 6,Pl 8 7,Of 3 (.call (C 103) []),O 9 (.build (.agg [E0,E0]) [(0,(1,(.t 3))),(1,(1,(.t 8)))]),Ns 2 2 9] .ret),[.cell 2 true 2]⟩
def L58:LFn :=⟨9,S [Ox 3 1 1,Pf 4] (S [Om 5 0,O 6 (.mkf 106 [] [.t 3]),Ok 7 105 [.t 5,.t 6],Oo 8 7,Om 4 8] .ret),[.tm 4]⟩
def L60:LFn :=⟨21,S [Ox 2 3 0,Pf 3] (S [Oa 4 0 2,Ol 5 1 4,Ok 6 61 [.t 5],Om 7 6,Ph 8 7 1 2,Pg 9 7 8,G 10 7 true (.call (C 61) [.t 9]),Pp 11 7 10,Om 12 11,Ph 13 12 2 2,Pg 14 12 13,G 15 12 true (.len none (.t 14)),Ph 16 12 0 1,Pg 17 12 16,G 18 12 true (.len none (.t 17)),G 19 12 true (.bin false .eql (.t 15) (.t 18)),Pp 20 12 19,Om 3 20] .ret),[.tm 3]⟩
def L65:LFn :=⟨9,S [O 0 (.alloc (.agg [Z0,Z0,Z0,Z0]))] (.seq (S [OM 2 0] (.block 0 (.loop (S [Oc 3 .lss 2 4] (.seq (Ce 3 0) (.seq (.block 1 (S [Om 4 2,Om 1 4] (.region [Om 5 1,O 6 (.ia 1 (some 4) (.t 0) (.t 5)),N (.store 1 (.t 6) (I (-1)))]))) (.region [Oc 7 .add 2 1,Om 2 7]))))))) (S [Ot 8 4 0,Ns 4 0 8] .ret)),[.cell 0 true 4]⟩
def L71:LFn :=⟨9,S [Pf 4] (S [Om 5 0,Om 6 1,Ok 7 90 [.t 5,.t 6],Oc 8 .geq 7 0,Om 4 8] .ret),[.tm 4]⟩
def L80:LFn :=⟨9,S [Ox 3 1 1,Pf 4] (S [Om 5 0,O 6 (.mkf 129 [] [.t 3]),Ok 7 128 [.t 5,.t 6],Oo 8 7,Om 4 8] .ret),[.tm 4]⟩
def L83:LFn :=⟨52,S [Ox 2 2 0,Ox 3 7 1,Pf 4] (S [Oa 5 0 3,Ol 6 1 5,Ok 7 133 [.t 6],Om 8 7,G 9 8 true (.load true 2 (.t 2)),Ph 10 8 1 3,Pg 11 8 10,G 12 8 true (.call (C 122) [.t 9,.t 11]),Pp 13 8 12,Om 14 13,Ph 15 14 0 2,Pg 16 14 15,Ph 17 14 1 3,Pg 18 14 17,G 19 14 true (.ia 4 none (.t 16) (.t 18)),Ph 20 14 1 19,Pg 21 14 20,G 22 14 true (.not (.t 21)),Pp 23 14 22,Om 24 23,G 25 24 true (.load true 2 (.t 2)),Ph 26 24 2 3,Pg 27 24 26,G 28 24 true (.call (C 122) [.t 25,.t 27]),Pp 29 24 28,Om 30 29,Ph 31 30 2 3,Pg 32 30 31,Ph 33 30 1 3,Pg 34 30 33,G 35 30 true (.bin false .neq (.t 32) (.t 34)),Pp 36 30 35,Om 37 36,Ph 38 37 3 3,Pg 39 37 38,G 40 37 true (.call (C 123) [.t 39]),Pp 41 37 40,Om 42 41,Ph 43 42 4 3,Pg 44 42 43,G 45 42 true (.call (C 123) [.t 44]),Pp 46 42 45,Om 47 46,Ph 48 47 5 3,G 49 47 true (.load true 2 (.t 48)),G 50 47 true (.call (C 131) [.t 49]),Pp 51 47 50,Om 4 51] .ret),[.tm 4]⟩
def Y85_0a:LCode :=(.region [O 8 (.alloc (.agg [Z0,Z0,Z0,Z0,Z0,Z0,Z0])),Ns 7 8 42])
def Y85_0b:LCode :=(.block 3 (.region [Ol 43 1 7,Om 44 43,G 45 44 false (.load false 1 (.t 3)),G 46 44 false (.fa 0 (.t 8)),G 47 44 false (.load false 1 (.t 46)),G 48 44 false (.x (.look ⟨false,[.int .i64]⟩ (.bool false) false (.t 45) (.t 47))),O 49 (.pick (.t 44) Bt (.t 48)),Ns 1 7 49]))
def L85:LFn :=⟨64,S [O 2 (.mov (.c .nilmap))] (S [O 9 (.x .mmk),O 3 (.alloc .nilmap),Ns 1 3 9] (.seq (S [Om 10 0,Oz 11 10,Oa 12 3 11,Ol 13 1 12,On 14 13,OM 15 0] (.block 0 (.loop (S [Ob 16 .lss 15 14] (.seq (Ce 16 0) (.seq (.block 1 (S [Oi 17 1 13 15,Ol 18 1 17,Om 5 18] (S [Om 19 0,Oz 20 19,Oa 21 2 20,Ol 22 1 21,Om 23 5,O 24 (.x (.look ⟨false,[.int .i64]⟩ (.agg [Z0,Z0,Z0,Z0,Z0,Z0,Z0]) false (.t 22) (.t 23))),O 6 (.alloc (.agg [Z0,Z0,Z0,Z0,Z0,Z0,Z0])),Ns 7 6 24] (S [Pm 25 0,Pz 26 25,Pa 27 0 26,Pa 28 0 27,Pa 30 2 6,Pl 29 28,Pl 31 30,Of 32 (.ia 4 none (.t 29) (.t 31)),Pa 33 1 32,Pl 34 33,Of 7 (.alloc (.bool false)),Ns 1 7 34] (.seq (S [Om 35 0,Oa 36 2 6,Ol 37 1 36,Oa 38 3 6,Ol 39 1 38,Om 40 5,Ok 41 78 [.t 35,.t 37,.t 39,.t 40]] (.block 2 (.rng 64 (.t 41) (rcode Tryz.prog 85 0) Y85_0a Y85_0b [42]))) (.region [Pm 51 5,Pl 50 3,Pl 52 7,Pm 53 52,Gf 54 53 true (M 0),Gf 55 53 true (M 5),Gf 56 53 true (.nilc (.t 54)),Gf 57 53 true (.fa 4 (.t 56)),Gf 58 53 true (.ia 1 (some 1000) (.t 57) (.t 55)),Pi 59 53 58,Gf 60 53 true (.not (.t 59)),Of 61 (.pick (.t 53) (.t 60) Bf),N (.x (.upd ⟨false,[.int .i64]⟩ (.t 50) (.t 51) (.t 61)))])))))) (.region [Oc 62 .add 15 1,Om 15 62]))))))) (S [Ol 63 1 3,Om 2 63] .ret))),[.tm 2]⟩
theorem L85_ok:litF Tryz.prog 85=some L85:=by kernel_rfl
def Y88_0a:LCode :=(.region [O 11 (.alloc (.agg [Z0,Z0,Z0,Z0,Z0,Z0,Z0])),Ns 7 11 47])
def Y88_0b:LCode :=(.block 1 (S [Ol 48 1 9,Ot 49 7 11,O 50 (.call (.t 48) [.t 49])] (Cd 50 (.region [Of 56 (.fa 0 (.t 11)),Of 72 (.fa 3 (.t 11)),Of 51 (.load true 2 (.t 10)),Of 52 (.load false 1 (.t 4)),Of 53 (.nilc (.t 52)),Of 54 (.fa 2 (.t 53)),Of 55 (.load false 1 (.t 54)),Of 57 (.load false 1 (.t 56)),Of 58 (.x (.look ⟨false,[.int .i64]⟩ (.agg [Z0,Z0]) false (.t 55) (.t 57))),Of 59 (.load false 1 (.t 4)),Of 60 (.nilc (.t 59)),Of 61 (.fa 0 (.t 60)),Of 62 (.load false 1 (.t 61)),Of 63 (.nilc (.t 62)),Of 64 (.fa 0 (.t 63)),Of 65 (.fa 0 (.t 64)),Of 66 (.load false 1 (.t 65)),Of 67 (.load false 1 (.t 5)),Of 68 (.ia 4 none (.t 66) (.t 67)),Of 69 (.fa 0 (.t 68)),Of 70 (.load false 1 (.t 69)),Of 71 (.load false 1 (.t 6)),Of 73 (.load false 1 (.t 72)),Of 74 (.bin false .sub (.t 71) (.t 73)),Of 75 (.bin false .mul (.t 70) (.t 74)),Of 76 (.call (C 138) [.t 58,.t 75]),Ok 77 137 [.t 51,.t 76],Ns 2 10 77]) .skip)))
def L88:LFn :=⟨79,S [Ox 4 1 0,Ox 5 1 1,Ox 6 1 2,O 8 (.alloc (.agg [Z0,Z0]))] (.seq (S [Pl 12 4,Pz 13 12,Pa 14 0 13,Pl 15 14,Pz 16 15,Pa 17 0 16,Pa 18 0 17,Pl 19 18,Pl 20 5,Of 21 (.ia 4 none (.t 19) (.t 20)),Pa 22 1 21,Pl 23 22] (Cd 23 (S [Pl 24 4,Pz 25 24,Pa 26 0 25,Pl 27 26,Pz 28 27,Pa 29 0 28,Pa 30 0 29,Pl 31 30,Pl 32 5,Of 33 (.ia 4 none (.t 31) (.t 32)),Pa 34 2 33,Pt 35 2 34,Ns 2 8 35] .ret) .skip)) (S [Ol 36 1 4,O 37 (.mkf 87 [.t 36] []),O 9 (.alloc .nilfn),Ns 1 9 37] (S [Ok 38 136 [],O 10 (.alloc (.agg [Z0,Z0])),Ns 2 10 38] (.seq (S [Pm 45 3,Pl 39 4,Pz 40 39,Pa 41 0 40,Pl 42 41,Pl 43 5,Pl 44 6,Ok 46 78 [.t 42,.t 43,.t 44,.t 45]] (.block 0 (.rng 79 (.t 46) (rcode Tryz.prog 88 0) Y88_0a Y88_0b [47]))) (S [Ot 78 2 10,Ns 2 8 78] .ret))))),[.cell 8 true 2]⟩
theorem L88_ok:litF Tryz.prog 88=some L88:=by kernel_rfl
def L91:LFn :=⟨79,S [Ox 1 2 0,OM 2 0] (.seq (.block 0 (S [Oa 8 1 1,Ol 9 1 8,On 10 9,Oc 11 .gtr 10 3,Om 7 11] (Cd 7 (S [OM 2 3] .ret) (S [Oa 13 0 1,Ol 14 1 13,Ok 15 141 [.t 14,I 1,I 30],Oo 16 15,Om 17 16,G 18 17 false (.fa 1 (.t 1)),G 19 17 false (.load false 1 (.t 18)),G 20 17 false (.len none (.t 19)),G 21 17 false (.bin false .eql (.t 20) (I 0)),Pq 22 17 21,Om 23 22,G 24 23 false (.fa 1 (.t 1)),G 25 23 false (.load false 1 (.t 24)),G 26 23 false (.call (C 142) [.t 25,C 143]),G 27 23 false (.not (.t 26)),Pq 28 23 27,Om 12 28] (Cd 12 (S [OM 2 1] .ret) .skip))))) (S [OM 3 0] (S [O 29 (.build (.agg [Z0,Z0,Z0]) [(0,(1,(I 0))),(1,(1,(I (-1)))),(2,(1,(I 0)))]),O 4 (.alloc (.agg [Z0,Z0,Z0])),Ns 3 4 29] (.seq (S [Oa 30 1 1,Ol 31 1 30,On 32 31,OM 33 0] (.block 1 (.loop (S [Ob 34 .lss 33 32] (.seq (Ce 34 1) (.seq (.block 2 (S [Oi 35 3 31 33,Ot 36 3 35,O 6 (.alloc (.agg [Z0,Z0,Z0])),Ns 3 6 36] (.seq (S [Oa 37 0 6,Ol 38 1 37,Oa 39 0 1,Ol 40 1 39,Om 41 3,Ob 42 .sub 40 41,Ob 43 .gtr 38 42] (Cd 43 (S [OM 2 1] .ret) .skip)) (S [Om 44 3,Oa 45 0 6,Ol 46 1 45,Ob 47 .add 44 46,Om 3 47] (.seq (S [Oa 48 1 6,Ol 49 1 48,Oa 50 1 4,Ol 51 1 50,Ob 52 .lss 49 51,Om 53 52,G 54 53 false (.fa 2 (.t 6)),G 55 53 false (.load false 1 (.t 54)),G 56 53 false (.fa 2 (.t 4)),G 57 53 false (.load false 1 (.t 56)),G 58 53 false (.bin false .lss (.t 55) (.t 57)),Pq 59 53 58,Om 60 59,G 61 60 false (.fa 2 (.t 6)),G 62 60 false (.load false 1 (.t 61)),G 63 60 false (.fa 1 (.t 6)),G 64 60 false (.load false 1 (.t 63)),G 65 60 false (.bin false .add (.t 64) (I 1)),G 66 60 false (M 3),G 67 60 false (.bin false .add (.t 66) (I 1)),G 68 60 false (.call (C 141) [.t 62,.t 65,.t 67]),G 69 60 false (.not (.t 68)),Pq 70 60 69] (Cd 70 (S [OM 2 1] .ret) .skip)) (.region [Ot 71 3 6,Ns 3 4 71])))))) (.region [Oc 72 .add 33 1,Om 33 72]))))))) (.seq (S [Oa 73 2 4,Ol 74 1 73,Oa 75 1 4,Ol 76 1 75,Oc 77 .add 76 1,Ob 78 .neq 74 77] (Cd 78 (S [OM 2 1] .ret) .skip)) (S [OM 2 0] .ret)))))),[.tm 2]⟩
def L109:LFn :=⟨9,S [Pf 4] (S [Om 5 0,Om 6 1,Ok 7 152 [.t 5,.t 6],Oc 8 .geq 7 0,Om 4 8] .ret),[.tm 4]⟩
def L116:LFn :=⟨51,S [Ox 4 3 1] (.block 0 (.loop (.seq (S [Pm 8 2,Pt 7 3 4,Pt 9 3 4,Of 10 (.x (.look ⟨true,[.int .i64,.int .i64,.int .i64]⟩ (.agg [Z0,Z0,Z0]) false (.t 8) (.t 9))),O 11 (.x (.eqv true ⟨true,[.int .i64,.int .i64,.int .i64]⟩ (.t 7) (.t 10)))] (Ce 11 0)) (.block 1 (S [Om 12 2,Ot 13 3 4,O 14 (.x (.look ⟨true,[.int .i64,.int .i64,.int .i64]⟩ (.agg [Z0,Z0,Z0]) false (.t 12) (.t 13))),O 6 (.alloc (.agg [Z0,Z0,Z0])),Ns 3 6 14] (.seq (.block 2 (S [Ot 16 3 4,Ok 17 115 [.t 16],Oc 18 .eql 17 2,Om 15 18] (Cd 15 (.region [Pm 19 0,Pz 20 19,Pa 21 2 20,Pa 23 2 4,Pa 25 1 4,Pa 27 0 6,Pl 22 21,Pl 24 23,Of 29 (.ia 4 none (.t 22) (.t 24)),Pl 26 25,Pl 28 27,O 30 (.ia 1 (some 4) (.t 29) (.t 26)),Ns 1 30 28]) (S [Ot 32 3 4,Ok 33 115 [.t 32],Oc 34 .eql 33 1,Om 35 34,G 36 35 true (.load true 3 (.t 6)),G 37 35 true (.call (C 115) [.t 36]),G 38 35 true (.bin false .eql (.t 37) (I 2)),Pp 39 35 38,Om 31 39] (Cd 31 (.region [Pm 40 0,Pz 41 40,Pa 42 2 41,Pa 44 2 4,Pa 46 1 6,Pl 43 42,Pl 45 44,Of 48 (.ia 4 none (.t 43) (.t 45)),Pl 47 46,O 49 (.ia 1 (some 4) (.t 48) (.t 47)),N (.store 1 (.t 49) (I (-1)))]) .skip))))) (.region [Ot 50 3 6,Ns 3 4 50]))))))),[]⟩
def L117:LFn :=⟨5,S [Pe 0] (S [O 1 (.build (.agg [.nilfn]) [(0,(1,(C 156)))]),O 2 (.build (.agg [.nilfn]) [(0,(1,(C 157)))]),O 3 (.build (.agg [.nilfn]) [(0,(1,(C 158)))]),O 4 (.bslice 204 1 [.t 1,.t 2,.t 3]),Om 0 4] .ret),[.tm 0]⟩
def L120:LFn :=⟨18,S [O 6 .other] (.block 0 (S [O 8 (.x (.nif false (.t 6)))] (Cd 8 (.region [Om 3 6]) (S [O 9 (.x (.tas 209 (.agg [Z0]) (.t 6))),Oe 10 9 1,Oe 11 9 0] (Cd 10 (S [O 4 (.alloc (.agg [Z0])),Ns 1 4 11] (.regT (.op (Pa 14 0 4) (.op (Pl 12 1) (.op (Pt 13 5 0) (.op (Pz 16 12) (.op (Pa 17 0 16) (.seq (.alt (Pl 15 14) (.alt (Nf (.store 5 (.t 17) (.t 13))) .done .no) (.alt (Nf (.store 5 (.t 17) (.t 13))) (.op (Pl 15 14) .done) .no)) (.alt (Ns 1 2 15) .done .no))))))))) (S [Om 5 6] (.region [Om 7 5,N (.x (.pan (.t 7)))]))))))),[]⟩
def L123:LFn :=⟨5,S [Pf 2] (S [Om 3 0,Ok 4 130 [.t 3,I 0,I 1000],Om 2 4] .ret),[.tm 2]⟩
def L129:LFn :=⟨8,S [Ox 2 4 0,Pf 3] (S [Ol 4 1 1,Ot 5 4 2,O 6 (.call (.t 4) [.t 5]),Oo 7 6,Om 3 7] .ret),[.tm 3]⟩
def L139:LFn :=⟨5,S [Ox 1 2 0,OM 2 0] (S [Oa 3 0 1,Ol 4 1 3,Om 2 4] .ret),[.tm 2]⟩
@[simp] def L144a:LT:=.alt (Ok 16 44 [.t 11,.t 13,.t 15]) (.op (Om 9 16) (.op (Oe 17 9 0) (.op (Oe 18 9 1) (.alt (Ns 2 7 17) .done .no)))) .no
@[simp] def L144b:LT:=.alt (Ok 16 44 [.t 11,.t 13,.t 15]) (.op (Om 9 16) (.op (Oe 17 9 0) (.op (Oe 18 9 1) (.alt (Of 7 (.alloc (.agg [Z0,Z0]))) (.alt (Ns 2 7 17) .done .no) .no)))) (.alt (Of 7 (.alloc (.agg [Z0,Z0]))) L144a .no)
@[simp] def L144c:LT:=.alt (Ok 11 51 [.t 10]) (.op (Pl 15 14) L144a) (.alt (Pl 15 14) (.alt (Ok 11 51 [.t 10]) L144a .no) .no)
@[simp] def L144d:LT:=.alt (Ok 11 51 [.t 10]) (.op (Pl 13 12) L144a) (.alt (Pl 13 12) (.alt (Ok 11 51 [.t 10]) L144a .no) .no)
@[simp] def L144e:LT:=.alt (Ok 11 51 [.t 10]) L144b (.alt (Of 7 (.alloc (.agg [Z0,Z0]))) (.alt (Ok 11 51 [.t 10]) L144a .no) .no)
def L144:LFn :=⟨26,S [Ox 4 4 1,Pf 6] (.seq (.regT (.op (Pm 10 0) (.op (Pa 12 1 4) (.op (Pa 14 2 4) (.seq (.alt (Ok 11 51 [.t 10]) (.op (Pl 13 12) (.op (Pl 15 14) L144b)) (.alt (Pl 13 12) (.alt (Ok 11 51 [.t 10]) (.op (Pl 15 14) L144b) (.alt (Pl 15 14) L144e (.alt (Of 7 (.alloc (.agg [Z0,Z0]))) L144c .no))) (.alt (Pl 15 14) (.alt (Ok 11 51 [.t 10]) (.op (Pl 13 12) L144b) (.alt (Pl 13 12) L144e (.alt (Of 7 (.alloc (.agg [Z0,Z0]))) L144d .no))) (.alt (Of 7 (.alloc (.agg [Z0,Z0]))) (.alt (Ok 11 51 [.t 10]) (.op (Pl 13 12) (.op (Pl 15 14) L144a)) (.alt (Pl 13 12) L144c (.alt (Pl 15 14) L144d .no))) .no)))) (.op (Om 8 18) .done)))))) (S [Oa 19 3 4,Ol 20 1 19,Oa 21 0 7,Ol 22 1 21,Ob 23 .add 20 22,Om 24 2,Ob 25 .geq 23 24,Om 6 25] .ret)),[.tm 6]⟩
def L158:LFn :=⟨20,S [Ox 3 3 1,Pe 4] (S [Pm 5 0,Pz 6 5,Pa 7 2 6,Pa 9 2 3,Pa 11 1 3,Pa 16 2 3,Pl 8 7,Pl 10 9,Of 13 (.ia 4 none (.t 8) (.t 10)),Pl 12 11,Of 14 (.ia 1 (some 4) (.t 13) (.t 12)),Pl 15 14,Pl 17 16,O 18 (.build (.agg [Z0,Z0,Z0]) [(0,(1,(.t 15))),(1,(1,(I (-1)))),(2,(1,(.t 17)))]),Pb 19 197 3 18,Om 4 19] .ret),[.tm 4]⟩
def L159:LFn :=⟨19,S [OM 4 0] (.seq (S [Om 6 0,On 7 6,OM 8 0] (.block 0 (.loop (S [Ob 9 .lss 8 7] (.seq (Ce 9 0) (.seq (.block 1 (S [Om 10 8,Om 5 10] (S [Om 11 1,Om 12 0,Om 13 5,Oi 14 1 12 13,Ol 15 1 14,O 16 (.call (.t 11) [.t 15])] (Cd 16 (S [Om 17 5,Om 4 17] .ret) .skip)))) (.region [Oc 18 .add 8 1,Om 8 18]))))))) (S [OM 4 (-1)] .ret)),[.tm 4]⟩
def L179:LFn :=⟨5,S [OM 2 0] (S [Om 3 0,Ok 4 202 [.t 3],Om 2 4] .ret),[.tm 2]⟩
def L180:LFn :=⟨9,S [Pf 4] (S [Om 5 0,Om 6 1,Ok 7 203 [.t 5,.t 6],Oc 8 .geq 7 0,Om 4 8] .ret),[.tm 4]⟩
def L184:LFn :=⟨16,S [OM 6 0] (S [Om 7 0,Oz 8 7,Oa 9 2 8,Ol 10 1 9,Om 11 2,Oi 12 4 10 11,O 13 (.x (.sla 4 (.t 12) (I 4))),Om 14 1,Ok 15 147 [.t 13,.t 14],Om 6 15] .ret),[.tm 6]⟩
def L185:LFn :=⟨8,S [Ox 3 2 0,Ox 4 1 1,Ox 5 1 2,O 6 (.mov (.c .nilfn))] (S [O 7 (.mkf 209 [] [.t 3,.t 4,.t 5]),Om 6 7] .ret),[.tm 6]⟩
def L187:LFn :=⟨61,S [Om 5 0,Om 6 1,O 7 (.ia 1 none (.t 6) (I 0)),Ol 8 1 7,Ok 9 32 [.t 5,.t 8],Oo 10 9,Ok 11 162 [.t 10,I 6]] (S [Pm 12 0,Pm 13 0,Pz 14 13,Pa 15 0 14,Pa 16 0 15,Pm 18 1,Pj 19 1 18 0,Pm 21 1,Pj 22 1 21 1,Pm 24 1,Pj 25 1 24 2,Pm 27 1,Pj 28 1 27 3,Pm 30 1,Pj 31 1 30 4,Pm 33 1,Pj 34 1 33 5,Pm 36 1,Pj 37 1 36 6,Pl 17 16,Pl 20 19,Pl 23 22,Pl 26 25,Pl 29 28,Pl 32 31,Pl 35 34,Pl 38 37,Of 39 (.build (.agg [Z0,Z0]) [(0,(1,(.t 35))),(1,(1,(.t 38)))]),Of 40 (.build (.agg [Z0,Z0,Z0,Z0,Z0,Z0,Z0]) [(0,(1,(.t 20))),(1,(1,(.t 23))),(2,(1,(.t 26))),(3,(1,(.t 29))),(4,(1,(.t 32))),(5,(2,(.t 39)))]),Ok 41 214 [.t 17,.t 40],Oz 42 12,Oa 43 0 42,Oa 44 0 43,Ns 1 44 41] (S [Om 45 0,Ok 46 216 [.t 45],Ok 47 215 [.t 46],Om 4 47] (S [Om 48 4,Oc 49 .eql 48 0,Om 50 4,Ok 51 162 [.t 49,.t 50]] (S [Om 53 0,Ok 54 51 [.t 53],Ok 55 19 [.t 54],Om 52 55,Oe 56 52 0,Oe 57 52 1,Om 4 57] (.region [Om 58 4,Oc 59 .eql 58 7,Ok 60 162 [.t 59,I 9]]))))),[]⟩
def L188:LFn :=⟨43,S [Om 6 0,Om 7 1,O 8 (.ia 1 none (.t 7) (I 0)),Ol 9 1 8,Ok 10 32 [.t 6,.t 9],Ok 11 162 [.t 10,I 7]] (S [Pm 13 0,Pz 14 13,Pa 15 0 14,Pa 16 1 15,Pm 18 1,Pj 19 1 18 0,Pl 17 16,Pl 20 19,Ok 21 217 [.t 17,.t 20],Om 12 21,Oe 22 12 0,Oe 23 12 1,Om 4 22,Om 5 23] (S [Om 24 5,Oo 25 24,Ok 26 162 [.t 25,I 6]] (.regT (.op (Pm 27 0) (.op (Pm 28 0) (.op (Pz 29 28) (.op (Pa 30 0 29) (.op (Pa 31 1 30) (.op (Pm 34 4) (.op (Pm 35 1) (.op (Pj 36 1 35 0) (.op (Pl 32 31) (.op (Pl 37 36) (.seq (.alt (Of 33 (.call (C 29) [.t 32])) (.alt (Of 38 (.bslice 3 1 [.t 37])) .done .no) (.alt (Of 38 (.bslice 3 1 [.t 37])) (.alt (Of 33 (.call (C 29) [.t 32])) .done .no) .no)) (.alt (Ok 39 218 [.t 33,.t 34,.t 38]) (.op (Oz 40 27) (.op (Oa 41 0 40) (.op (Oa 42 1 41) (.alt (Ns 1 42 39) .done .no)))) .no))))))))))))))),[]⟩
def L191:LFn :=⟨62,S [Om 8 0,Om 9 1,O 10 (.ia 1 none (.t 9) (I 0)),Ol 11 1 10,Ok 12 220 [.t 8,.t 11],Om 7 12,Oe 13 7 0,Oe 14 7 1,Om 4 13,Om 5 14] (S [Om 15 5,Ok 16 162 [.t 15,I 7]] (S [Om 17 0,Oz 18 17,Oa 19 0 18,Oa 20 2 19,Ol 21 1 20,Om 22 4,Oi 23 4 21 22,Oa 24 3 23,Ol 25 1 24,Oo 26 25,Ok 27 162 [.t 26,I 6]] (S [Om 28 0,Om 29 0,Oz 30 29,Oa 31 0 30,Oa 32 2 31,Ol 33 1 32,Om 34 4,Oi 35 4 33 34,Ot 36 4 35,Ok 37 93 [.t 28,.t 36],Om 6 37] (S [Om 38 6,O 39 (.bin false .neq (.t 38) (.c (.int .u8 (3)))),Ok 40 162 [.t 39,I 8]] (S [Om 41 6,O 42 (.bin false .eql (.t 41) (.c (.int .u8 (1)))),Ok 43 162 [.t 42,I 11]] (S [Om 44 0,Om 45 0,Oz 46 45,Oa 47 0 46,Oa 48 2 47,Ol 49 1 48,Ok 50 74 [.t 49],Oz 51 44,Oa 52 0 51,Oa 53 2 52,Ns 1 53 50] (.region [Om 54 0,Oz 55 54,Oa 56 0 55,Oa 57 2 56,Ol 58 1 57,Om 59 4,Oi 60 4 58 59,Oa 61 3 60,N (.store 1 (.t 61) Bt)]))))))),[]⟩
def L202:LFn :=⟨25,S [OM 2 0] (.seq (S [Om 5 0,On 6 5,Oc 7 .lss 6 1] (Cd 7 (.region [O 8 (.x (.mif 9 (.c (.str ⟨#[115,108,105,99,101,115,46,77,105,110,58,32,101,109,112,116,121,32,108,105,115,116]⟩)))),N (.x (.pan (.t 8)))]) .skip)) (S [Om 9 0,O 10 (.ia 1 none (.t 9) (I 0)),Ol 11 1 10,Om 3 11] (.seq (S [OM 4 1] (.block 0 (.loop (.seq (S [Om 12 4,Om 13 0,On 14 13,Ob 15 .lss 12 14] (Ce 15 0)) (.seq (.block 1 (.region [Om 18 3,Om 19 0,Om 20 4,Oi 21 1 19 20,Ol 22 1 21,O 23 (.minmax false (.t 18) (.t 22)),Om 3 23])) (.region [Om 16 4,Oc 17 .add 16 1,Om 4 17])))))) (S [Om 24 3,Om 2 24] .ret)))),[.tm 2]⟩
def L203:LFn :=⟨19,S [OM 4 0] (.seq (S [Om 6 0,On 7 6,OM 8 0] (.block 0 (.loop (S [Ob 9 .lss 8 7] (.seq (Ce 9 0) (.seq (.block 1 (S [Om 10 8,Om 5 10] (S [Om 11 1,Om 12 0,Om 13 5,Oi 14 3 12 13,Ot 15 3 14,O 16 (.call (.t 11) [.t 15])] (Cd 16 (S [Om 17 5,Om 4 17] .ret) .skip)))) (.region [Oc 18 .add 8 1,Om 8 18]))))))) (S [OM 4 (-1)] .ret)),[.tm 4]⟩
def L214:LFn :=⟨10,S [Ox 3 7 1,Pe 4] (.seq (.regT (.op (Pm 5 0) (.op (Pt 7 7 3) (.seq (.alt (Of 6 (.call (C 42) [.t 5])) (.alt (Pb 8 47 7 7) .done .no) (.alt (Pb 8 47 7 7) (.alt (Of 6 (.call (C 42) [.t 5])) .done .no) .no)) (.alt (Py 9 47 7 56 6 8) (.op (Om 4 9) .done) .no))))) .ret),[.tm 4]⟩
def L219:LFn :=⟨15,S [Pf 6] (S [Om 7 1,Om 8 0,Ob 9 .leq 7 8,Om 10 9,Pn 11 10 0,Pn 12 10 2,G 13 10 true (.bin false .leq (.t 11) (.t 12)),Pp 14 10 13,Om 6 14] .ret),[.tm 6]⟩
def L241:LFn :=⟨9,S [Ox 2 4 0,OM 4 0] (S [Oa 5 0 2,Ol 6 1 5,Om 7 1,Ob 8 .sub 6 7,Om 4 8] .ret),[.tm 4]⟩
end
end
section
set_option maxRecDepth 100000
noncomputable section
def tys:List ((Nat×List Nat)×(LCode×LCode×(Code×Code))):=[((136,[72]),(Y36_0a,Y36_0b,rcode Tryz.prog 36 0)),((136,[115]),(Y36_1a,Y36_1b,rcode Tryz.prog 36 1)),((61,[49]),(Y76_0a,Y76_0b,rcode Tryz.prog 76 0)),((64,[42]),(Y85_0a,Y85_0b,rcode Tryz.prog 85 0)),((79,[47]),(Y88_0a,Y88_0b,rcode Tryz.prog 88 0)),((50,[15]),(Y157_0a,Y157_0b,rcode Tryz.prog 157 0))]
theorem L36_tab:tabOk (tyOf tys) L36.code:=by repeat' (first|exact trivial|rfl|apply And.intro)
theorem L76_tab:tabOk (tyOf tys) L76.code:=by repeat' (first|exact trivial|rfl|apply And.intro)
theorem L85_tab:tabOk (tyOf tys) L85.code:=by repeat' (first|exact trivial|rfl|apply And.intro)
theorem L88_tab:tabOk (tyOf tys) L88.code:=by repeat' (first|exact trivial|rfl|apply And.intro)
theorem L157_tab:tabOk (tyOf tys) L157.code:=by repeat' (first|exact trivial|rfl|apply And.intro)
theorem mixed:Tryz.prog.follows .mixedOrders=true:=by kernel_rfl
end
theorem cS (F:LFn){f:FuncId}{args:List AV}{B:List (Site×Box)}{R:AV→List (Site×Box)→Prop}(h:awpS Tryz.prog F.code (finQ (retF F.res R)) ⟨initT 0 args,B⟩)(hf:litF Tryz.prog f=some F:=by kernel_rfl)(hn:args.length≤F.nt:=by exact ZxK rfl):Zai Tryz.prog f args B R:=Zab mixed hf hn h
theorem cB (o:List Site)(F:LFn){f:FuncId}{args:List AV}{B:List (Site×Box)}{R:AV→List (Site×Box)→Prop}(h:awpS Tryz.prog F.code (finQ (retB o F.res R)) ⟨initT 0 args,B⟩)(hf:litF Tryz.prog f=some F:=by kernel_rfl)(hn:args.length≤F.nt:=by exact ZxK rfl):Zai Tryz.prog f args B R:=Zae o mixed hf hn h
theorem cF (o:List Site)(F:LFn){f:FuncId}{args:List AV}{B:List (Site×Box)}{R:AV→List (Site×Box)→Prop}(h:awpS Tryz.prog F.code (finQ (retFz o F.res R)) ⟨initT 0 args,B⟩)(hf:litF Tryz.prog f=some F:=by kernel_rfl)(hn:args.length≤F.nt:=by exact ZxK rfl):Zai Tryz.prog f args B R:=Zah o mixed hf hn h
theorem cSR (F:LFn){f:FuncId}{args:List AV}{B:List (Site×Box)}{Q:AV→List (Site×Box)→Prop}(h:∀R,Q=R→awpS Tryz.prog F.code (finQ (retF F.res R)) ⟨initT 0 args,B⟩)(hf:litF Tryz.prog f=some F:=by kernel_rfl)(hn:args.length≤F.nt:=by exact ZxK rfl):Zai Tryz.prog f args B Q:=cS F (h _ rfl) hf hn
theorem cBR (o:List Site)(F:LFn){f:FuncId}{args:List AV}{B:List (Site×Box)}{Q:AV→List (Site×Box)→Prop}(h:∀R,Q=R→awpS Tryz.prog F.code (finQ (retB o F.res R)) ⟨initT 0 args,B⟩)(hf:litF Tryz.prog f=some F:=by kernel_rfl)(hn:args.length≤F.nt:=by exact ZxK rfl):Zai Tryz.prog f args B Q:=cB o F (h _ rfl) hf hn
theorem cFR (o:List Site)(F:LFn){f:FuncId}{args:List AV}{B:List (Site×Box)}{Q:AV→List (Site×Box)→Prop}(h:∀R,Q=R→awpS Tryz.prog F.code (finQ (retFz o F.res R)) ⟨initT 0 args,B⟩)(hf:litF Tryz.prog f=some F:=by kernel_rfl)(hn:args.length≤F.nt:=by exact ZxK rfl):Zai Tryz.prog f args B Q:=cF o F (h _ rfl) hf hn
theorem cG (xs:List PV){σ:AS}{f:Opd}{args:List Opd}{d:Nat}{K:AV→AS→Prop}{g:FuncId}{y:PV}(hc:Gives Tryz.prog g xs y)(hK:K (.pv y) σ){X:Prop}(h1:(σ.o f).snap σ 0=some (.fn g [] []):=by rfl)(h2:snapW (AV.snap σ 0) (args.map σ.o)=some xs:=by rfl)(hy:y.flat=true:=by rfl):Zb8 Tryz.prog f args d K σ∨X:=Zaa (k:=0) (fs:=[]) (xs:=xs) (cs:=[]) h1 h2 (by simpa using hc) hy hK
theorem cP (fz:List Site)(xs:List PV){σ:AS}{f:Opd}{args:List Opd}{d:Nat}{K:AV→AS→Prop}{g:FuncId}{y:PV}(h1:(frzsL fz σ).o f=.pv (.fn g [] []))(h2:(frzsL fz σ).pvs args=some xs)(hc:Zai Tryz.prog g (xs.map .pv) [] (fun r B=>r=.pv y∧B=[]))(hK:K (.pv y) ((frzsL fz σ).Zu0 d)):Zb8 Tryz.prog f args d K σ:=Zaj fz (fs:=[]) (xs:=xs) (cs:=[]) h1 h2 (by simpa using hc) hK
theorem cQ (fz:List Site)(xs:List PV){σ:AS}{f:Opd}{args:List Opd}{d:Nat}{K:AV→AS→Prop}{g:FuncId}{y:PV}(hc:Zai Tryz.prog g (xs.map .pv) [] (fun r B=>r=.pv y∧B=[]))(hK:K (.pv y) ((frzsL fz σ).Zu0 d))(h1:(frzsL fz σ).o f=.pv (.fn g [] []):=by rfl)(h2:(frzsL fz σ).pvs args=some xs:=by rfl):Zb8 Tryz.prog f args d K σ:=cP fz xs h1 h2 hc hK
theorem cL (as':List AV)(B:List (Site×Box))(d:Nat)(lent:List Site){σ:AS}{f:Opd}{args:List Opd}{d0:Nat}{K:AV→AS→Prop}{g:FuncId}{fs cs:List AV}{R:AV→List (Site×Box)→Prop}(hB:Zas σ lent 0 lent=some B)(hC:Zai Tryz.prog g as' B R)(hK:∀r B',R r B'→r.Zu3 (outOk lent)=true∧(∀p∈B',outOk lent p.1=true∧p.2.Zu3 (outOk lent)=true)∧K (r.map (outG lent d)) (((dropL lent σ).Zu0 d).Zvd (renL lent d B')))(h1:fnOf (σ.o f)=some (g,fs,cs):=by rfl)(h2:ZdO lent=true:=by rfl)(h3:lent.all (fun s=>!s.Zu1 d)=true:=by rfl)(h4:AV.Zu4 (fun x=>lent.contains x) (fs++args.map σ.o++cs)=true:=by rfl)(ha:AV.Zu9 (inG lent) (fs++args.map σ.o++cs)=as':=by rfl):Zb8 Tryz.prog f args d0 K σ∨(Zc1 Tryz.prog f args K σ∨Zc0 Tryz.prog f args K σ):=Zac (as':=as') (B:=B) d lent h1 h2 h3 hB h4 ha hC hK
theorem cM (as':List AV)(B:List (Site×Box))(d:Nat)(lent:List Site){σ:AS}{f:Opd}{args:List Opd}{d0:Nat}{K:AV→AS→Prop}{g:FuncId}{fs cs:List AV}{a:AV}{b:List (Site×Box)}(hB:Zas σ lent 0 lent=some B)(hC:Zai Tryz.prog g as' B (fun r B=>r=a∧B=b))(hp:∀p∈b,outOk lent p.1=true∧p.2.Zu3 (outOk lent)=true)(hK:K (a.map (outG lent d)) (((dropL lent σ).Zu0 d).Zvd (renL lent d b)))(ho:a.Zu3 (outOk lent)=true:=by rfl)(h1:fnOf (σ.o f)=some (g,fs,cs):=by rfl)(h2:ZdO lent=true:=by rfl)(h3:lent.all (fun s=>!s.Zu1 d)=true:=by rfl)(h4:AV.Zu4 (fun x=>lent.contains x) (fs++args.map σ.o++cs)=true:=by rfl)(ha:AV.Zu9 (inG lent) (fs++args.map σ.o++cs)=as':=by rfl):Zb8 Tryz.prog f args d0 K σ∨(Zc1 Tryz.prog f args K σ∨Zc0 Tryz.prog f args K σ):=cL as' B d lent hB hC (fun r B' h=>by obtain⟨rfl,rfl⟩:=h;exact⟨ho,hp,hK⟩) h1 h2 h3 h4 ha
end
section
def PPost (w:World)(m:Mem)(ρ:Site→Loc)(B:List (Site×Box))(Rp:PV→List (Site×Box)→Prop)(e:Ending)(w':World):Prop:=
 ∃v,e=.panicked [{ v,recovered:=false }]∧CPost w m ρ B (fun r B'=>∃x,r=.pv x∧Rp x B') (.returned v) w'
def ZcH (P:Program)(f:FuncId)(azz:List AV)(B:List (Site×Box))(Rp:PV→List (Site×Box)→Prop):Prop:=
 Callable P f∧∀(w:World) (m:Mem) (ρ:Site→Loc) (vs:Array Value),Bxs ρ m w B→(Le m w.mem∧Glob m w∧(B.map (·.1)).Nodup)→vs.size=azz.length→(∀(j:Nat) (d:Value) (c:AV),vs[j]?=some d→azz[j]?=some c→RdA ρ m d c)→
  Calls P f vs w (PPost w m ρ B Rp)
theorem ZcH.mono {P:Program}{f:FuncId}{azz:List AV}{B:List (Site×Box)}{R R':PV→List (Site×Box)→Prop}(h:ZcH P f azz B R)(hp:∀r B',R r B'→R' r B'):ZcH P f azz B R':=
 ⟨h.1,fun w m ρ vs h1 h2 h3 h4=>(h.2 w m ρ vs h1 h2 h3 h4).mono fun e w' ⟨v,k0,v',r,B',ρ',m',k1,⟨x,k2,k3⟩,k4⟩=>⟨v,k0,v',r,B',ρ',m',k1,⟨x,k2,hp _ _ k3⟩,k4⟩⟩
def panWp (P:Program)(f:Opd)(args:List Opd)(Qp:PV→AS→Prop)(σ:AS):Prop:=
 ∃(d:Nat) (fz lent:List Site) (g:FuncId) (fs cs:List AV) (B:List (Site×Box)),
  ((frzsL fz σ).o f=.fn g fs cs∨∃fs' cs',(frzsL fz σ).o f=.pv (.fn g fs' cs')∧fs=fs'.map .pv∧cs=cs'.map .pv)∧lent.Nodup∧lent.all (fun s=>!s.Zu1 d)=true∧Zas (frzsL fz σ) lent 0 lent=some B∧
  AV.Zu4 (fun x=>lent.contains x) (fs++args.map (frzsL fz σ).o++cs)=true∧
  ZcH P g (AV.Zu9 (inG lent) (fs++args.map (frzsL fz σ).o++cs)) B (fun x B'=>(∀p∈B',outOk lent p.1=true∧p.2.Zu3 (outOk lent)=true)∧Qp x (((dropL lent (frzsL fz σ)).Zu0 d).Zvd (renL lent d B')))
def loPan (P:Program)(o:LO)(Qp:PV→AS→Prop)(σ:AS):Prop:=o.g=none∧((∃f args,o.op=.call f args∧panWp P f args Qp σ)∨∃y t a,o.op=.x (.pan y)∧σ.o y=.pv (.iface t a)∧Qp (.iface t a) σ)
def opsX (P:Program):List LO→(AS→Prop)→(PV→AS→Prop)→AS→Prop
 |[],K,_,σ=>K σ
 |o::r,K,Qp,σ=>loWp P o (opsX P r K Qp) σ∨loPan P o Qp σ
def awpX (P:Program):LCode→(AEx→AS→Prop)→(PV→AS→Prop)→AS→Prop
 |.region ops,Q,Qp,σ=>opsX P ops (Q .normal) Qp σ
 |.seq a b,Q,Qp,σ=>awpX P a (thenA (awpX P b Q Qp) Q) Qp σ
 |.cond c a b,Q,Qp,σ=>match σ.o c with
  |.pv (.bool t)=>if t=true then awpX P a Q Qp σ else awpX P b Q Qp σ
  |_=>False
 |.block id c,Q,Qp,σ=>awpX P c (Zcf id Q) Qp σ
 |.loop c,Q,Qp,σ=>∃(I:Nat→AS→Prop) (n:Nat) (τ:AS),Sub τ σ∧I n τ∧∀n τ,I n τ→awpX P c (thenA (fun τ'=>∃k τ2,k<n∧Sub τ2 τ'∧I k τ2) Q) Qp τ
 |l,Q,_,σ=>awp P l Q σ
theorem Znt {P:Program}{Qp:PV→AS→Prop}:∀{l:List LO} {K:AS→Prop} {σ:AS},opsWp P l K σ→(∀(o:LO) (K K':AS→Prop) σ,(∀τ,K τ→K' τ)→loWp P o K σ→loWp P o K' σ)→opsX P l K Qp σ
 |[],K,σ,h,_=>h
 |o::r,K,σ,h,hm=>.inl (hm o _ _ σ (fun τ h=>Znt h hm) h)
section
variable {P:Program}{N:Nat}{w0:World}{m0:Env w0}{pl:List Nat}{σ:AS}{ρ:Site→Loc}{m:Mem}{act:Act}{w:World}{o:Oper}{lo:LO}{ops:Array Oper}{Qp:PV→AS→Prop}
def Zcl (N:Nat)(w0:World)(m0:Env w0)(pl:List Nat)(Qp:PV→AS→Prop)(ch:List PanicEntry)(act:Act)(w:World):Prop:=
 ∃v x τ ρ m act',ch=[{ v,recovered:=false }]∧act'.defers=act.defers∧(m0.strict=true→act'=act)∧Qp x τ∧Sat N w0 m0 pl τ ρ m act' w∧RdA ρ m v (.pv x)
theorem ZqS {ro:Option Nat}{f:Opd}{args:List Opd}(hl:litOp P o.op=.call f args)(h:panWp P f args Qp σ)(hS:Sat N w0 m0 pl σ ρ m act w){nx:Act→World→Prop}{Q:Exit→Act→World→Prop}
  (hQ:∀ch w',Zcl N w0 m0 pl Qp ch act w'→Q (.panic ch) act w'):o.wpIn (FF ro) 1 P act w nx Q:=by
 obtain⟨c,fo,ho,hc,hf,ha⟩:=Zdg hl;obtain⟨d,fz,lent,g,fs,cs,B,hfn,hnd,hnl,hB,hall,hC⟩:=h;obtain⟨m1,_,hF⟩:=hS.frzsL fz;generalize frzsL fz σ=σ1 at hfn hB hall hC hF;obtain⟨q1,q2⟩:=ZbK ha;obtain⟨ρc,hin,hBx,hout⟩:=lend hF hnd hnl hB;have hfv:∃vf vc:Array Value,act.eval fo=.func (.func g) vf vc∧vf.size=fs.length∧vc.size=cs.length∧(∀(j:Nat) (d:Value) (c:AV),vf[j]?=some d→fs[j]?=some c→RdA ρ m1 d c)∧(∀(j:Nat) (d:Value) (c:AV),vc[j]?=some d→cs[j]?=some c→RdA ρ m1 d c):=by
  have h1:=hF.opd hf;rcases hfn with hfn|⟨fs',cs',hfn,rfl,rfl⟩
  ·rw[hfn]at h1;exact ZhE h1
  ·rw[hfn]at h1;obtain⟨vf,vc,e1,e2,e3,e4,e5⟩:=ZiI h1.Zu5;refine⟨vf,vc,e1,by simpa using e2,by simpa using e3,fun j d c k1 k2=>?_,fun j d c k1 k2=>?_⟩
   ·rw[ZxM]at k2;obtain⟨x,k3,rfl⟩:=ZxP.1 k2;exact .pv _ _ (e4 j d x k1 k3)
   ·rw[ZxM]at k2;obtain⟨x,k3,rfl⟩:=ZxP.1 k2;exact .pv _ _ (e5 j d x k1 k3)
 obtain⟨vf,vc,hv,f1,f2,f3,f4⟩:=hfv;have hsz:(c.args.map act.eval).size=(args.map σ1.o).length:=by simp;simpa using q1
 obtain⟨b1,b2⟩:=ZhR (ρ:=ρ) (m:=m1) (va:=c.args.map act.eval) (xs:=args.map σ1.o) f1 hsz f2 f3 (fun j u y hu hy=>by
  rw[Array.getElem?_map]at hu;obtain⟨x,k1,rfl⟩:=ZxP.1 hu;obtain⟨y',k2,k3⟩:=q2 j x (by simpa using k1);rw[ZxM,k2]at hy;cases hy;exact hF.opd k3) f4
 unfold Oper.wpIn;refine⟨fun _ _=>trivial,?_⟩;rw[Oper.semAt_eq _ _ _ (fun c' e=>by rw[ho]at e;cases e),callop ho hc hv hC.1,Oper.uponIn_enter];refine⟨FF.one,Zf4 ?_⟩;refine(hC.2 w m1 ρc _ hBx ⟨hF.mem,hF.glob,Zcd hB⟩ (by rw[ZbN];exact b1) (fun j u y hu hy=>by
  rw[ZbO]at hy;obtain⟨a,k1,rfl⟩:=ZxP.1 hy;exact(b2 j u a hu k1).map hin (ZaK hall k1))).mono ?_
 rintro e w' ⟨v,rfl,h⟩;obtain⟨v',r,B',ρ',m',e1,⟨x,rfl,hx,hq⟩,hrest⟩:=h;cases e1;obtain⟨v2,r2,B2,ρ2,m2,e2,hK,k1,k2,_⟩:=hout (fun r B'=>∃x,r=.pv x∧Qp x (((dropL lent σ1).Zu0 d).Zvd (renL lent d B'))) (.returned v) w' ⟨v,.pv x,B',ρ',m',rfl,⟨rfl,hx,x,rfl,hq⟩,hrest⟩;cases e2;obtain⟨y,rfl,hq2⟩:=hK;exact hQ _ _ ⟨v,y,_,ρ2,m2,act,rfl,rfl,fun _=>rfl,hq2,k1,k2⟩
theorem Zfu {fn:Func}{tm:Array Value}{R:Ending→World→Prop}{ch:List PanicEntry}:∀(ds:List Nat) {w:World},ds.Nodup→(∀D∈ds,(w0.heap.size≤D∨D∈pl)∧w.heap[D]?=some (.deferred (some [])))→act.defers=[]→Sat N w0 m0 pl σ ρ m act w→
  ∃w2,Sat N w0 m0 pl σ ρ m act w2∧(LeavesIn (FF none) 1 P fn tm R [] (.panicking ch) w2→LeavesInM (FF none) 1 P fn tm R (ds.map Zgw) (.panicking ch) w)
 |[],w,_,_,_,hS=>⟨w,hS,fun h=>h⟩
 |D::r,w,hn,hd,ha,hS=>by
  obtain⟨d1,d2⟩:=hd D (by simp);have hn':=List.nodup_cons.1 hn;have hS1:Sat N w0 m0 pl σ ρ m act (w.putObj D (.deferred none)):=hS.write (k:=D) (fun s b hs hr=>(hS.bx s b hs).ZxA hr d2) (fun o=>by
   cases hv:m D o with
   |none=>rfl
   |some v=>
    have:=hS.mem D o v hv
    simp[World.mem,World.cell?,d2]at this) d1 (.inr ha) (Zb2 _ _ _)
  obtain⟨w2,k1,k2⟩:=Zfu (ch:=ch) (tm:=tm) r hn'.2 (fun D' hD'=>by
   refine⟨(hd D' (by simp[hD'])).1,?_⟩;have hne:D'≠D:=fun e=>hn'.1 (by rw[←e];exact hD')
   rw[World.putObj_heap_other hne];exact(hd D' (by simp[hD'])).2) ha hS1
  exact⟨w2,k1,fun h=>⟨by simp,.inl ⟨D,_,rfl,run_takeDeferred d2,k2 h⟩⟩⟩
theorem ZkK {lt:Bool}(hl:litO P N ops lt o=some lo){f:Opd}{args:List Opd}(h:lo.op=.call f args):litOp P o.op=.call f args:=by
 obtain⟨e0,e1,e2,e3,e4⟩:=Za2 hl;rw[e2]at h;rcases Zd2 (ops:=ops) (l:=litOp P o.op)with⟨hfx,_⟩|⟨e,n,b,x,y,hap,hfx⟩
 ·rw[hfx]at h;exact h
 ·rw[hfx]at h;cases h
theorem ZrB {lt:Bool}(hl:litO P N ops lt o=some lo){y:Opd}(h:lo.op=.x (.pan y)):litOp P o.op=.x (.pan y):=by
 obtain⟨e0,e1,e2,e3,e4⟩:=Za2 hl;rw[e2]at h;rcases Zd2 (ops:=ops) (l:=litOp P o.op)with⟨hfx,_⟩|⟨e,n,b,x,y,hap,hfx⟩
 ·rw[hfx]at h;exact h
 ·rw[hfx]at h;cases h
theorem ZnO {op:Op}{y:Opd}(h:litOp P op=.x (.pan y)):∃x,op=.panic x∧opd x=some y:=by
 unfold litOp at h;split at h
 ·rename_i z hz;cases h;unfold litXS at hz;split at hz
  ·rename_i z' hx;cases hz;exfalso;unfold litX at hx;split at hx<;>(repeat' (first|(cases hx;done)|split at hx))
  ·rename_i hx;clear hx;unfold litS at hz;split at hz<;>(repeat' (first|(cases hz;done)|split at hz));rename_i e;cases hz;exact⟨_,rfl,e⟩
 ·exact absurd h Zir
theorem Zud {ro:Option Nat}{y:Opd}{t:TypeId}{x:PV}(hl:litOp P o.op=.x (.pan y))(he:σ.o y=.pv (.iface t x))(hq:Qp (.iface t x) σ)(hS:Sat N w0 m0 pl σ ρ m act w){nx:Act→World→Prop}{Q:Exit→Act→World→Prop}
  (hQ:∀ch w',Zcl N w0 m0 pl Qp ch act w'→Q (.panic ch) act w'):o.wpIn (FF ro) 1 P act w nx Q:=by
 obtain⟨z,ho,hz⟩:=ZnO hl;have h1:=hS.opd hz;rw[he]at h1;obtain⟨v,e⟩:∃v,act.eval z=.iface t v:=by
  have h2:=h1.Zu5;generalize act.eval z=u at h2;cases h2 with|iface _ v _ _=>exact⟨v,rfl⟩
 unfold Oper.wpIn;refine⟨fun _ _=>trivial,?_⟩;rw[Oper.semAt_eq _ _ _ (fun c' e=>by rw[ho]at e;cases e)];have hr:(execOp act.eval o).run P w=.halt (.panic (.iface t v)) w:=by
  unfold execOp;simp only[ho,e];rfl
 rw[hr,Oper.uponIn_panic];rw[e]at h1;exact hQ _ _ ⟨_,_,σ,ρ,m,act,rfl,rfl,fun _=>rfl,hq,hS,h1⟩
theorem ZlN {lt:Bool}(hl:litO P N ops lt o=some lo)(h:lo.g=none)(t:Nat→Option Bool):o.guard=none:=by
 obtain⟨e0,e1,e2,e3,e4⟩:=Za2 hl;rcases e4 with⟨hg,_⟩|⟨j,want,t,_,hlg,_⟩
 ·exact hg
 ·rw[h]at hlg;cases hlg
theorem ZrH {ro:Option Nat}{lt:Bool}{Q:Exit→Act→World→Prop}(hl:litO P N ops lt o=some lo)(h:loPan P lo Qp σ)(hS:Sat N w0 m0 pl σ ρ m act w){nx:Act→World→Prop}
  (hQp:∀ch act' w',Zcl N w0 m0 pl Qp ch act' w'→Q (.panic ch) act' w'):Region.wanted o (yielded ops act.tmps)=true∧o.wpIn (FF ro) 1 P act w nx Q:=by
 obtain⟨hg,h⟩:=h;have hw:=ZlN hl hg (fun _=>none);refine⟨by simp[Region.wanted,hw],?_⟩;rcases h with⟨f,args,hop,hp⟩|⟨y,t,a,hop,he,hq⟩
 ·exact ZqS (ZkK hl hop) hp hS (fun ch w' k=>hQp ch act w' k)
 ·exact Zud (ZrB hl hop) he hq hS (fun ch w' k=>hQp ch act w' k)
theorem ZbS {ro:Option Nat}{K:AS→Prop}{Q:Exit→Act→World→Prop}(hndf:Zcj ops=true)(hQp:∀ch act' w',Zcl N w0 m0 pl Qp ch act' w'→Q (.panic ch) act' w'):∀(l:List (Nat×Bool)) (los:List LO) {σ:AS} {ρ:Site→Loc} {m:Mem} {act:Act} {w:World},ordOk P ops l=true→litOs P N ops (l.map fun p=>(ltOf P ops p.1,ops.getD p.1 default))=some los→
  opsX P los K Qp σ→Sat N w0 m0 pl σ ρ m act w→(∀act' w',Aft N w0 m0 pl K act' w'→Q .normal act' w')→Zge ro P ops Q (ZbH P ops) (ZaM P) l act w
 |[],los,σ,ρ,m,act,w,hk,hl,h,hS,hQ=>by
  simp[litOs]at hl;subst hl;exact hQ _ _ ⟨σ,ρ,m,h,hS⟩
 |(i,b)::r,los,σ,ρ,m,act,w,hk,hl,h,hS,hQ=>by
  simp only[ZxZ]at hl;unfold litOs at hl;split at hl
  ·rename_i a l h1 h2;cases hl;cases b with
   |false=>
    simp only[ordOk,ZxO]at hk;cases ho:ops[i]? with
    |none=>rw[ho]at hk;simp at hk
    |some o=>
     rw[ho]at hk;have hg:ops.getD i default=o:=by simp[Array.getD_eq_getD_getElem?,ho]
     rw[hg]at h1;have hk1:=hk.1;simp only[Zyk]at hk1;rcases h with h|⟨_,⟨f,args,hop,_⟩|⟨y,t,a,hop,_⟩⟩
     ·cases hst:ZaM P o with
      |true=>
       obtain⟨v,k1,⟨τ,ρ',m',k2,k3⟩,_⟩:=Zbj (G:=fun _=>True) h1 h hS (.inl hst);exact⟨o,v,fun _=>True,fun _ _ _ _=>trivial,fun _ _=>trivial,trivial,ho,k1,ZbS hndf hQp r l hk.2 h2 k2 k3 hQ⟩
      |false=>
       have hld:(litOp P o.op).ZvJ=true:=by
        rcases hk1 with hk1|hk1
        ·rw[hst]at hk1;cases hk1
        ·exact hk1
       obtain⟨v,k1,⟨τ,ρ',m',k2,k3⟩,_⟩:=Zbj (G:=Stay σ ρ m w) h1 h hS (.inr ⟨hld,fun _ h=>h⟩);exact⟨o,v,Stay σ ρ m w,fun _ _ hs hx=>Stay.Zv2 hS hs hx,(fun e=>by rw[hst]at e;cases e),.refl hS,ho,k1,ZbS hndf hQp r l hk.2 h2 k2 k3 hQ⟩
     ·have hc:=ZkK h1 hop;unfold ZaM at hk1;rw[hc]at hk1;rcases hk1 with hk1|hk1<;>cases hk1
     ·have hc:=ZrB h1 hop;unfold ZaM at hk1;rw[hc]at hk1;rcases hk1 with hk1|hk1<;>cases hk1
   |true=>
    simp only[ordOk,ZxO]at hk;cases ho:ops[i]? with
    |none=>rw[ho]at hk;simp at hk
    |some o=>
     have hg:ops.getD i default=o:=by simp[Array.getD_eq_getD_getElem?,ho]
     rw[hg]at h1;show wpOpIn (FF ro) 1 P ops Q i _ act w;unfold wpOpIn;simp only[ho];rcases h with h|h
     ·rcases ZdS h1 h hS with⟨q1,q2⟩|⟨q1,q2⟩
      ·rw[if_pos q1];cases hst:ZaM P o with
       |true=>
        obtain⟨v,k1,⟨τ,ρ',m',k2,k3⟩,_⟩:=Zbj (G:=fun _=>True) h1 h hS (.inl hst);rcases k1 with⟨_,k1⟩|⟨k1,_⟩
        ·unfold Oper.wpIn;refine⟨fun _ _=>trivial,?_⟩;rw[Oper.semAt_eq _ _ _ (Zbh hndf ho),k1 w trivial,Oper.uponIn_value];exact⟨fun _=>Ext.ZvU _,ZbS hndf hQp r l hk.2 h2 k2 k3 hQ⟩
        ·rw[k1]at q1;cases q1
       |false=>
        have hsoft:softO (ZbH P ops) ops i=true→o.op.mild=true∨((litOp P o.op).ZvX=true∧ltOf P ops i=false)∨(fixO ops (litOp P o.op)).ZvQ=true:=fun hsf=>by
         unfold softO at hsf;rw[ho]at hsf;unfold ZbH at hsf;unfold ZaM at hst;simp only[hst,Bool.or_false,Zyk]at hsf;rcases hsf with(h'|h')|h'
         ·exact .inl h'
         ·simp only[ZxO,Bool.not_eq_true']at h';exact .inr (.inl h')
         ·exact .inr (.inr h')
        exact Oper.wpIn_mono (fun act' w' ⟨⟨τ,ρ',m',k2,k3⟩,k4⟩=>⟨fun hsf=>k4 (hsoft hsf),ZbS hndf hQp r l hk.2 h2 k2 k3 hQ⟩) (Zg8 h1 q2 hS)
      ·rw[if_neg (by rw[q1];simp)];exact⟨fun _ _=>trivial,fun _=>Ext.ZvU _,ZbS hndf hQp r l hk.2 h2 q2 (hS.ZvD (Za2 h1).2.2.2.1 Zgf) hQ⟩
     ·obtain⟨q1,q2⟩:=ZrH (ro:=ro) (Q:=Q) h1 h hS hQp;rw[if_pos q1];exact q2
  ·cases hl
theorem Zfo {ro:Option Nat}{K:AS→Prop}{Q:Exit→Act→World→Prop}(hQp:∀ch act' w',Zcl N w0 m0 pl Qp ch act' w'→Q (.panic ch) act' w'):∀(l:List Oper) (los:List LO) {σ:AS} {ρ:Site→Loc} {m:Mem} {act:Act} {w:World},litOs P N ops (l.map fun o=>(true,o))=some los→opsX P los K Qp σ→Sat N w0 m0 pl σ ρ m act w→(∀act' w',Aft N w0 m0 pl K act' w'→Q .normal act' w')→wpListIn (FF ro) 1 P ops Q l act w
 |[],los,σ,ρ,m,act,w,hl,h,hS,hQ=>by
  simp[litOs]at hl;subst hl;exact hQ _ _ ⟨σ,ρ,m,h,hS⟩
 |o::r,los,σ,ρ,m,act,w,hl,h,hS,hQ=>by
  rw[ZxZ]at hl;unfold litOs at hl;split at hl
  ·rename_i a l h1 h2;cases hl;rcases h with h|h
   ·exact ZfC h1 h hS (fun act' w' ⟨τ,ρ',m',k1,k2⟩=>Zfo hQp r l h2 k1 k2 hQ)
   ·unfold wpListIn;obtain⟨q1,q2⟩:=ZrH (ro:=ro) (Q:=Q) h1 h hS hQp;rw[if_pos q1];exact q2
  ·cases hl
theorem ZlM {ro:Option Nat}{K:AS→Prop}{Q:Exit→Act→World→Prop}{id:Nat}{draw:Bool}{los:List LO}(hm:P.follows .mixedOrders=true)(hl:litR P N ops draw=some los)(h:opsX P los K Qp σ)(hS:Sat N w0 m0 pl σ ρ m act w)(hQ:∀act' w',Aft N w0 m0 pl K act' w'→Q .normal act' w')
  (hQp:∀ch act' w',Zcl N w0 m0 pl Qp ch act' w'→Q (.panic ch) act' w') (hp:draw=true→∀c (a:Act) (d:Tmp) (v:Value) w,Q (.panic c) (a.put (some d) v) w→Q (.panic c) a w):(Code.region id ops draw).wpIn (FF ro) 1 P Q act w:=by
 unfold litR at hl;split at hl
 ·rename_i hd;subst hd;dsimp only at hl;split at hl
  ·rename_i hc;simp only[ZxO,decide_eq_true_eq]at hc;obtain⟨⟨⟨⟨c1,c1'⟩,c2⟩,c3⟩,c4⟩:=hc;have hS':Sat N w0 m0 pl σ ρ m act w.drew:=hS.ext (Ext.dr w);exact Zdm _ _ _ hm (hp rfl) c1 c1' c2 c3 (ZbS c1' hQp _ los c4 hl h hS' hQ)
  ·cases hl
 ·rename_i hd
  have:draw=false:=by simpa using hd
  subst this;exact wpIn_region_list (Zfo hQp _ los hl h hS hQ)
def PostX (N:Nat)(w0:World)(m0:Env w0)(pl:List Nat)(Q:AEx→AS→Prop)(Qp:PV→AS→Prop):Exit→Act→World→Prop
 |.panic ch,a,w=>Zcl N w0 m0 pl Qp ch a w
 |e,a,w=>Post N w0 m0 pl Q e a w
theorem PostX.of {Q:AEx→AS→Prop}{e:Exit}{a:Act}{w:World}(h:Post N w0 m0 pl Q e a w):PostX N w0 m0 pl Q Qp e a w:=by
 cases e with
 |panic ch=>exact h.elim
 |_=>exact h
def noDr:Code→Bool
 |.region _ _ d=>!d
 |.seq a b=>noDr a&&noDr b
 |.cond _ a b=>noDr a&&noDr b
 |.block _ c=>noDr c
 |.loop c=>noDr c
 |.scope c=>noDr c
 |_=>true
theorem ZkO {a b:Code}(h:noDr (.seq a b)=true):noDr a=true∧noDr b=true:=by simpa[noDr]using h
theorem Zim {c:Operand}{a b:Code}(h:noDr (.cond c a b)=true):noDr a=true∧noDr b=true:=by simpa[noDr]using h
theorem ZgV {ro:Option Nat}(hro:Zf8 ro w0 pl)(hm:P.follows .mixedOrders=true):∀(c:Code) (l:LCode) (Q:AEx→AS→Prop) {σ:AS} {ρ:Site→Loc} {m:Mem} {act:Act} {w:World},(m0.strict=true→noRF c=true)→(m0.strict=true→noDr c=true)→litC P N c=some l→awpX P l Q Qp σ→Sat N w0 m0 pl σ ρ m act w→c.wpIn (FF ro) 1 P (PostX N w0 m0 pl Q Qp) act w:=by
 intro c;induction c with
 |skip=>
  intro l Q σ ρ m act w hst hsd hl h hS;simp[litC]at hl;subst hl;exact wpIn_skip ⟨σ,ρ,m,h,hS⟩
 |region id ops draw=>
  intro l Q σ ρ m act w hst hsd hl h hS;simp only[litC]at hl;split at hl
  ·rename_i los k1;cases hl;exact ZlM hm k1 h hS (fun _ _ k=>k) (fun _ _ _ k=>k) (fun hd _ _ _ _ _ ⟨v,x,τ,ρ,m,a',q1,q2,_,q3⟩=>⟨v,x,τ,ρ,m,a',q1,q2.trans rfl,fun e=>by have:=hsd e;rw[hd]at this;simp[noDr]at this,q3⟩)
  ·split at hl
   ·rename_i hd;subst hd;simp only[ZxP]at hl;obtain⟨T',k1,rfl⟩:=hl;exact wpIn_mono (Zm7 (Q:=Post N w0 m0 pl Q) hm k1 h hS (fun _ _ k=>k) (fun _ _ _ _ _ h=>h)) (fun _ _ _ h=>PostX.of h)
   ·cases hl
 |seq a b iha ihb=>
  intro l Q σ ρ m act w hst hsd hl h hS;simp only[litC]at hl;split at hl
  ·rename_i x y h1 h2;cases hl;refine wpIn_seq (wpIn_mono (iha x _ (fun e=>(ZeW (hst e)).1) (fun e=>(ZkO (hsd e)).1) h1 h hS) (fun e act' w' hq=>?_));cases e with
   |normal=>
    obtain⟨τ,ρ',m',k1,k2⟩:=hq;exact ihb y Q (fun e=>(ZeW (hst e)).2) (fun e=>(ZkO (hsd e)).2) h2 k1 k2
   |exit id=>exact hq
   |ret=>exact hq
   |goto l=>exact hq.elim
   |panic ch=>exact hq
   |outgrown=>exact hq.elim
  ·cases hl
 |cond c a b iha ihb=>
  intro l Q σ ρ m act w hst hsd hl h hS;simp only[litC]at hl;split at hl
  ·rename_i c' x y h0 h1 h2;cases hl;unfold awpX at h;split at h
   ·rename_i t ht;have hc:=hS.opd h0;rw[ht]at hc;refine wpIn_cond hc.Zvo ?_;cases t
    ·exact ihb y Q (fun e=>(ZdP (hst e)).2) (fun e=>(Zim (hsd e)).2) h2 (by simpa using h) hS
    ·exact iha x Q (fun e=>(ZdP (hst e)).1) (fun e=>(Zim (hsd e)).1) h1 (by simpa using h) hS
   ·exact h.elim
  ·cases hl
 |block id c ih=>
  intro l Q σ ρ m act w hst hsd hl h hS;simp only[litC,ZxP]at hl;obtain⟨x,k1,rfl⟩:=hl;refine wpIn_block (wpIn_mono (ih x _ hst hsd k1 h hS) (fun e act' w' hq=>?_));cases e with
  |exit id'=>
   obtain⟨τ,ρ',m',q1,q2⟩:=hq;by_cases he:id'=id
   ·subst he;simp only[Zcf,if_true]at q1;simp only[Exit.inBlock,if_true];exact⟨τ,ρ',m',q1,q2⟩
   ·simp only[Zcf,he,if_false]at q1;simp only[Exit.inBlock,he,if_false];exact⟨τ,ρ',m',q1,q2⟩
  |normal=>exact hq
  |ret=>exact hq
  |goto l=>exact hq.elim
  |panic ch=>exact hq
  |outgrown=>exact hq.elim
 |loop c ih=>
  intro l Q σ ρ m act w hst hsd hl h hS;simp only[litC,ZxP]at hl;obtain⟨x,k1,rfl⟩:=hl;obtain⟨I,n,τ,hsub,hI,hround⟩:=h;obtain⟨ρ1,m1,hS1⟩:=hsub _ _ _ _ _ _ _ _ hS;refine wpIn_loop_ghost (fun n act w=>∃τ ρ m,I n τ∧Sat N w0 m0 pl τ ρ m act w) n ⟨τ,ρ1,m1,hI,hS1⟩ ?_;intro n act w ⟨τ,ρ,m,hI,hS⟩;refine wpIn_mono (ih x _ hst hsd k1 (hround n τ hI) hS) (fun e act' w' hq=>?_);cases e with
  |normal=>
   obtain⟨τ',ρ',m',⟨k,τ2,q1,q2,q3⟩,q4⟩:=hq;obtain⟨ρ2,m2,q5⟩:=q2 _ _ _ _ _ _ _ _ q4;exact⟨k,q1,τ2,ρ2,m2,q3,q5⟩
  |exit id=>exact hq
  |ret=>exact hq
  |goto l=>exact hq.elim
  |panic ch=>exact hq
  |outgrown=>exact hq.elim
 |scope c ih=>
  intro l Q σ ρ m act w hst hsd hl h hS;refine ZbV (wpIn_mono (ih l Q hst hsd hl h hS) (fun e act' w' hq=>?_));cases e<;>first|exact hq|exact hq.elim
 |label l0=>
  intro l Q σ ρ m act w hst hsd hl h hS;simp[litC]at hl;subst hl;exact wpIn_label ⟨σ,ρ,m,h,hS⟩
 |exit id=>
  intro l Q σ ρ m act w hst hsd hl h hS;simp[litC]at hl;subst hl;exact wpIn_exit ⟨σ,ρ,m,h,hS⟩
 |ret=>
  intro l Q σ ρ m act w hst hsd hl h hS;simp[litC]at hl;subst hl;exact wpIn_ret ⟨σ,ρ,m,h,hS⟩
 |rangeFunc g ps a b=>
  intro l Q σ ρ m act w hst hsd hl h hS;simp only[litC]at hl;split at hl
  ·rename_i g' la lb k1 k2 k3;cases hl;exact wpIn_mono (Zh6 hro k1 h hS (ZnF hst)) (fun _ _ _ h=>PostX.of h)
  ·cases hl
 |_=>intro l Q σ ρ m act w hst hsd hl h hS;simp[litC]at hl
def panF (Rp:PV→List (Site×Box)→Prop)(x:PV)(σ:AS):Prop:=∃outs:List Site,outs.all noRet=true∧(∀s∈outs,∀b,σ.b s=some b→b.Zu3 noRet=true)∧Rp x (σ.exp outs outs)
end
end
section
section
variable {P:Program}{σ:AS}{Q:AEx→AS→Prop}{Qp:PV→AS→Prop}{K:AS→Prop}
theorem ZsQ {l:List LO}(h:opsWp P l K σ):opsX P l K Qp σ:=Znt h fun _ _ _ _ hk h=>ZbC hk h
theorem Zc4:∀{c:LCode} {Q:AEx→AS→Prop} {σ:AS},awp P c Q σ→awpX P c Q Qp σ
 |.skip,_,_,h=>h
 |.region _,_,_,h=>ZsQ h
 |.regT _,_,_,h=>h
 |.seq a b,Q,σ,h=>Zc4 (c:=a) (ZbR (c:=a) h fun e τ k=>by
   cases e with
   |normal=>exact Zc4 (c:=b) k
   |exit id=>exact k
   |ret=>exact k)
 |.cond c a b,Q,σ,h=>by
  unfold awp at h;split at h
  ·rename_i t ht;show(match σ.o c with
    |.pv (.bool t)=>if t=true then awpX P a Q Qp σ else awpX P b Q Qp σ
    |_=>False)
   rw[ht];cases t
   ·simp only[Bool.false_eq_true,if_false]at h ⊢;exact Zc4 (c:=b) h
   ·simp only[if_true]at h ⊢;exact Zc4 (c:=a) h
  ·exact h.elim
 |.block id c,_,_,h=>Zc4 (c:=c) h
 |.loop c,_,_,⟨I,n,τ,h1,h2,h3⟩=>⟨I,n,τ,h1,h2,fun n τ k=>Zc4 (c:=c) (h3 n τ k)⟩
 |.exit _,_,_,h=>h
 |.ret,_,_,h=>h
 |.rng _ _ _ _ _ _,_,_,h=>h
theorem Zan {a b:LCode}(h:awpS P a (thenA (awpX P b Q Qp) Q) σ):awpX P (.seq a b) Q Qp σ:=Zc4 (c:=a) (ZaZ h)
theorem Zhj {o:LO}{post:List LO}:∀{pre:List LO} {σ:AS},opsWp P pre (loPan P o Qp) σ→opsX P (pre++o::post) K Qp σ
 |[],_,h=>.inr h
 |a::r,σ,h=>.inl (ZbC (fun τ k=>Zhj (pre:=r) k) h)
theorem Zeb {o:LO}{post:List LO}(pre:List LO)(h:opsS P pre (loPan P o Qp) σ):awpX P (.region (pre++o::post)) Q Qp σ:=Zhj (Zhk h)
theorem Zap {o:LO}{post:List LO}{c:LCode}(pre:List LO)(h:opsS P pre (loPan P o Qp) σ):awpX P (.seq (.region (pre++o::post)) c) Q Qp σ:=Zhj (Zhk h)
theorem ZpJ (d:Nat)(lent:List Site){f:Opd}{args:List Opd}{g:FuncId}{fs cs:List AV}{B:List (Site×Box)}{as':List AV}{R:PV→List (Site×Box)→Prop}(h1:fnOf (σ.o f)=some (g,fs,cs))(h2:ZdO lent=true)(h3:lent.all (fun s=>!s.Zu1 d)=true)
  (hB:Zas σ lent 0 lent=some B) (h4:AV.Zu4 (fun x=>lent.contains x) (fs++args.map σ.o++cs)=true) (ha:AV.Zu9 (inG lent) (fs++args.map σ.o++cs)=as') (hC:ZcH P g as' B R)
  (hK:∀x B',R x B'→(∀p∈B',outOk lent p.1=true∧p.2.Zu3 (outOk lent)=true)∧Qp x (((dropL lent σ).Zu0 d).Zvd (renL lent d B'))):panWp P f args Qp σ:=by
 refine⟨d,[],lent,g,fs,cs,B,?_,Zbe h2,h3,hB,h4,?_⟩
 ·unfold fnOf at h1;split at h1
  ·rename_i e;cases h1;exact .inl e
  ·rename_i fs' cs' e;cases h1;exact .inr ⟨fs',cs',e,rfl,rfl⟩
  ·cases h1
 ·have:(fs++args.map (frzsL [] σ).o++cs)=fs++args.map σ.o++cs:=rfl
  rw[this,ha];exact hC.mono hK
theorem Zi8 {a b:LCode}(h:awpX P a (thenA (awpX P b Q Qp) Q) Qp σ):awpX P (.seq a b) Q Qp σ:=h
theorem ZgW {id:Nat}{c:LCode}(h:awpX P c (Zcf id Q) Qp σ):awpX P (.block id c) Q Qp σ:=h
theorem ZoY {c:LCode}(I:Nat→AS→Prop)(h0:∃n τ,Sub τ σ∧I n τ)(round:∀J:Nat→AS→Prop,(∀k τ,I k τ→J k τ)→∀n τ,I n τ→awpX P c (thenA (again J n) Q) Qp τ):awpX P (.loop c) Q Qp σ:=
 let ⟨n,τ,h1,h2⟩:=h0;⟨I,n,τ,h1,h2,fun n τ h=>round I (fun _ _ h=>h) n τ h⟩
theorem Znr (d:Nat)(fz lent:List Site){f:Opd}{args:List Opd}{g:FuncId}{fs cs:List AV}{B:List (Site×Box)}{as':List AV}{R:PV→List (Site×Box)→Prop}(h1:fnOf ((frzsL fz σ).o f)=some (g,fs,cs))(h2:ZdO lent=true)(h3:lent.all (fun s=>!s.Zu1 d)=true)
  (hB:Zas (frzsL fz σ) lent 0 lent=some B) (h4:AV.Zu4 (fun x=>lent.contains x) (fs++args.map (frzsL fz σ).o++cs)=true) (ha:AV.Zu9 (inG lent) (fs++args.map (frzsL fz σ).o++cs)=as') (hC:ZcH P g as' B R)
  (hK:∀x B',R x B'→(∀p∈B',outOk lent p.1=true∧p.2.Zu3 (outOk lent)=true)∧Qp x (((dropL lent (frzsL fz σ)).Zu0 d).Zvd (renL lent d B'))):panWp P f args Qp σ:=by
 refine⟨d,fz,lent,g,fs,cs,B,?_,Zbe h2,h3,hB,h4,?_⟩
 ·unfold fnOf at h1;split at h1
  ·rename_i e;cases h1;exact .inl e
  ·rename_i fs' cs' e;cases h1;exact .inr ⟨fs',cs',e,rfl,rfl⟩
  ·cases h1
 ·rw[ha];exact hC.mono hK
theorem Zme (d:Nat)(fz lent:List Site){f:Opd}{args:List Opd}{d0:Nat}{K:AV→AS→Prop}{g:FuncId}{fs cs:List AV}{B:List (Site×Box)}{as':List AV}{R:AV→List (Site×Box)→Prop}(h1:fnOf ((frzsL fz σ).o f)=some (g,fs,cs))(h2:ZdO lent=true)(h3:lent.all (fun s=>!s.Zu1 d)=true)
  (hB:Zas (frzsL fz σ) lent 0 lent=some B) (h4:AV.Zu4 (fun x=>lent.contains x) (fs++args.map (frzsL fz σ).o++cs)=true) (ha:AV.Zu9 (inG lent) (fs++args.map (frzsL fz σ).o++cs)=as') (hC:Zai P g as' B R)
  (hK:∀r B',R r B'→r.Zu3 (outOk lent)=true∧(∀p∈B',outOk lent p.1=true∧p.2.Zu3 (outOk lent)=true)∧K (r.map (outG lent d)) (((dropL lent (frzsL fz σ)).Zu0 d).Zvd (renL lent d B'))):
  Zb8 P f args d0 K σ∨(Zc1 P f args K σ∨Zc0 P f args K σ):=by
 refine .inr (.inl ⟨d,fz,lent,g,fs,cs,B,?_,Zbe h2,h3,hB,h4,?_⟩)
 ·unfold fnOf at h1;split at h1
  ·rename_i e;cases h1;exact .inl e
  ·rename_i fs' cs' e;cases h1;exact .inr ⟨fs',cs',e,rfl,rfl⟩
  ·cases h1
 ·rw[ha];exact hC.mono hK
theorem ZoZ {c:Opd}{a b:LCode}{t:Bool}(hc:σ.o c=.pv (.bool t))(h:awpX P (if t=true then a else b) Q Qp σ):awpX P (.cond c a b) Q Qp σ:=by
 unfold awpX;rw[hc];cases t
 ·simpa using h
 ·simpa using h
theorem Znh {args:List Opd}{xs:List PV}(h:σ.pvs args=some xs):args.map σ.o=xs.map .pv:=by
 obtain⟨h1,h2⟩:=Zdr h;refine List.ext_getElem? fun j=>?_
 rw[ZxM,ZxM];cases e:args[j]? with
 |none=>rw[List.getElem?_eq_none (by have:=List.getElem?_eq_none_iff.1 e;omega)];rfl
 |some y=>
  obtain⟨x,k1,k2⟩:=h2 j y e;rw[k1,Zyq,Zyq,k2]
theorem Zar {d:Nat}{g:FuncId}{xs cs:List PV}{f:Opd}{args:List Opd}{op:LOp}{lt:Bool}{R:PV→List (Site×Box)→Prop}(fz:List Site)(h1:(frzsL fz σ).o f=.pv (.fn g [] cs))(h2:(frzsL fz σ).pvs args=some xs)
  (hc:ZcH P g ((xs++cs).map .pv) [] R) (hop:op=.call f args) (hK:∀x,R x []→Qp x ((frzsL fz σ).Zu0 d)) (hR:∀x B,R x B→B=[]) {dst:Option Nat}:loPan P ⟨dst,none,op,lt⟩ Qp σ:=by
 refine⟨rfl,.inl ⟨f,args,hop,d,fz,[],g,[],cs.map .pv,[],.inr ⟨[],cs,h1,rfl,rfl⟩,List.nodup_nil,rfl,rfl,?_,?_⟩⟩
 ·have e:=Znh h2;rw[e]
  have:∀l:List PV,AV.Zu4 (fun x=>([]:List Site).contains x) (l.map .pv)=true:=fun l=>by
   induction l with
   |nil=>rfl
   |cons a r ih=>rw[ZxZ];simp only[AV.Zu4,AV.Zu3,ih];rfl
  rw[List.nil_append,←Zyb];exact this _
 ·have e:=Znh h2;rw[e,List.nil_append,←Zyb];have hm:∀l:List PV,AV.Zu9 (inG []) (l.map .pv)=l.map .pv:=fun l=>by
   induction l with
   |nil=>rfl
   |cons a r ih=>rw[ZxZ];simp only[AV.Zu9,AV.map,ih]
  rw[hm];refine hc.mono fun x B' h=>?_
  have:=hR x B' h
  subst this;exact⟨(fun p hp=>by cases hp),hK x h⟩
end
end
section
section
variable {N:Nat}{w0:World}{m0:Env w0}{pl:List Nat}{σ:AS}{ρ:Site→Loc}{m:Mem}{act:Act}{w:World}
end
end
section
def AV.Wk (a a':AV):Prop:=∀(ρ:Site→Loc) (m:Mem) (v:Value),RdA ρ m v a→RdA ρ m v a'
theorem Zrt {nl:Option Bool}{s:Site}{n:Nat}:AV.Wk (.pv (.emp nl)) (.vec s n 0 0):=fun ρ m v h=>by
 have:=h.Zu5
 cases this with
 |emp a _ h0 h1 h2=>exact .vec0 s n 0 a h2
theorem wk_pv {x x':PV}(h:∀m v,RdP m v x→RdP m v x'):AV.Wk (.pv x) (.pv x'):=fun ρ m v hv=>.pv _ _ (h m v hv.Zu5)
section
variable {N:Nat}{w0:World}{m0:Env w0}{pl:List Nat}{σ:AS}{ρ:Site→Loc}{m:Mem}{act:Act}{w:World}
theorem Sub.wkT {t:Nat}{a:AV}(a':AV)(h:σ.t t=some a)(hw:a.Wk a'):Sub (σ.put t a') σ:=fun _ _ _ _ ρ m act w hS=>by
 refine⟨ρ,m,hS.nod,hS.sz,fun t' b k=>?_,hS.bx,hS.injk,hS.mem,hS.offk,hS.ownk,hS.keep,hS.base,hS.fro,hS.par⟩;rw[AS.Zxn]at k;split at k
 ·rename_i e;subst e;cases k;obtain⟨v,h1,h2⟩:=hS.tm t' a h;exact⟨v,h1,hw _ _ _ h2⟩
 ·exact hS.tm t' b k
theorem Sub.wkC {s:Site}{ax:List AV}{i:Nat}{a:AV}(a':AV)(h:σ.b s=some (.cells ax))(hi:ax[i]?=some a)(hw:a.Wk a'):Sub (σ.set s (.cells (ax.set i a'))) σ:=fun _ _ _ _ ρ m act w hS=>by
 refine⟨ρ,m,hS.Zw9 h ?_ (fun k hk=>?_)⟩
 ·obtain⟨h0,cs,T,h1,h2,h3⟩:=hS.bx s _ h;refine⟨h0,cs,T,h1,by rw[List.length_set];exact h2,fun j c b k1 k2=>?_⟩;by_cases e:j=i
  ·subst e;rw[ZyA (ZxN.1 hi).1]at k2;cases k2;obtain⟨q1,q2⟩:=h3 j c a k1 hi;exact⟨q1,hw _ _ _ q2⟩
  ·rw[ZyC (fun e'=>e e'.symm)]at k2;exact h3 j c b k1 k2
 ·obtain⟨r1,r2⟩:=Za5 rfl hk;exact .inl ⟨r1,r2⟩
theorem Sub.ZxI (D:Nat)(e:TypeId){n:Nat}(hn:0<n):Sub ((σ.Zu0 D).add (.loc D 0) (.arr e n [])) σ:=fun _ _ _ _ ρ m act w hS=>by
 have h:=hS.Zu0 D;have hN:=NoD.Zu0 D σ;generalize σ.Zu0 D=σ at h hN;have hρ:=Zfa ρ D 0 ⟨0,0,0,false⟩;have hu:=ZaL ρ (.loc D 0) ⟨0,0,0,false⟩;have look:∀s' b',(σ.add (.loc D 0) (.arr e n [])).b s'=some b'→(s'=.loc D 0∧b'=.arr e n [])∨(s'≠.loc D 0∧σ.b s'=some b'):=fun s' b' k=>by
  rw[AS.Zv9]at k;split at k
  ·rename_i e;cases k;exact .inl ⟨e,rfl⟩
  ·rename_i e;exact .inr ⟨e,k⟩
 have old:∀s' b' k,(σ.add (.loc D 0) (.arr e n [])).b s'=some b'→blk (upd ρ (.loc D 0) ⟨0,0,0,false⟩) w s' b' k→σ.b s'=some b'∧blk ρ w s' b' k:=fun s' b' k k1 r=>by
  rcases look s' b' k1 with⟨rfl,rfl⟩|⟨q0,q1⟩
  ·obtain⟨r1,_⟩:=Za5 rfl r;rw[hu]at r1;cases r1
  ·rw[ZbI (ZcJ ρ _ q0)]at r;exact⟨q1,r⟩
 refine⟨upd ρ (.loc D 0) ⟨0,0,0,false⟩,m,h.nod,h.sz,fun t a k=>?_,fun s' b' k=>?_,fun s1 s2 b1 b2 k k1 k2 r1 r2=>?_,h.mem,fun s' b' k k1 r=>?_,fun s' b' k k1 r=>?_,h.keep,h.base,h.fro,fun j=>(hρ _ rfl).trans (h.par j)⟩
 ·obtain⟨v,k1,k2⟩:=h.tm t a k;exact⟨v,k1,k2.mono (Le.refl m) hρ (hN.t t a k)⟩
 ·rcases look s' b' k with⟨rfl,rfl⟩|⟨q0,q1⟩
  ·exact⟨hn,.inl ⟨by rw[hu],rfl,by rw[hu]⟩⟩
  ·exact(h.bx s' b' q1).stay (Le.refl m) hρ (hN.b s' b' q1).1 (hN.b s' b' q1).2 (fun _ _=>rfl)
 ·obtain⟨p1,p2⟩:=old s1 b1 k k1 r1;obtain⟨q1,q2⟩:=old s2 b2 k k2 r2;exact h.injk s1 s2 b1 b2 k p1 q1 p2 q2
 ·obtain⟨p1,p2⟩:=old s' b' k k1 r;exact h.offk s' b' k p1 p2
 ·obtain⟨p1,p2⟩:=old s' b' k k1 r;exact h.ownk s' b' k p1 p2
end
def AS.vecT (D:Nat)(e:TypeId)(n t:Nat)(σ:AS):AS:=((σ.Zu0 D).add (.loc D 0) (.arr e n [])).put t (.vec (.loc D 0) n 0 0)
theorem vecT {σ:AS}(D:Nat)(e:TypeId)(n t:Nat){nl:Option Bool}(h:σ.t t=some (.pv (.emp nl)))(hn:0<n):Sub (σ.vecT D e n t) σ:=by
 refine Sub.trans' (b:=(σ.Zu0 D).add (.loc D 0) (.arr e n [])) ?_ (Sub.ZxI D e hn);refine Sub.wkT (a:=.pv (.emp nl)) _ ?_ Zrt;show(σ.Zu0 D).t t=_;rw[AS.Zwe,h];rfl
def AS.vecC (D:Nat)(e:TypeId)(n:Nat)(s:Site)(cs:List AV)(i:Nat)(σ:AS):AS:=((σ.Zu0 D).add (.loc D 0) (.arr e n [])).set s (.cells (cs.set i (.vec (.loc D 0) n 0 0)))
theorem vecC {σ:AS}(D:Nat)(e:TypeId)(n:Nat){s:Site}{cs:List AV}(i:Nat){nl:Option Bool}(h:(σ.Zu0 D).b s=some (.cells cs))(hi:cs[i]?=some (.pv (.emp nl)))(hn:0<n):Sub (σ.vecC D e n s cs i) σ:=by
 refine Sub.trans' (b:=(σ.Zu0 D).add (.loc D 0) (.arr e n [])) ?_ (Sub.ZxI D e hn);refine Sub.wkC (a:=.pv (.emp nl)) _ ?_ hi Zrt;have hs:s≠.loc D 0:=fun e'=>by
  subst e';rw[AS.Zvl,if_pos (by simp[Site.Zu1])]at h;cases h
 rw[AS.Zv9,if_neg hs];exact h
theorem Sub.mvV {σ:AS}(D t:Nat){s:Site}{e n lo len:Nat}{xs:List PV}(h:σ.t t=some (.vec s n lo len))(hb:σ.b s=some (.arr e n xs))(hl:lo+len=xs.length):
  Sub ((((σ.drop s).Zu0 D).add (.loc D 0) (.arr e n (xs.drop lo))).put t (.vec (.loc D 0) n 0 len)) σ:=fun _ _ _ _ ρ m act w hS=>by
 have hD:=(hS.drop s).Zu0 D;have hN:=NoD.Zu0 D (σ.drop s);obtain⟨v,hv1,hv2⟩:=hS.tm t _ h;have hBx:=hS.bx s _ hb;have hn0:0<n:=hBx.1;have hdl:(xs.drop lo).length=len:=by rw[Zyn];omega
 have gone:∀s' b',((σ.drop s).Zu0 D).b s'=some b'→s'≠s∧∃b2,σ.b s'=some b2∧b'=b2.Zu0 D:=fun s' b' k=>by
  rw[AS.Zvl]at k;split at k
  ·cases k
  ·obtain⟨b2,k2,rfl⟩:=ZxP.1 k;rw[AS.Zvz]at k2;split at k2
   ·cases k2
   ·rename_i hne;exact⟨hne,b2,k2,rfl⟩
 obtain⟨L,hL1,hL2,hL3⟩:∃L:Loc,(L.real=true→(ρ s).real=true∧L.b=(ρ s).b)∧RdA (upd ρ (.loc D 0) L) m v (.vec (.loc D 0) n 0 len)∧RdB (upd ρ (.loc D 0) L) m w (.loc D 0) (.arr e n (xs.drop lo)):=by
  rcases hv2.Zve with⟨cap,rfl,c0,c1,c2⟩|⟨a,rfl,c0,hsp⟩
  ·have hu:=ZaL ρ (.loc D 0) ⟨(ρ s).b,(ρ s).o+lo*n,cap,true⟩;refine⟨⟨(ρ s).b,(ρ s).o+lo*n,cap,true⟩,fun _=>⟨c2,rfl⟩,?_,?_⟩
   ·have:=RdA.vec (ρ:=upd ρ (.loc D 0) ⟨(ρ s).b,(ρ s).o+lo*n,cap,true⟩) (m:=m) (.loc D 0) n 0 len cap c0 (by rw[hu];simp) (by rw[hu])
    rw[hu]at this;simpa using this
   ·obtain⟨_,hB|⟨hr,cs,g1,g2,g3,g4,g5⟩⟩:=hBx
    ·rw[hB.1]at c2;cases c2
    refine⟨hn0,.inr ⟨by rw[hu],cs,by rw[hu];exact g1,?_,?_,?_,fun i x hi=>?_⟩⟩
    ·rw[hu]
     have:(lo+cap)*n≤(ρ s).cap*n:=Zyx _ c1
     rw[Nat.add_mul]at this;show(ρ s).o+lo*n+cap*n≤_;omega
    ·rw[hu,hdl];exact c0
    ·rw[hu];show cap≤_;omega
    ·rw[Zx3]at hi;obtain⟨k1,k2⟩:=g5 (lo+i) x hi;refine⟨k1,fun j c hj=>?_⟩;obtain⟨d,q1,q2,q3⟩:=k2 j c hj;rw[hu];refine⟨d,?_,q2,q3⟩;rw[←q1,Nat.add_mul];show cs[(ρ s).o+lo*n+i*n+j]?=_;congr 1;omega
  ·have hu:=ZaL ρ (.loc D 0) ⟨0,0,0,false⟩;have hx:xs.drop lo=[]:=ZyG (by rw[hdl];exact c0);refine⟨⟨0,0,0,false⟩,fun e'=>(by cases e'),?_,?_⟩
   ·subst c0;exact .vec0 _ _ _ _ hsp
   ·exact⟨hn0,.inl ⟨by rw[hu],hx,by rw[hu]⟩⟩
 have hAdd:Sat _ _ _ _ (((σ.drop s).Zu0 D).add (.loc D 0) (.arr e n (xs.drop lo))) (upd ρ (.loc D 0) L) m act w:=hD.add hN hL3 (fun hr s' b' k r=>by
   obtain⟨k1,k2⟩:=hL1 hr;obtain⟨q1,b2,q2,rfl⟩:=gone s' b' k;rw[k2]at r;exact q1 (hS.injk s' s b2 _ _ q2 hb (Za4.1 r) (ZaA k1))) (fun hr=>by
   obtain⟨k1,k2⟩:=hL1 hr;rw[k2];exact hS.off s _ hb k1) (fun hr=>by
   obtain⟨k1,k2⟩:=hL1 hr;rw[k2];exact hS.own s _ hb k1)
 refine⟨upd ρ (.loc D 0) L,m,hAdd.nod,hAdd.sz,fun t' b k=>?_,hAdd.bx,hAdd.injk,hAdd.mem,hAdd.offk,hAdd.ownk,hAdd.keep,hAdd.base,hAdd.fro,hAdd.par⟩;rw[AS.Zxn]at k;split at k
 ·rename_i e';subst e';cases k;exact⟨v,hv1,hL2⟩
 ·exact hAdd.tm t' b k
def AS.mvV (D t:Nat)(s:Site)(e n len:Nat)(ys:List PV)(σ:AS):AS:=(((σ.drop s).Zu0 D).add (.loc D 0) (.arr e n ys)).put t (.vec (.loc D 0) n 0 len)
theorem mvV {σ:AS}(D t:Nat){s:Site}{e n lo len:Nat}{xs:List PV}(ys:List PV)(h:σ.t t=some (.vec s n lo len))(hb:σ.b s=some (.arr e n xs))(hl:lo+len=xs.length)(hy:xs.drop lo=ys):Sub (σ.mvV D t s e n len ys) σ:=by
 subst hy;exact Sub.mvV D t h hb hl
end
section
mutual
theorem AV.Zv6 {d:Nat}:∀a:AV,a.has d=false→a.Zu3 (fun s=>!s.Zu1 d)=true
 |.any,_=>rfl
 |.pv _,_=>rfl
 |.ptr s _,h=>by simp only[AV.has]at h;simp[AV.Zu3,h]
 |.elt s _ _ _,h=>by simp only[AV.has]at h;simp[AV.Zu3,h]
 |.vec s _ _ _,h=>by simp only[AV.has]at h;simp[AV.Zu3,h]
 |.mp s,h=>by simp only[AV.has]at h;simp[AV.Zu3,h]
 |.yld s,h=>by simp only[AV.has]at h;simp[AV.Zu3,h]
 |.fn _ fs cs,h=>by
  simp only[AV.has,Bool.or_eq_false_iff]at h;simp only[AV.Zu3,AV.Zvu fs h.1,AV.Zvu cs h.2,Bool.and_self]
 |.agg cs,h=>by simp only[AV.has]at h;simp only[AV.Zu3,AV.Zvu cs h]
 |.tup vs,h=>by simp only[AV.has]at h;simp only[AV.Zu3,AV.Zvu vs h]
theorem AV.Zvu {d:Nat}:∀l:List AV,AV.ZvL d l=false→AV.Zu4 (fun s=>!s.Zu1 d) l=true
 |[],_=>rfl
 |a::r,h=>by
  simp only[AV.ZvL,Bool.or_eq_false_iff]at h;simp only[AV.Zu4,AV.Zv6 a h.1,AV.Zvu r h.2,Bool.and_self]
end
theorem Box.Zv6 {d:Nat}{b:Box}(h:b.has d=false):b.Zu3 (fun s=>!s.Zu1 d)=true:=by
 cases b with
 |cells azz=>exact AV.Zvu azz h
 |loop C ps nt tm st=>exact AV.Zvu _ h
 |arr e n xs=>rfl
 |map es=>rfl
 |ext E=>rfl
 |rows e e2 n els=>
  refine Zx7.2 (fun el hel=>?_);have h':els.any (RowE.has d)=false:=h
  have:=List.any_eq_false.1 h' el hel
  cases el with
  |av a=>exact AV.Zv6 a (by simpa[RowE.has]using this)
  |own xs=>rfl
def renS (D:Nat)(s x:Site):Site:=match decide (x=s)with
 |true=>.loc D 0
 |false=>x
def AS.ren (D:Nat)(s:Site)(σ:AS):AS:=⟨(σ.Zu0 D).tm.map fun p=>(p.1,p.2.map (renS D s)),(σ.Zu0 D).bx.map fun p=>(renS D s p.1,p.2.ren (renS D s))⟩
theorem Sub.ren (D:Nat)(s:Site)(σ:AS):Sub (σ.ren D s) σ:=fun _ _ _ _ ρ m act w hS=>by
 have h:=hS.Zu0 D;have hN:=NoD.Zu0 D σ;unfold AS.ren;generalize σ.Zu0 D=σ at h hN;have hu:=ZaL ρ (.loc D 0) (ρ s);have hg:∀x:Site,(!x.Zu1 D)=true→upd ρ (.loc D 0) (ρ s) (renS D s x)=ρ x:=fun x hx=>by
  unfold renS;by_cases e:x=s
  ·subst e;rw[decide_eq_true rfl];exact hu
  ·rw[decide_eq_false e];exact ZcJ ρ _ (fun e'=>by subst e';simp[Site.Zu1]at hx)
 have look:∀(l:List (Site×Box)) (s':Site) (b':Box),(l.map fun p=>(renS D s p.1,p.2.ren (renS D s))).lookup s'=some b'→∃s0 b0,l.lookup s0=some b0∧s'=renS D s s0∧b'=b0.ren (renS D s):=by
  intro l;induction l with
  |nil=>intro s' b' k;simp[List.lookup]at k
  |cons p r ih=>
   obtain⟨a,c⟩:=p;intro s' b' k;rw[ZxZ]at k;by_cases e:s'=renS D s a
   ·subst e;rw[Zag]at k;cases k;exact⟨a,c,Zag,rfl,rfl⟩
   ·rw[Zad e]at k;obtain⟨s0,b0,h1,h2,h3⟩:=ih s' b' k;refine⟨s0,b0,?_,h2,h3⟩;rw[Zad (fun e'=>e (by rw[h2,e']))];exact h1
 have noD:∀s0 b0,σ.b s0=some b0→(!s0.Zu1 D)=true∧b0.Zu3 (fun s=>!s.Zu1 D)=true:=fun s0 b0 k=>by
  obtain⟨k1,k2⟩:=hN.b s0 b0 k;exact⟨by rw[k1];rfl,Box.Zv6 k2⟩
 refine⟨upd ρ (.loc D 0) (ρ s),m,h.nod,h.sz,fun t a k=>?_,fun s' b' k=>?_,fun s1 s2 b1 b2 k k1 k2 r1 r2=>?_,h.mem,fun s' b' k k1 r=>?_,fun s' b' k k1 r=>?_,h.keep,h.base,h.fro,fun j=>(ZcJ ρ _ (by simp)).trans (h.par j)⟩
 ·have k':(σ.t t).map (AV.map (renS D s))=some a:=by rw[←k];exact(Zbu (AV.map (renS D s)) t σ.tm).symm
  obtain⟨c,k1,rfl⟩:=ZxP.1 k';obtain⟨v,k2,k3⟩:=h.tm t c k1;exact⟨v,k2,k3.map hg (AV.Zv6 c (hN.t t c k1))⟩
 ·obtain⟨s0,b0,k1,rfl,rfl⟩:=look σ.bx s' b' k;obtain⟨q1,q2⟩:=noD s0 b0 k1;exact(h.bx s0 b0 k1).ren hg q1 q2
 ·obtain⟨a1,c1,p1,rfl,rfl⟩:=look σ.bx s1 b1 k1;obtain⟨a2,c2,p2,rfl,rfl⟩:=look σ.bx s2 b2 k2;rw[h.injk a1 a2 c1 c2 k p1 p2 ((ZaF (hg a1 (noD a1 c1 p1).1)).1 r1) ((ZaF (hg a2 (noD a2 c2 p2).1)).1 r2)]
 ·obtain⟨a1,c1,p1,rfl,rfl⟩:=look σ.bx s' b' k1;exact h.offk a1 c1 k p1 ((ZaF (hg a1 (noD a1 c1 p1).1)).1 r)
 ·obtain⟨a1,c1,p1,rfl,rfl⟩:=look σ.bx s' b' k1;exact h.ownk a1 c1 k p1 ((ZaF (hg a1 (noD a1 c1 p1).1)).1 r)
section
variable {P:Program}{σ:AS}{K:AV→AS→Prop}
theorem ZlC (d i:Nat)(lent:List Site){f:Opd}{args:List Opd}{d0:Nat}{s:Site}{B:List (Site×Box)}{as':List AV}{R:AV→List (Site×Box)→Prop}(h1:σ.o f=.yld s)(hi:lent[i]?=some s)(h2:ZdO lent=true)(h3:lent.all (fun s=>!s.Zu1 d)=true)
  (hB:Zas σ lent 0 lent=some B) (h4:AV.Zu4 (fun x=>lent.contains x) (args.map σ.o)=true) (ha:AV.Zu9 (inG lent) (args.map σ.o)=as') (hC:Zck P i as' B R)
  (hK:∀r B',R r B'→r.Zu3 (outOk lent)=true∧(∀p∈B',outOk lent p.1=true∧p.2.Zu3 (outOk lent)=true)∧K (r.map (outG lent d)) (((dropL lent σ).Zu0 d).Zvd (renL lent d B'))):
  Zb8 P f args d0 K σ∨(Zc1 P f args K σ∨Zc0 P f args K σ):=by
 refine .inr (.inr ⟨d,[],lent,s,i,B,h1,hi,Zbe h2,h3,hB,h4,?_⟩)
 have:args.map (frzsL [] σ).o=args.map σ.o:=rfl
 rw[this,ha];exact hC.mono hK
end
theorem ZaC {P:Program}{f:FuncId}{F:LFn}{args:List AV}{B:List (Site×Box)}{R:AV→List (Site×Box)→Prop}(hm:P.follows .mixedOrders=true)(hf:litF P f=some F)(hn:args.length≤F.nt)
  (h:awpS P F.code (finQ (fun σ=>∃outs,retB outs F.res R σ)) ⟨initT 0 args,B⟩):Zai P f args B R:=ZaW hm hf hn (fun _ ⟨_,h⟩=>Zjl h) (ZaZ h)
theorem cE (F:LFn){f:FuncId}{args:List AV}{B:List (Site×Box)}{R:AV→List (Site×Box)→Prop}(h:awpS Tryz.prog F.code (finQ (fun σ=>∃outs,retB outs F.res R σ)) ⟨initT 0 args,B⟩)(hf:litF Tryz.prog f=some F:=by kernel_rfl)(hn:args.length≤F.nt:=by exact ZxK rfl):Zai Tryz.prog f args B R:=ZaC mixed hf hn h
end
section
def ZaT (P:Program)(f:FuncId)(azz:List AV)(B:List (Site×Box))(R:AV→List (Site×Box)→Prop)(Rp:PV→List (Site×Box)→Prop):Prop:=
 Callable P f∧∀(w:World) (m:Mem) (ρ:Site→Loc) (vs:Array Value),Bxs ρ m w B→(Le m w.mem∧Glob m w∧(B.map (·.1)).Nodup)→vs.size=azz.length→(∀(j:Nat) (d:Value) (c:AV),vs[j]?=some d→azz[j]?=some c→RdA ρ m d c)→
  Calls P f vs w (fun e w'=>CPost w m ρ B R e w'∨PPost w m ρ B Rp e w')
section
variable {P:Program}{f:FuncId}{azz:List AV}{B:List (Site×Box)}{R:AV→List (Site×Box)→Prop}{Rp:PV→List (Site×Box)→Prop}
theorem ZaT.ret (h:ZaT P f azz B R Rp)(hn:∀x B',¬Rp x B'):Zai P f azz B R:=
 ⟨h.1,fun w m ρ vs h1 h2 h3 h4=>(h.2 w m ρ vs h1 h2 h3 h4).mono fun e w' k=>by
  rcases k with k|⟨v,rfl,v',r,B',ρ',m',k1,⟨x,k2,k3⟩,k4⟩
  ·exact k
  ·exact absurd k3 (hn _ _)⟩
theorem ZaT.pan (h:ZaT P f azz B R Rp)(hn:∀r B',¬R r B'):ZcH P f azz B Rp:=
 ⟨h.1,fun w m ρ vs h1 h2 h3 h4=>(h.2 w m ρ vs h1 h2 h3 h4).mono fun e w' k=>by
  rcases k with⟨v,r,B',ρ',m',k1,k2,k3⟩|k
  ·exact absurd k2 (hn _ _)
  ·exact k⟩
theorem ZaT.mono {R':AV→List (Site×Box)→Prop}{Rp':PV→List (Site×Box)→Prop}(h:ZaT P f azz B R Rp)(h1:∀r B',R r B'→R' r B')(h2:∀x B',Rp x B'→Rp' x B'):ZaT P f azz B R' Rp':=
 ⟨h.1,fun w m ρ vs a1 a2 a3 a4=>(h.2 w m ρ vs a1 a2 a3 a4).mono fun e w' k=>by
  rcases k with⟨v,r,B',ρ',m',k1,k2,k3⟩|⟨v,k0,v',r,B',ρ',m',k1,⟨x,k2,k3⟩,k4⟩
  ·exact .inl ⟨v,r,B',ρ',m',k1,h1 _ _ k2,k3⟩
  ·exact .inr ⟨v,k0,v',r,B',ρ',m',k1,⟨x,k2,h2 _ _ k3⟩,k4⟩⟩
theorem Zcl.out {fn:Func}{w:World}{m:Mem}{ρ:Site→Loc}{hg:Glob m w}{N:Nat}{ch:List PanicEntry}{act':Act}{w':World}(hq:Zcl N w ⟨m,ρ,[],hg,false⟩ (lentB ρ w B) (panF Rp) ch act' w'){R':Ending→World→Prop}(hR:∀e w',PPost w m ρ B Rp e w'→R' e w'):
  LeavesInM (FF none) 1 P fn act'.tmps R' act'.defers (.panicking ch) w':=by
 obtain⟨v,x,τ,ρ1,m1,act1,rfl,hdf,_,⟨outs,q3,q4,q5⟩,hT,hv⟩:=hq;obtain⟨ds,hd1,hd2,hd3⟩:=hT.nod;have hd1:=hd1.nil;have hT0:Sat N w ⟨m,ρ,[],hg,false⟩ (lentB ρ w B) τ ρ1 m1 { act1 with defers:=[]} w':=⟨⟨[],mix0,nod0,fun D hD=>by cases hD⟩,hT.sz,hT.tm,hT.bx,hT.injk,hT.mem,hT.offk,hT.ownk,hT.keep,hT.base,hT.fro,hT.par⟩;obtain⟨w2,hT2,hL⟩:=Zfu (P:=P) (fn:=fn) (R:=R') (ch:=[{ v,recovered:=false }]) (tm:=act'.tmps) ds hd2.1 hd3 rfl hT0;rw[←hdf,hd1];refine hL (hR _ _ ?_);obtain⟨ρ',g1,g2,g3,g4⟩:=ZhH hT2 q3 q4;refine⟨v,rfl,v,.pv x,_,ρ',m1,rfl,⟨x,rfl,q5⟩,g2,hT2.base.1,hT2.mem,fun i=>(g3 i).trans (hT2.par i),fun s b i k r=>?_,hT2.fro,.pv _ _ hv.Zu5,hT2.keep⟩;obtain⟨s0,b0,e1,e2⟩:=g4 s b i k r;exact hT2.ownk s0 b0 i e1 e2
theorem ZcI {F:LFn}(hm:P.follows .mixedOrders=true)(hf:litF P f=some F)(hn:azz.length≤F.nt)(h:awpX P F.code (finQ (retWp F.res R)) (panF Rp) ⟨initT 0 azz,B⟩):ZaT P f azz B R Rp:=by
 unfold litF at hf;split at hf
 ·rename_i fn hfn;split at hf
  ·cases hf
  ·rename_i hname;split at hf
   ·rename_i c hc;split at hf
    ·rename_i l rs hl hrs;cases hf;refine⟨⟨fn,c,hfn,by simpa using hname,hc⟩,fun w m ρ vs hB hmw hvs hrd=>?_⟩;refine(callsIn_wide (n:=1)).1 (callsIn_of_wp_marks (F:=FF none) hfn hc trivial ?_ rfl);have hS:Sat fn.ntmps w ⟨m,ρ,[],hmw.2.1,false⟩ (lentB ρ w B) ⟨initT 0 azz,B⟩ ρ m { tmps:=vs++Array.replicate (fn.ntmps-vs.size) undef,defers:=[]} w:=by
      have hn':azz.length≤fn.ntmps:=hn;refine⟨⟨[],mix0,nod0,fun D hD=>by cases hD⟩,by simp;omega,fun t a k=>?_,hB.bx,hB.injk,hmw.1,hB.offk,fun s b i k r=>.inr (Zcx k r),Keep.ZvU _ _,⟨Le.refl _,hB.free hmw.2.2⟩,fun b o v k=>.inl k,fun i=>rfl⟩;obtain⟨_,k1⟩:=ZcS azz 0 t a k;rw[Nat.sub_zero]at k1;have hlt:t<vs.size:=by rw[hvs];exact(ZxN.1 k1).1
      exact⟨vs[t],by rw[Array.getElem?_append,if_pos hlt,Zys hlt],hrd t _ a (Zys hlt) k1⟩
     refine wpIn_mono (ZgV (ro:=none) (fun l e=>by cases e) hm c l _ (fun e=>by cases e) (fun e=>by cases e) hl h hS) (fun e act' w' hq=>?_);have fin:Aft fn.ntmps w ⟨m,ρ,[],hmw.2.1,false⟩ (lentB ρ w B) (retWp rs R) act' w'→LeavesInM (FF none) 1 P fn act'.tmps (fun e w'=>CPost w m ρ B R e w'∨PPost w m ρ B Rp e w') act'.defers .returning w':=by
      rintro⟨τ,ρ1,m1,hFin,hT⟩;obtain⟨ds,hd1,hd2,hd3⟩:=hT.nod;have hd1:=hd1.nil;have hT0:Sat fn.ntmps w ⟨m,ρ,[],hmw.2.1,false⟩ (lentB ρ w B) τ ρ1 m1 { act' with defers:=[]} w':=⟨⟨[],mix0,nod0,fun D hD=>by cases hD⟩,hT.sz,hT.tm,hT.bx,hT.injk,hT.mem,hT.offk,hT.ownk,hT.keep,hT.base,hT.fro,hT.par⟩;obtain⟨w2,hT2,hL⟩:=Zep (P:=P) (fn:=fn) (R:=fun e w'=>CPost w m ρ B R e w'∨PPost w m ρ B Rp e w') ds hd2.1 hd3 rfl hT0;rw[hd1];refine hL ?_;obtain⟨fz,outs,la,q1,q2,q3,q4,q5⟩:=hFin;obtain⟨m2,hF⟩:=hT2.frzL fz;obtain⟨vs',r1,r2,r3⟩:=ZeT fn.results.toList rs la hrs q1 hF;obtain⟨ρ',g1,g2,g3,g4⟩:=ZhH hF q3 q4;have hrd2:=ZkM r2 r3;refine⟨_,?_,.inl ⟨_,_,_,ρ',m2,rfl,q5,g2,hF.base.1,hF.mem,fun i=>(g3 i).trans (hF.par i),fun s b i k r=>?_,hF.fro,hrd2.map g1 q2,hF.keep⟩⟩
      ·show(do let vs ←fn.results.mapM (resFn act'.tmps);pure (if h:vs.size=1 then vs[0]else .tuple vs):Sem Value).run P w2=_;rw[Sem.run_bind,Array.mapM_eq_mapM_toList,Sem.run_map,r1];rfl
      ·obtain⟨s0,b0,e1,e2⟩:=g4 s b i k r;exact hF.ownk s0 b0 i e1 e2
     cases e with
     |normal=>exact fin hq
     |ret=>exact fin hq
     |exit id=>obtain⟨τ,ρ1,m1,q,_⟩:=hq;exact q.elim
     |goto l=>exact hq.elim
     |outgrown=>exact hq.elim
     |panic ch=>exact Zcl.out hq (fun _ _ k=>.inr k)
    ·cases hf
   ·cases hf
 ·cases hf
theorem ZbA {c:LCode}{Q:AEx→AS→Prop}{Qp:PV→AS→Prop}{σ:AS}(h:awpS P c Q σ):awpX P c Q Qp σ:=Zc4 (ZaZ h)
end
theorem cX (F:LFn){f:FuncId}{azz:List AV}{B:List (Site×Box)}{R:AV→List (Site×Box)→Prop}{Rp:PV→List (Site×Box)→Prop}(h:awpX Tryz.prog F.code (finQ (retWp F.res R)) (panF Rp) ⟨initT 0 azz,B⟩)(hf:litF Tryz.prog f=some F:=by kernel_rfl)(hn:azz.length≤F.nt:=by exact ZxK rfl):ZaT Tryz.prog f azz B R Rp:=ZcI mixed hf hn h
end
section
theorem Zbm {m:Mem}{v:Value}{nl:Option Bool}{n:Nat}(h:RdP m v (.emp nl)):RdP m v (.lst false n []):=by
 cases h with
 |emp a _ h0 h1 h2=>exact .lst a 0 false n [] (fun _=>[]) (by simp) (by simp) (fun _=>rfl) h2 (fun hh=>by cases hh) (fun i x hx=>by simp at hx) (fun i x hx=>by simp at hx) (fun i x j d c hx=>by simp at hx)
theorem ZrV {m:Mem}{v:Value}{cs cs':List PV}(hl:cs.length=cs'.length)(hw:∀(j:Nat) (c c':PV) (d:Value),cs[j]?=some c→cs'[j]?=some c'→RdP m d c→RdP m d c')(h:RdP m v (.agg cs)):RdP m v (.agg cs'):=by
 cases h with
 |agg vs _ h0 h1 h2=>
  refine .agg vs cs' (by omega) h1 (fun j d c k1 k2=>?_);have hj:j<cs.length:=by have:=(ZxN.1 k2).1;omega
  exact hw j cs[j] c d (ZxL hj) k2 (h2 j d _ k1 (ZxL hj))
theorem Zai.Zwz {P:Program}{f:FuncId}{xs ys:List PV}{B:List (Site×Box)}{R:AV→List (Site×Box)→Prop}(h:Zai P f (ys.map .pv) B R)(hl:xs.length=ys.length)(hw:∀(j:Nat) (x y:PV) (m:Mem) (v:Value),xs[j]?=some x→ys[j]?=some y→RdP m v x→RdP m v y):Zai P f (xs.map .pv) B R:=by
 refine⟨h.1,fun w m ρ vs h1 h2 h3 h4=>h.2 w m ρ vs h1 h2 (by simpa[hl]using h3) (fun j d c k1 k2=>?_)⟩;rw[ZxM]at k2;obtain⟨y,hy,rfl⟩:=ZxP.1 k2;have hj:j<xs.length:=by rw[hl];exact(ZxN.1 hy).1
 have:=h4 j d (.pv xs[j]) k1 (by rw[ZxM,ZxL hj];rfl)
 exact .pv _ _ (hw j _ _ _ _ (ZxL hj) hy this.Zu5)
theorem Zai.ZvA {P:Program}{f:FuncId}{xs:List AV}{B:List (Site×Box)}{x':PV}(h:Zai P f xs B (fun r B=>∃x,r=.pv x∧B=[]∧∀m v,RdP m v x→RdP m v x')):Zai P f xs B (fun r B=>r=.pv x'∧B=[]):=by
 refine⟨h.1,fun w m ρ vs h1 h2 h3 h4=>(h.2 w m ρ vs h1 h2 h3 h4).mono fun e w' ⟨v,r,B',ρ',m',k1,⟨x,k2,k3,hw⟩,k4,k5,k6,k7,k8,k9,k10,k11⟩=>?_⟩;subst k2 k3;exact⟨v,.pv x',[],ρ',m',k1,⟨rfl,rfl⟩,k4,k5,k6,k7,k8,k9,.pv _ _ (hw _ _ k10.Zu5),k11⟩
theorem Zmz {m:Mem}{v:Value}{cs cs':List PV}(hl:cs.length=cs'.length)(hw:∀(j:Nat) (c c':PV) (d:Value),cs[j]?=some c→cs'[j]?=some c'→RdP m d c→RdP m d c')(h:RdP m v (.tup cs)):RdP m v (.tup cs'):=by
 cases h with
 |tup vs _ h0 h2=>
  refine .tup vs cs' (by omega) (fun j d c k1 k2=>?_);have hj:j<cs.length:=by have:=(ZxN.1 k2).1;omega
  exact hw j cs[j] c d (ZxL hj) k2 (h2 j d _ k1 (ZxL hj))
theorem Zuo {m:Mem}{v:Value}{nn:Bool}{n:Nat}{cs cs':List PV}(hl:cs.length=cs'.length)(hc:∀(j:Nat) (c:PV),cs'[j]?=some c→c.cells.length=n)(hw:∀(j:Nat) (c c':PV) (k:Nat) (d:Value) (x x':PV),cs[j]?=some c→cs'[j]?=some c'→c.cells[k]?=some x→c'.cells[k]?=some x'→RdP m d x→RdP m d x')(h:RdP m v (.lst nn n cs)):RdP m v (.lst nn n cs'):=by
 cases h with
 |lst a cap _ _ _ ds h0 h1 h2 h3 h4 h5 h6 h7=>
  rw[hl];have key:∀(i:Nat) (x:PV),cs'[i]?=some x→∃y,cs[i]?=some y:=fun i x hx=>by
   have:i<cs.length:=by rw[hl];exact(ZxN.1 hx).1
   exact⟨cs[i],ZxL this⟩
  refine .lst a cap nn n cs' ds (by omega) h1 h2 h3 h4 (fun i x hx=>?_) (fun i x hx=>?_) (fun i x j d c hx hd hc'=>?_)
  ·obtain⟨y,hy⟩:=key i x hx;exact h5 i y hy
  ·obtain⟨y,hy⟩:=key i x hx;obtain⟨a1,a2,a3⟩:=h6 i y hy;exact⟨a1,hc i x hx,a3⟩
  ·obtain⟨y,hy⟩:=key i x hx;obtain⟨a1,a2,a3⟩:=h6 i y hy;have hj:j<y.cells.length:=by
    have:=(ZxN.1 hd).1
    omega
   exact hw i y x j d _ c hy hx (ZxL hj) hc' (h7 i y j d _ hy hd (ZxL hj))
end
section
attribute [local simp] AS.exp expG Box.ren AV.map AV.Zu9 Zau noRet Site.Zu6 Box.Zu3 AV.Zu3 AV.Zu4 retB dropL AS.Zvd renL outG outOk Zas inG fnOf lookA Zyc
attribute [local simp] Box.Zu0 Site.Zu1
section
def errP (e:Int):PV:=.iface 209 (.agg [.int .i64 e])
theorem ask_t (e:Int):Gives Tryz.prog 162 [.bool true,.int .i64 e] (.tup []):=by
 refine cS L162 ?_;simp[L162]
theorem ask_f (e:Int):ZcH Tryz.prog 162 [.pv (.bool false),.pv (.int .i64 e)] [] (fun x B=>x=errP e∧B=[]):=by
 refine(ZcI (R:=fun _ _=>False) mixed L162_ok (ZxK rfl) ?_).pan (fun _ _ h=>h);show awpX _ (.seq _ (.cond _ _ _)) _ _ _;refine Zan ?_;simp[hold];refine ZoZ (t:=true) (by simp) ?_;refine Zeb [_,_,_] ?_;simp[hold];refine⟨rfl,.inr ⟨_,_,_,rfl,by simp;exact⟨rfl,rfl⟩,?_⟩⟩;exact⟨[],rfl,(fun s hs=>by cases hs),rfl,rfl⟩
theorem Zbo (n lo hi:Int):Gives Tryz.prog 219 [.int .i64 n,.int .i64 lo,.int .i64 hi] (.bool (decide (lo≤n)&&decide (n≤hi))):=by
 refine cS L219 ?_;by_cases h:lo≤n<;>by_cases h':n≤hi<;>simp[L219,h,h']
end
end
end Go.Proofs.YtfpmaennjlggeaaGreatDoor
namespace Go.Proofs
open Go.RowKit
section
open Go.Shelf
def Tryz.Zv5:Go.Shelf.Ren:=⟨fun|156=>102|165=>149|166=>48|169=>54|240=>94|241=>183|276=>146|277=>208|n=>n,fun|31=>22|9=>9|3=>3|4=>4|0=>0|20=>20|72=>130|76=>133|70=>128|37=>76|75=>132|127=>189|164=>225|5=>5|80=>141|n=>n,fun|n=>n⟩
theorem Tryz.ZwR:Go.Proofs.Lays.n156 Tryz.prog Tryz.Zv5:={
 mixed:=by kernel_rfl
 f156:=Tryz.func102.trans (congrArg some (by kernel_rfl))
 f165:=Tryz.func149.trans (congrArg some (by kernel_rfl))
 f166:=Tryz.func48.trans (congrArg some (by kernel_rfl))
 f169:=Tryz.func54.trans (congrArg some (by kernel_rfl))
 f240:=Tryz.func94.trans (congrArg some (by kernel_rfl))
 f241:=Tryz.func183.trans (congrArg some (by kernel_rfl))
 f276:=Tryz.func146.trans (congrArg some (by kernel_rfl))
 f277:=Tryz.func208.trans (congrArg some (by kernel_rfl))
 t0:=Tryz.underlying0
 a0:=Tryz.isAgg0
 z0:=Tryz.sizeOf0
 v0:=Tryz.zeroValue0
 t3:=Tryz.underlying3
 a3:=Tryz.isAgg3
 z3:=Tryz.sizeOf3
 v3:=Tryz.zeroValue3
 t4:=Tryz.underlying4
 a4:=Tryz.isAgg4
 z4:=Tryz.sizeOf4
 v4:=Tryz.zeroValue4
 t9:=Tryz.underlying9
 a9:=Tryz.isAgg9
 z9:=Tryz.sizeOf9
 v9:=Tryz.zeroValue9
 t20:=Tryz.underlying20
 a20:=Tryz.isAgg20
 z20:=Tryz.sizeOf20
 v20:=Tryz.zeroValue20
 t31:=Tryz.underlying22
 a31:=Tryz.isAgg22
 z31:=Tryz.sizeOf22
 v31:=Tryz.zeroValue22
 t37:=Tryz.underlying76
 a37:=Tryz.isAgg76
 z37:=Tryz.sizeOf76
 v37:=Tryz.zeroValue76
 t70:=Tryz.underlying128
 a70:=Tryz.isAgg128
 z70:=Tryz.sizeOf128
 v70:=Tryz.zeroValue128
 t72:=Tryz.underlying130
 a72:=Tryz.isAgg130
 z72:=Tryz.sizeOf130
 v72:=Tryz.zeroValue130
 t75:=Tryz.underlying132
 a75:=Tryz.isAgg132
 z75:=Tryz.sizeOf132
 v75:=Tryz.zeroValue132
 t76:=Tryz.underlying133
 a76:=Tryz.isAgg133
 z76:=Tryz.sizeOf133
 v76:=Tryz.zeroValue133
 t127:=Tryz.underlying189
 a127:=Tryz.isAgg189
 z127:=Tryz.sizeOf189
 v127:=Tryz.zeroValue189
 t164:=Tryz.underlying225
 a164:=Tryz.isAgg225
 z164:=Tryz.sizeOf225
 v164:=Tryz.zeroValue225 }
theorem Tryz.Zvt:Builder.Extra Tryz.prog Tryz.Zv5:={
 sizeBuilder:=by kernel_rfl
 liesBuilder:=by kernel_rfl
 t5:=Tryz.underlying5
 a5:=Tryz.isAgg5
 z5:=Tryz.sizeOf5
 v5:=Tryz.zeroValue5
 infoByte:=by kernel_rfl
 cellsByte:=by kernel_rfl
 sizeByte:=by kernel_rfl
 neB5:=by decide }
open Go.RowKit in
theorem Tryz.strings_Join_none (a:Option Addr)(c:Nat)(sep:ByteArray)(w:World):
  Calls Tryz.prog 102 #[.slice a 0 c,.string sep] w fun e w'=>e=.returned (.string ⟨#[]⟩)∧w'=w:=Any.strings_Join_none Tryz.ZwR Tryz.Zvt a c sep w
open Go.RowKit in
theorem Tryz.strings_Join (bk o c:Nat)(xs:List ByteArray)(sep:ByteArray)(w:World)(hcells:∀(j:Nat) x,xs[j]?=some x→w.cell? ⟨bk,o+j,none⟩=some (.string x))(hbk:bk<w.heap.size)(hN:xs.length≤140737488355328)(hcap:xs.length≤c)(hlen:(Lib.join (xs.map (·.data.toList)) sep.data.toList).length≤140737488355328):
  Calls Tryz.prog 102 #[.slice (some ⟨bk,o,none⟩) xs.length c,.string sep] w fun e w'=>e=.returned (.string ⟨(Lib.join (xs.map (·.data.toList)) sep.data.toList).toArray⟩)∧Below w.heap.size w w':=Any.strings_Join Tryz.ZwR Tryz.Zvt bk o c xs sep w hcells hbk hN hcap hlen
def Tryz.Zwp:Go.Shelf.Ren:=⟨fun|171=>101|243=>148|246=>182|283=>204|284=>205|285=>206|286=>207|129=>177|317=>228|318=>229|319=>230|320=>231|337=>251|338=>252|n=>n,fun|3=>3|9=>9|2=>2|4=>4|171=>277|0=>0|53=>236|37=>76|5=>5|173=>279|212=>298|51=>233|20=>20|213=>299|46=>192|232=>322|233=>323|n=>n,fun|17=>0|18=>4|19=>5|n=>n⟩
theorem Tryz.ZwY:Go.Proofs.LaysM.n171 Tryz.prog Tryz.Zwp:={
 mixed:=by kernel_rfl
 f129:=Tryz.func177.trans (congrArg some (by kernel_rfl))
 f171:=Tryz.func101.trans (congrArg some (by kernel_rfl))
 f243:=Tryz.func148.trans (congrArg some (by kernel_rfl))
 f246:=Tryz.func182.trans (congrArg some (by kernel_rfl))
 f283:=Tryz.func204.trans (congrArg some (by kernel_rfl))
 f284:=Tryz.func205.trans (congrArg some (by kernel_rfl))
 f285:=Tryz.func206.trans (congrArg some (by kernel_rfl))
 f286:=Tryz.func207.trans (congrArg some (by kernel_rfl))
 f317:=Tryz.func228.trans (congrArg some (by kernel_rfl))
 f318:=Tryz.func229.trans (congrArg some (by kernel_rfl))
 f319:=Tryz.func230.trans (congrArg some (by kernel_rfl))
 f320:=Tryz.func231.trans (congrArg some (by kernel_rfl))
 f337:=Tryz.func251.trans (congrArg some (by kernel_rfl))
 f338:=Tryz.func252.trans (congrArg some (by kernel_rfl))
 t0:=Tryz.underlying0
 a0:=Tryz.isAgg0
 z0:=Tryz.sizeOf0
 v0:=Tryz.zeroValue0
 t2:=Tryz.underlying2
 a2:=Tryz.isAgg2
 z2:=Tryz.sizeOf2
 v2:=Tryz.zeroValue2
 t3:=Tryz.underlying3
 a3:=Tryz.isAgg3
 z3:=Tryz.sizeOf3
 v3:=Tryz.zeroValue3
 t4:=Tryz.underlying4
 a4:=Tryz.isAgg4
 z4:=Tryz.sizeOf4
 v4:=Tryz.zeroValue4
 t5:=Tryz.underlying5
 a5:=Tryz.isAgg5
 z5:=Tryz.sizeOf5
 v5:=Tryz.zeroValue5
 t9:=Tryz.underlying9
 a9:=Tryz.isAgg9
 z9:=Tryz.sizeOf9
 v9:=Tryz.zeroValue9
 t20:=Tryz.underlying20
 a20:=Tryz.isAgg20
 z20:=Tryz.sizeOf20
 v20:=Tryz.zeroValue20
 t37:=Tryz.underlying76
 a37:=Tryz.isAgg76
 z37:=Tryz.sizeOf76
 v37:=Tryz.zeroValue76
 t46:=Tryz.underlying192
 a46:=Tryz.isAgg192
 z46:=Tryz.sizeOf192
 v46:=Tryz.zeroValue192
 t51:=Tryz.underlying233
 a51:=Tryz.isAgg233
 z51:=Tryz.sizeOf233
 v51:=Tryz.zeroValue233
 t53:=Tryz.underlying236
 a53:=Tryz.isAgg236
 z53:=Tryz.sizeOf236
 v53:=Tryz.zeroValue236
 t171:=Tryz.underlying277
 a171:=Tryz.isAgg277
 z171:=Tryz.sizeOf277
 v171:=Tryz.zeroValue277
 t173:=Tryz.underlying279
 a173:=Tryz.isAgg279
 z173:=Tryz.sizeOf279
 v173:=Tryz.zeroValue279
 t212:=Tryz.underlying298
 a212:=Tryz.isAgg298
 z212:=Tryz.sizeOf298
 v212:=Tryz.zeroValue298
 t213:=Tryz.underlying299
 a213:=Tryz.isAgg299
 z213:=Tryz.sizeOf299
 t232:=Tryz.underlying322
 a232:=Tryz.isAgg322
 z232:=Tryz.sizeOf322
 v232:=Tryz.zeroValue322
 t233:=Tryz.underlying323
 a233:=Tryz.isAgg323
 z233:=Tryz.sizeOf323
 v233:=Tryz.zeroValue323
 g17:=by kernel_rfl
 g18:=by kernel_rfl
 g19:=by kernel_rfl
 i0:=by kernel_rfl
 i2:=by kernel_rfl
 i3:=by kernel_rfl
 i4:=by kernel_rfl
 i5:=by kernel_rfl
 i9:=by kernel_rfl
 i20:=by kernel_rfl
 i37:=by kernel_rfl
 i46:=by kernel_rfl
 i51:=by kernel_rfl
 i53:=by kernel_rfl
 i171:=by kernel_rfl
 i173:=by kernel_rfl
 i212:=by kernel_rfl
 i232:=by kernel_rfl
 i233:=by kernel_rfl
 m17:=by kernel_rfl
 m18:=by kernel_rfl
 m19:=by kernel_rfl }
open Go.RowKit Go.Sort Go.Lib in
theorem Tryz.strconv_Itoa (n : Int) (h0 : -9223372036854775808 ≤ n) (h1 : n ≤ 9223372036854775807) (w : World) (htab : Lib.TabIs Tryz.prog w "internal/strconv.uint64pow10" .u64 Lib.pow10Tab) :
  Calls Tryz.prog 101 #[.int .i64 n] w fun e w'=>e=.returned (.string ⟨(Lib.itoa n).toArray⟩)∧∃k os,w'=grow (w.drewN k) os:=Any.strconv_Itoa Tryz.ZwY n h0 h1 w htab
def Tryz.Zwq:Go.Shelf.Ren:=⟨fun|172=>193|244=>224|245=>225|247=>245|279=>246|280=>247|281=>248|282=>249|287=>260|316=>261|171=>101|205=>262|321=>267|322=>268|243=>148|246=>182|283=>204|284=>205|285=>206|286=>207|129=>177|317=>228|318=>229|319=>230|320=>231|337=>251|338=>252|n=>n,fun|9=>9|3=>3|75=>132|76=>133|4=>4|5=>5|167=>309|37=>76|0=>0|85=>310|2=>2|168=>312|53=>236|175=>316|46=>192|210=>320|127=>189|145=>333|143=>331|21=>21|171=>277|173=>279|212=>298|51=>233|20=>20|213=>299|232=>322|233=>323|80=>141|n=>n,fun|15=>2|16=>3|17=>0|18=>4|19=>5|n=>n⟩
theorem Tryz.Zwk:Go.Proofs.LaysC.n172 Tryz.prog Tryz.Zwq:={
 mixed:=by kernel_rfl
 f129:=Tryz.func177.trans (congrArg some (by kernel_rfl))
 f171:=Tryz.func101.trans (congrArg some (by kernel_rfl))
 f172:=Tryz.func193.trans (congrArg some (by kernel_rfl))
 f205:=Tryz.func262.trans (congrArg some (by kernel_rfl))
 f243:=Tryz.func148.trans (congrArg some (by kernel_rfl))
 f244:=Tryz.func224.trans (congrArg some (by kernel_rfl))
 f245:=Tryz.func225.trans (congrArg some (by kernel_rfl))
 f246:=Tryz.func182.trans (congrArg some (by kernel_rfl))
 f247:=Tryz.func245.trans (congrArg some (by kernel_rfl))
 f279:=Tryz.func246.trans (congrArg some (by kernel_rfl))
 f280:=Tryz.func247.trans (congrArg some (by kernel_rfl))
 f281:=Tryz.func248.trans (congrArg some (by kernel_rfl))
 f282:=Tryz.func249.trans (congrArg some (by kernel_rfl))
 f283:=Tryz.func204.trans (congrArg some (by kernel_rfl))
 f284:=Tryz.func205.trans (congrArg some (by kernel_rfl))
 f285:=Tryz.func206.trans (congrArg some (by kernel_rfl))
 f286:=Tryz.func207.trans (congrArg some (by kernel_rfl))
 f287:=Tryz.func260.trans (congrArg some (by kernel_rfl))
 f316:=Tryz.func261.trans (congrArg some (by kernel_rfl))
 f317:=Tryz.func228.trans (congrArg some (by kernel_rfl))
 f318:=Tryz.func229.trans (congrArg some (by kernel_rfl))
 f319:=Tryz.func230.trans (congrArg some (by kernel_rfl))
 f320:=Tryz.func231.trans (congrArg some (by kernel_rfl))
 f321:=Tryz.func267.trans (congrArg some (by kernel_rfl))
 f322:=Tryz.func268.trans (congrArg some (by kernel_rfl))
 f337:=Tryz.func251.trans (congrArg some (by kernel_rfl))
 f338:=Tryz.func252.trans (congrArg some (by kernel_rfl))
 t0:=Tryz.underlying0
 a0:=Tryz.isAgg0
 z0:=Tryz.sizeOf0
 v0:=Tryz.zeroValue0
 t2:=Tryz.underlying2
 a2:=Tryz.isAgg2
 z2:=Tryz.sizeOf2
 v2:=Tryz.zeroValue2
 t3:=Tryz.underlying3
 a3:=Tryz.isAgg3
 z3:=Tryz.sizeOf3
 v3:=Tryz.zeroValue3
 t4:=Tryz.underlying4
 a4:=Tryz.isAgg4
 z4:=Tryz.sizeOf4
 v4:=Tryz.zeroValue4
 t5:=Tryz.underlying5
 a5:=Tryz.isAgg5
 z5:=Tryz.sizeOf5
 v5:=Tryz.zeroValue5
 t9:=Tryz.underlying9
 a9:=Tryz.isAgg9
 z9:=Tryz.sizeOf9
 v9:=Tryz.zeroValue9
 t20:=Tryz.underlying20
 a20:=Tryz.isAgg20
 z20:=Tryz.sizeOf20
 v20:=Tryz.zeroValue20
 t21:=Tryz.underlying21
 a21:=Tryz.isAgg21
 z21:=Tryz.sizeOf21
 v21:=Tryz.zeroValue21
 t37:=Tryz.underlying76
 a37:=Tryz.isAgg76
 z37:=Tryz.sizeOf76
 v37:=Tryz.zeroValue76
 t46:=Tryz.underlying192
 a46:=Tryz.isAgg192
 z46:=Tryz.sizeOf192
 v46:=Tryz.zeroValue192
 t51:=Tryz.underlying233
 a51:=Tryz.isAgg233
 z51:=Tryz.sizeOf233
 v51:=Tryz.zeroValue233
 t53:=Tryz.underlying236
 a53:=Tryz.isAgg236
 z53:=Tryz.sizeOf236
 v53:=Tryz.zeroValue236
 t75:=Tryz.underlying132
 a75:=Tryz.isAgg132
 z75:=Tryz.sizeOf132
 v75:=Tryz.zeroValue132
 t76:=Tryz.underlying133
 a76:=Tryz.isAgg133
 z76:=Tryz.sizeOf133
 v76:=Tryz.zeroValue133
 t85:=Tryz.underlying310
 a85:=Tryz.isAgg310
 z85:=Tryz.sizeOf310
 v85:=Tryz.zeroValue310
 t127:=Tryz.underlying189
 a127:=Tryz.isAgg189
 z127:=Tryz.sizeOf189
 v127:=Tryz.zeroValue189
 t143:=Tryz.underlying331
 a143:=Tryz.isAgg331
 z143:=Tryz.sizeOf331
 v143:=Tryz.zeroValue331
 t145:=Tryz.underlying333
 a145:=Tryz.isAgg333
 z145:=Tryz.sizeOf333
 v145:=Tryz.zeroValue333
 t167:=Tryz.underlying309
 a167:=Tryz.isAgg309
 z167:=Tryz.sizeOf309
 v167:=Tryz.zeroValue309
 t168:=Tryz.underlying312
 a168:=Tryz.isAgg312
 z168:=Tryz.sizeOf312
 v168:=Tryz.zeroValue312
 t171:=Tryz.underlying277
 a171:=Tryz.isAgg277
 z171:=Tryz.sizeOf277
 v171:=Tryz.zeroValue277
 t173:=Tryz.underlying279
 a173:=Tryz.isAgg279
 z173:=Tryz.sizeOf279
 v173:=Tryz.zeroValue279
 t175:=Tryz.underlying316
 a175:=Tryz.isAgg316
 z175:=Tryz.sizeOf316
 v175:=Tryz.zeroValue316
 t210:=Tryz.underlying320
 a210:=Tryz.isAgg320
 z210:=Tryz.sizeOf320
 v210:=Tryz.zeroValue320
 t212:=Tryz.underlying298
 a212:=Tryz.isAgg298
 z212:=Tryz.sizeOf298
 v212:=Tryz.zeroValue298
 t213:=Tryz.underlying299
 a213:=Tryz.isAgg299
 z213:=Tryz.sizeOf299
 t232:=Tryz.underlying322
 a232:=Tryz.isAgg322
 z232:=Tryz.sizeOf322
 v232:=Tryz.zeroValue322
 t233:=Tryz.underlying323
 a233:=Tryz.isAgg323
 z233:=Tryz.sizeOf323
 v233:=Tryz.zeroValue323
 g15:=by kernel_rfl
 g16:=by kernel_rfl
 g17:=by kernel_rfl
 g18:=by kernel_rfl
 g19:=by kernel_rfl
 t80:=Tryz.underlying141
 a80:=Tryz.isAgg141
 z80:=Tryz.sizeOf141
 v80:=Tryz.zeroValue141
 i0:=by kernel_rfl
 i2:=by kernel_rfl
 i3:=by kernel_rfl
 i4:=by kernel_rfl
 i5:=by kernel_rfl
 i9:=by kernel_rfl
 i20:=by kernel_rfl
 i21:=by kernel_rfl
 i37:=by kernel_rfl
 i46:=by kernel_rfl
 i51:=by kernel_rfl
 i53:=by kernel_rfl
 i75:=by kernel_rfl
 i76:=by kernel_rfl
 i80:=by kernel_rfl
 i85:=by kernel_rfl
 i127:=by kernel_rfl
 i143:=by kernel_rfl
 i145:=by kernel_rfl
 i167:=by kernel_rfl
 i168:=by kernel_rfl
 i171:=by kernel_rfl
 i173:=by kernel_rfl
 i175:=by kernel_rfl
 i210:=by kernel_rfl
 i212:=by kernel_rfl
 i232:=by kernel_rfl
 i233:=by kernel_rfl
 m15:=by kernel_rfl
 m16:=by kernel_rfl
 m17:=by kernel_rfl
 m18:=by kernel_rfl
 m19:=by kernel_rfl
 c0:=by kernel_rfl
 c2:=by kernel_rfl
 c3:=by kernel_rfl
 c4:=by kernel_rfl
 c5:=by kernel_rfl
 c9:=by kernel_rfl
 c20:=by kernel_rfl
 c21:=by kernel_rfl
 c37:=by kernel_rfl
 c46:=by kernel_rfl
 c51:=by kernel_rfl
 c53:=by kernel_rfl
 c75:=by kernel_rfl
 c76:=by kernel_rfl
 c80:=by kernel_rfl
 c85:=by kernel_rfl
 c127:=by kernel_rfl
 c143:=by kernel_rfl
 c145:=by kernel_rfl
 c167:=by kernel_rfl
 c168:=by kernel_rfl
 c171:=by kernel_rfl
 c173:=by kernel_rfl
 c175:=by kernel_rfl
 c210:=by kernel_rfl
 c212:=by kernel_rfl
 c213:=by kernel_rfl
 c232:=by kernel_rfl
 c233:=by kernel_rfl }
open Go.RowKit in
theorem Tryz.strconv_Atoi_ok (s:ByteArray)(hmax:s.size≤9223372036854775806)(v:Int)(h:Lib.atoiAll s.data.toList=.ok v)(w:World):
  Calls Tryz.prog 193 #[.string s] w fun e w'=>e=.returned (.tuple #[.int .i64 v,.nilIface])∧(w'=w∨∃t,w'=Lib.bytesWorld w 5 t):=Any.strconv_Atoi_ok Tryz.Zwk s hmax v h w
open Go.RowKit in
theorem Tryz.strconv_Atoi_syntax (s:ByteArray)(hlim:s.size≤281474976710656)(h:Lib.atoiAll s.data.toList=Lib.NumEnd.syntax)(ev:Value)(w:World)(hv:w.cell? ⟨2,0,none⟩=some ev)(hev:ev=.nilIface∨∃te pe,ev=.iface te pe):
  Calls Tryz.prog 193 #[.string s] w fun e w'=>∃N,e=.returned (.tuple #[.int .i64 (0),.iface 312 (.pointer (some ⟨N,0,none⟩))])∧w.heap.size≤N∧w'.heap[N]?=some (.cells #[.string ⟨#[65,116,111,105]⟩,.string s,ev] 320 (0,0))∧Below w.heap.size w w':=Any.strconv_Atoi_syntax Tryz.Zwk s hlim h ev w hv hev
open Go.RowKit in
theorem Tryz.strconv_Atoi_range (s:ByteArray)(hlim:s.size≤281474976710656)(h:Lib.atoiAll s.data.toList=.range)(ev:Value)(w:World)(hv:w.cell? ⟨3,0,none⟩=some ev)(hev:ev=.nilIface∨∃te pe,ev=.iface te pe):
  Calls Tryz.prog 193 #[.string s] w fun e w'=>∃N,e=.returned (.tuple #[.int .i64 (Lib.atoiSat s.data.toList),.iface 312 (.pointer (some ⟨N,0,none⟩))])∧w.heap.size≤N∧w'.heap[N]?=some (.cells #[.string ⟨#[65,116,111,105]⟩,.string s,ev] 320 (0,0))∧Below w.heap.size w w':=Any.strconv_Atoi_range Tryz.Zwk s hlim h ev w hv hev
def Tryz.Zwx:Go.Shelf.Ren:=⟨fun|101=>194|208=>226|206=>250|n=>n,fun|9=>9|4=>4|3=>3|n=>n,fun|n=>n⟩
theorem Tryz.Zxd:Go.Proofs.Lays.n101 Tryz.prog Tryz.Zwx:={
 mixed:=by kernel_rfl
 f101:=Tryz.func194.trans (congrArg some (by kernel_rfl))
 f206:=Tryz.func250.trans (congrArg some (by kernel_rfl))
 f208:=Tryz.func226.trans (congrArg some (by kernel_rfl))
 t3:=Tryz.underlying3
 a3:=Tryz.isAgg3
 z3:=Tryz.sizeOf3
 v3:=Tryz.zeroValue3
 t4:=Tryz.underlying4
 a4:=Tryz.isAgg4
 z4:=Tryz.sizeOf4
 v4:=Tryz.zeroValue4
 t9:=Tryz.underlying9
 a9:=Tryz.isAgg9
 z9:=Tryz.sizeOf9
 v9:=Tryz.zeroValue9 }
open Go.RowKit Go.Lib in
theorem Tryz.strings_TrimPrefix (s p:ByteArray)(w:World):
  Calls Tryz.prog 194 #[.string s,.string p] w fun e w'=>e=.returned (.string ⟨(Lib.trimPrefix s.data.toList p.data.toList).toArray⟩)∧w'=w:=Any.strings_TrimPrefix Tryz.Zxd s p w
def Tryz.Zww:Go.Shelf.Ren:=⟨fun|146=>160|221=>186|268=>211|138=>212|143=>213|195=>233|197=>234|218=>235|219=>236|260=>253|217=>254|225=>255|224=>256|267=>257|266=>263|314=>264|n=>n,fun|9=>9|31=>22|3=>3|4=>4|0=>0|105=>300|21=>21|5=>5|46=>192|119=>324|139=>327|138=>326|146=>234|51=>233|n=>n,fun|1=>1|3=>6|4=>7|n=>n⟩
theorem Tryz.Zxc:Go.Proofs.Lays.n146 Tryz.prog Tryz.Zww:={
 mixed:=by kernel_rfl
 f138:=Tryz.func212.trans (congrArg some (by kernel_rfl))
 f143:=Tryz.func213.trans (congrArg some (by kernel_rfl))
 f146:=Tryz.func160.trans (congrArg some (by kernel_rfl))
 f195:=Tryz.func233.trans (congrArg some (by kernel_rfl))
 f197:=Tryz.func234.trans (congrArg some (by kernel_rfl))
 f217:=Tryz.func254.trans (congrArg some (by kernel_rfl))
 f218:=Tryz.func235.trans (congrArg some (by kernel_rfl))
 f219:=Tryz.func236.trans (congrArg some (by kernel_rfl))
 f221:=Tryz.func186.trans (congrArg some (by kernel_rfl))
 f224:=Tryz.func256.trans (congrArg some (by kernel_rfl))
 f225:=Tryz.func255.trans (congrArg some (by kernel_rfl))
 f260:=Tryz.func253.trans (congrArg some (by kernel_rfl))
 f266:=Tryz.func263.trans (congrArg some (by kernel_rfl))
 f267:=Tryz.func257.trans (congrArg some (by kernel_rfl))
 f268:=Tryz.func211.trans (congrArg some (by kernel_rfl))
 f314:=Tryz.func264.trans (congrArg some (by kernel_rfl))
 t0:=Tryz.underlying0
 a0:=Tryz.isAgg0
 z0:=Tryz.sizeOf0
 v0:=Tryz.zeroValue0
 t3:=Tryz.underlying3
 a3:=Tryz.isAgg3
 z3:=Tryz.sizeOf3
 v3:=Tryz.zeroValue3
 t4:=Tryz.underlying4
 a4:=Tryz.isAgg4
 z4:=Tryz.sizeOf4
 v4:=Tryz.zeroValue4
 t5:=Tryz.underlying5
 a5:=Tryz.isAgg5
 z5:=Tryz.sizeOf5
 v5:=Tryz.zeroValue5
 t9:=Tryz.underlying9
 a9:=Tryz.isAgg9
 z9:=Tryz.sizeOf9
 v9:=Tryz.zeroValue9
 t21:=Tryz.underlying21
 a21:=Tryz.isAgg21
 z21:=Tryz.sizeOf21
 v21:=Tryz.zeroValue21
 t31:=Tryz.underlying22
 a31:=Tryz.isAgg22
 z31:=Tryz.sizeOf22
 v31:=Tryz.zeroValue22
 t46:=Tryz.underlying192
 a46:=Tryz.isAgg192
 z46:=Tryz.sizeOf192
 v46:=Tryz.zeroValue192
 t51:=Tryz.underlying233
 a51:=Tryz.isAgg233
 z51:=Tryz.sizeOf233
 v51:=Tryz.zeroValue233
 t105:=Tryz.underlying300
 a105:=Tryz.isAgg300
 z105:=Tryz.sizeOf300
 v105:=Tryz.zeroValue300
 t119:=Tryz.underlying324
 a119:=Tryz.isAgg324
 z119:=Tryz.sizeOf324
 t138:=Tryz.underlying326
 a138:=Tryz.isAgg326
 z138:=Tryz.sizeOf326
 v138:=Tryz.zeroValue326
 t139:=Tryz.underlying327
 a139:=Tryz.isAgg327
 z139:=Tryz.sizeOf327
 v139:=Tryz.zeroValue327
 t146:=Tryz.underlying234
 a146:=Tryz.isAgg234
 z146:=Tryz.sizeOf234
 v146:=Tryz.zeroValue234
 g1:=by kernel_rfl
 g3:=by kernel_rfl
 g4:=by kernel_rfl }
open Go.RowKit Go.Lib in
theorem Tryz.strings_Split (s sep:ByteArray)(m:Int)(w:World)(hs:s.size<4294967281)(hm:w.cell? ⟨1,0,none⟩=some (.int .i64 m))(h1:1≤sep.size):
  Calls Tryz.prog 160 #[.string s,.string sep] w fun e w'=>
   e=.returned (.slice (some ⟨w.heap.size,0,none⟩) (Lib.countB s sep+1) (Lib.countB s sep+1))∧w'=w.alloc (.cells ((Lib.splitB sep 0 (Lib.countB s sep) s).map Value.string).toArray 9):=Any.strings_Split Tryz.Zxc (by kernel_rfl) s sep m w hs hm h1
end
end Go.Proofs
namespace Go.Proofs.YtfpmaennjlggeaaGreatDoor
open Go.RowKit
section
open Go.RowKit Go.Sort
theorem Zi0 {P:Program}{f:FuncId}{xs:List PV}{y:PV}(hc:Callable P f)(h:∀(w:World) (m:Mem) (vs:Array Value),Glob m w→Le m w.mem→vs.size=xs.length→(∀(j:Nat) (d:Value) (c:PV),vs[j]?=some d→xs[j]?=some c→RdP m d c)→
   Calls P f vs w (fun e w'=>∃v m',e=.returned v∧Ext w w'∧Le m m'∧Le m' w'.mem∧(∀b o u,m' b o=some u→m b o=some u∨w.heap.size≤b)∧RdP m' v y)):Gives P f xs y:=by
 refine⟨hc,fun w m ρ vs hB hmw hsz hrd=>(h w m vs hmw.2.1 hmw.1 (by simpa using hsz) (fun j d c k1 k2=>(hrd j d (.pv c) k1 (by rw[ZxM,k2];rfl)).Zu5)).mono ?_⟩;rintro e w' ⟨v,m',rfl,hx,h1,h2,h3,h4⟩;exact⟨v,.pv y,[],ρ,m',rfl,⟨rfl,rfl⟩,Bxs.nil _ _ _,h1,h2,fun _=>rfl,fun s b k hs=>by simp[List.lookup]at hs,fun b o u hu=>(h3 b o u hu).imp id .inl,.pv _ _ h4,Keep.Zwb hx _⟩
theorem Zdj {P:Program}{f:FuncId}{xs:List PV}{y:PV}(hc:Callable P f)(h:∀(w:World) (m:Mem) (vs:Array Value),Glob m w→Le m w.mem→vs.size=xs.length→(∀(j:Nat) (d:Value) (c:PV),vs[j]?=some d→xs[j]?=some c→RdP m d c)→
   Calls P f vs w (fun e w'=>∃v,e=.returned v∧Ext w w'∧RdP m v y)):Gives P f xs y:=
 Zi0 hc fun w m vs h1 h2 h3 h4=>(h w m vs h1 h2 h3 h4).mono fun _ _ ⟨v,k1,k2,k3⟩=>⟨v,m,k1,k2,Le.refl m,h2.trans k2.le,fun _ _ _ h=>.inl h,k3⟩
theorem arg1 {vs:Array Value}(h:vs.size=1):∃v,vs=#[v]:=by
 match vs,h with
 |⟨[v]⟩,_=>exact⟨v,rfl⟩
theorem arg2 {vs:Array Value}(h:vs.size=2):∃v u,vs=#[v,u]:=by
 match vs,h with
 |⟨[v,u]⟩,_=>exact⟨v,u,rfl⟩
theorem ZdC {m:Mem}{v:Value}{s:ByteArray}(h:RdP m v (.str s)):v=.string s:=by cases h;rfl
theorem ZtM {m:Mem}{v:Value}{k:IntKind}{n:Int}(h:RdP m v (.int k n)):v=.int k n:=by cases h;rfl
def itoaB (n:Int):ByteArray:=⟨(Lib.itoa n).toArray⟩
theorem Zqn (w:World)(k:Nat)(os:Array Obj):Ext w (grow (w.drewN k) os):=⟨rfl,rfl,rfl,by simp[grow,World.drewN],fun i hi=>by
 show(w.heap++os)[i]?=w.heap[i]?;rw[Array.getElem?_append,if_pos hi]⟩
theorem ZnW (n:Int)(h:-9223372036854775808≤n∧n≤9223372036854775807):Gives Tryz.prog 101 [.int .i64 n] (.str (itoaB n)):=by
 refine Zdj ⟨_,_,Tryz.func101,by kernel_rfl,rfl⟩ fun w m vs hg hm hsz hrd=>?_
 obtain⟨v,rfl⟩:=arg1 hsz;obtain rfl:=ZtM (hrd 0 v _ rfl rfl);have htab : Lib.TabIs Tryz.prog w "internal/strconv.uint64pow10" .u64 Lib.pow10Tab := by
  obtain⟨_,_,_,_,t,fr,h5⟩:=hg;have e : Tryz.prog.globalNamed "internal/strconv.uint64pow10" = some 0 := by kernel_rfl
  unfold Lib.TabIs World.var?;rw[e];show(match w.heap[0]? with|some (.cells cs _ _)=>some cs|_=>none)=_;rw[h5]
 exact(Tryz.strconv_Itoa n h.1 h.2 w htab).mono fun e w' ⟨h1,k,os,h2⟩=>⟨_,h1,h2▸Zqn w k os,.str _⟩
def atoiE (s:ByteArray):PV:=match Lib.atoiAll s.data.toList with
 |.ok v=>.tup [.int .i64 v,.nilif]
 |Lib.NumEnd.syntax=>.tup [.int .i64 0,.iface 312 .opq]
 |.range=>.tup [.int .i64 (Lib.atoiSat s.data.toList),.iface 312 .opq]
theorem ZrU (s:ByteArray)(hs:s.size≤1000000):Gives Tryz.prog 193 [.str s] (atoiE s):=by
 refine Zdj ⟨_,_,Tryz.func193,by kernel_rfl,rfl⟩ fun w m vs hg hm hsz hrd=>?_
 obtain⟨v,rfl⟩:=arg1 hsz;obtain rfl:=ZdC (hrd 0 v _ rfl rfl);obtain⟨_,⟨t1,p1,g1⟩,⟨t2,p2,g2⟩,_⟩:=hg;unfold atoiE;cases h:Lib.atoiAll s.data.toList with
 |ok v=>
  refine(Tryz.strconv_Atoi_ok s (by omega) v h w).mono fun e w' ⟨h1,h2⟩=>⟨_,h1,?_,Zed (.int _ _) .nilif⟩
  rcases h2 with rfl|⟨t,rfl⟩
  ·exact Ext.ZvU _
  ·exact ZgP _ _ _
 |range=>exact(Tryz.strconv_Atoi_range s (by omega) h _ w (hm _ _ _ g2) (.inr ⟨_,_,rfl⟩)).mono fun e w' ⟨N,h1,_,_,h2⟩=>⟨_,h1,h2,Zed (.int _ _) (.iface _ _ _ (.opq _ rfl))⟩
 |_=>exact(Tryz.strconv_Atoi_syntax s (by omega) h _ w (hm _ _ _ g1) (.inr ⟨_,_,rfl⟩)).mono fun e w' ⟨N,h1,_,_,h2⟩=>⟨_,h1,h2,Zed (.int _ _) (.iface _ _ _ (.opq _ rfl))⟩
def trimB (s p:ByteArray):ByteArray:=⟨(Lib.trimPrefix s.data.toList p.data.toList).toArray⟩
theorem Zru (s p:ByteArray):Gives Tryz.prog 194 [.str s,.str p] (.str (trimB s p)):=by
 refine Zdj ⟨_,_,Tryz.func194,by kernel_rfl,rfl⟩ fun w m vs hg hm hsz hrd=>?_
 obtain⟨v,u,rfl⟩:=arg2 hsz;obtain rfl:=ZdC (hrd 0 v _ rfl rfl);obtain rfl:=ZdC (hrd 1 u _ rfl rfl);exact(Tryz.strings_TrimPrefix s p w).mono fun e w' ⟨h1,h2⟩=>⟨_,h1,h2▸Ext.ZvU _,.str _⟩
def Za8 (s sep:ByteArray):List ByteArray:=Lib.splitB sep 0 (Lib.countB s sep) s
theorem Zsl (s sep:ByteArray)(hs:s.size≤1000000)(h1:1≤sep.size)(hlen:(Za8 s sep).length=Lib.countB s sep+1)(hcap:Lib.countB s sep≤1000000):Gives Tryz.prog 160 [.str s,.str sep] (.lst true 1 ((Za8 s sep).map .str)):=by
 refine Zi0 ⟨_,_,Tryz.func160,by kernel_rfl,rfl⟩ fun w m vs hg hm hsz hrd=>?_
 obtain⟨v,u,rfl⟩:=arg2 hsz;obtain rfl:=ZdC (hrd 0 v _ rfl rfl);obtain rfl:=ZdC (hrd 1 u _ rfl rfl);obtain⟨⟨z,g0⟩,_⟩:=hg;refine(Tryz.strings_Split s sep z w (by omega) (hm _ _ _ g0) h1).mono ?_;rintro e w' ⟨rfl,rfl⟩;have hnew:∀o,m w.heap.size o=none:=fun o=>by
  cases hv:m w.heap.size o with
  |none=>rfl
  |some v=>
   have:=ZaH (hm _ _ _ hv)
   omega
 obtain⟨W,hW⟩:∃W,W=w.alloc (.cells ((Za8 s sep).map Value.string).toArray 9):=⟨_,rfl⟩;have hx:Ext w W:=by rw[hW];exact Ext.al _ _
 have hc:∀j x,(Za8 s sep)[j]?=some x→W.mem w.heap.size j=some (.string x):=fun j x hj=>by
  have hb:W.heap[w.heap.size]?=some (.cells ((Za8 s sep).map Value.string).toArray 9 (0,0)):=by rw[hW];exact World.alloc_heap_new w _
  show World.cell? W ⟨w.heap.size,j,none⟩=_;unfold World.cell?;simp only[hb];simp[hj]
 have hcnt:Lib.countB s sep+1=((Za8 s sep).map PV.str).length:=by rw[ZxS];exact hlen.symm
 have hsl:Lib.splitB sep 0 (Lib.countB s sep) s=Za8 s sep:=rfl;rw[hsl,←hW,hcnt];obtain⟨m',hm'⟩:∃m':Mem,m'=fun b o=>if b=w.heap.size then W.mem b o else m b o:=⟨_,rfl⟩
 have e1:∀o,m' w.heap.size o=W.mem w.heap.size o:=fun o=>by rw[hm'];simp
 have e2:∀b o,b≠w.heap.size→m' b o=m b o:=fun b o hb=>by rw[hm'];simp[hb]
 refine⟨_,m',rfl,hx,fun b o v hv=>?_,fun b o v hv=>?_,fun b o v hv=>?_,?_⟩
 ·by_cases hb:b=w.heap.size
  ·subst hb;rw[hnew o]at hv;cases hv
  ·rw[e2 b o hb];exact hv
 ·by_cases hb:b=w.heap.size
  ·subst hb;rw[e1]at hv;exact hv
  ·rw[e2 b o hb]at hv;exact hx.le _ _ _ (hm _ _ _ hv)
 ·by_cases hb:b=w.heap.size
  ·exact .inr (by omega)
  ·rw[e2 b o hb]at hv;exact .inl hv
 ·refine RdP.lst (some ⟨w.heap.size,0,none⟩) _ true 1 _ (fun i=>[.string ((Za8 s sep).getD i default)]) (ZxR _) (by rw[←hcnt];omega) (fun h=>by cases h) (fun A hA=>by cases hA;rfl) (fun _ h=>by cases h) (fun i x hx=>?_) (fun i x hx=>?_) (fun i x j d c hx hd hc'=>?_)
  all_goals
   rw[ZxM]at hx;obtain⟨t,ht,rfl⟩:=ZxP.1 hx;have hgd:(Za8 s sep).getD i default=t:=by rw[List.getD_eq_getElem?_getD,ht];rfl
  ·refine⟨w.heap.size,0,rfl,At.Zvm (fun j u hj=>?_)⟩;cases j with
   |zero=>
    cases hj
    have:=(e1 i).trans (hc i t ht)
    rw[hgd];simpa using this
   |succ j=>cases hj
  ·exact⟨rfl,rfl,fun u hu=>by cases Zyi.1 hu;rfl⟩
  ·cases j with
   |zero=>cases hd;cases hc';rw[hgd];exact .str _
   |succ j=>cases hd
end
section
section
variable {P:Program}{N:Nat}{w0:World}{m0:Env w0}{pl:List Nat}{σ:AS}{ρ:Site→Loc}{m:Mem}{act:Act}{w:World}
theorem Sat.ZxB {d:Nat}{lent:List Site}{B:List (Site×Box)}(hF:Sat N w0 m0 pl σ ρ m act w)(hnd:lent.Nodup)(hnl:lent.all (fun s=>!s.Zu1 d)=true)(hB:Zas σ lent 0 lent=some B)
  {tm:List (Nat×AV)} (htm:∀t a,tm.lookup t=some a→∃a0,σ.t t=some a0∧a=a0.map (inG lent)∧a0.Zu3 (fun x=>lent.contains x)=true):
  ∃ρc:Site→Loc,(∀s,lent.contains s=true→ρc (inG lent s)=ρ s)∧Sat N w0 ⟨m0.m,ρc,m0.rest,m0.glob,m0.strict⟩ pl ⟨tm,B⟩ ρc m act w:=by
 obtain⟨l1,l2,l3,l4⟩:=Zdw σ lent lent 0 B hB;obtain⟨ρc,hin,hBx,_⟩:=lend hF hnd hnl hB;refine⟨ρc,hin,hF.nod,hF.sz,fun t a k=>?_,hBx.bx,hBx.injk,hF.mem,hBx.offk,fun s b k h1 h2=>?_,hF.keep,hF.base,hF.fro,fun i=>rfl⟩
 ·obtain⟨a0,k1,rfl,k2⟩:=htm t a k;obtain⟨v,k3,k4⟩:=hF.tm t a0 k1;exact⟨v,k3,k4.map hin k2⟩
 ·obtain⟨j,s0,b0,e1,e2,e3,rfl,e5⟩:=l1 s b h1;have hc:=ZxQ e2;have e6:inG lent s0=s:=by
   obtain⟨j',k1,k2⟩:=ZfP hc;have e:j'=j:=ZdN hnd k2 e2;rw[e1];unfold inG;rw[k1,e,Zyj]
  have e7:ρc s=ρ s0:=by rw[←e6];exact hin s0 (by simpa using hc)
  exact hF.ownk s0 b0 k e3 ((ZaF e7).1 h2)
def Zhg (σ:AS):Prop:=(∀t a,σ.t t=some a→a.Zu3 Site.ZvV=true)∧∀s b,σ.b s=some b→s.ZvV=true∧b.Zu3 Site.ZvV=true
theorem Zk5 {ρ ρ':Site→Loc}(h:∀i,ρ' (.par i)=ρ (.par i)){s:Site}(hs:s.ZvV=true):ρ' s=ρ s:=by
 cases s with
 |par i=>exact h i
 |_=>cases hs
theorem dcall {g:FuncId}{gn:Func}{id:Nat}{o:Oper}{t6:Tmp}{c2:Code}{l2:LCode}(hm:P.follows .mixedOrders=true)(hg:P.funcs[g]?=some gn)(hgb:gn.body=some (.seq (.region id #[o] false) c2))
  (hrec:∀ev w,(execOp ev o).run P w=.ok .recover w) (hgd:o.guard=none) (hd:o.dst=some t6) (ht6:t6<gn.ntmps) (hres:gn.results=#[]) (hl:litC P gn.ntmps c2=some l2) (hnr:noRF c2=true)
  {u u':FrameMode} {rv:Value} (hu:(u=.returning∧rv=.nilIface∧u'=.returning)∨∃v,u=.panicking [{ v,recovered:=false }]∧rv=v∧u'=.panicking [{ v,recovered:=true }])
  {azz:List AV} {B:List (Site×Box)} {args:Array Value} (hB:Bxs ρ m w B) (hmw:Le m w.mem∧Glob m w) (hnk:(B.map (·.1)).Nodup) (hvs:args.size=azz.length) (hn:azz.length≤gn.ntmps) (hrd:∀(j:Nat) (d:Value) (c:AV),args[j]?=some d→azz[j]?=some c→RdA ρ m d c)
  {ra:AV} (hra:RdA ρ m rv ra) {F:AS→Prop} (h:awp P l2 (finQ F) ⟨(t6,ra)::initT 0 azz,B⟩)
  {R:World→Prop} (hR:∀γ ρ' m' act' w',F γ→Sat gn.ntmps w ⟨m,ρ,[],hmw.2,true⟩ (lentB ρ w B) γ ρ' m' act' w'→R w'):
  CallsDIn (FF none) 0 P g args u w (fun e u1 w'=>(∃v,e=.returned v)∧u1=u'∧R w'):=by
 refine callsDIn_of_wpSIn hg hgb trivial (fun c₀ cs hc0=>wpSIn_seq (wpSIn_region ?_));have hS:Sat gn.ntmps w ⟨m,ρ,[],hmw.2,true⟩ (lentB ρ w B) ⟨(t6,ra)::initT 0 azz,B⟩ ρ m (({ tmps:=args++Array.replicate (gn.ntmps-args.size) undef,defers:=[]}:Act).put (some t6) rv) w:=by
  refine Sat.put (σ:=⟨initT 0 azz,B⟩) ?_ ht6 hra;refine⟨⟨[],mix0,nod0,fun D hD=>by cases hD⟩,by simp;omega,fun t a k=>?_,hB.bx,hB.injk,hmw.1,hB.offk,fun s b i k r=>.inr (Zcx k r),Keep.ZvU _ _,⟨Le.refl _,hB.free hnk⟩,fun b o v k=>.inl k,fun i=>rfl⟩;obtain⟨_,k1⟩:=ZcS azz 0 t a k;rw[Nat.sub_zero]at k1;have hlt:t<args.size:=by rw[hvs];exact(ZxN.1 k1).1
  exact⟨args[t],by rw[Array.getElem?_append,if_pos hlt,Zys hlt],hrd t _ a (Zys hlt) k1⟩
 have hw:=ZcG (ro:=none) (fun l e=>by cases e) hm c2 l2 _ (fun _=>hnr) hl h hS;have fin:∀e act' w',Post gn.ntmps w ⟨m,ρ,[],hmw.2,true⟩ (lentB ρ w B) (finQ F) e act' w'→bodyPostS P gn c₀ cs (fun e u1 w'=>(∃v,e=.returned v)∧u1=u'∧R w') e act' ({ c₀ with mode:=u' }::cs) w':=by
  intro e act' w' hq;have done:Aft gn.ntmps w ⟨m,ρ,[],hmw.2,true⟩ (lentB ρ w B) F act' w'→act'.defers=[]∧∃u1,({ c₀ with mode:=u' }:Frame)::cs={ c₀ with mode:=u1 }::cs∧∃v,(results gn act'.tmps).run P w'=.ok v w'∧((∃v',Ending.returned v=.returned v')∧u1=u'∧R w'):=by
   rintro⟨τ,ρ1,m1,hF,hT⟩;obtain⟨ds,hd1,hd2,_⟩:=hT.nod
   have:ds=[]:=hd2.2 rfl
   subst this;refine⟨by simpa using hd1.nil,u',rfl,.tuple #[],?_,⟨_,rfl⟩,rfl,hR τ ρ1 m1 act' w' hF hT⟩;simp[results,hres]
  cases e with
  |normal=>exact done hq
  |ret=>exact done hq
  |exit id=>obtain⟨τ,ρ1,m1,q,_⟩:=hq;exact q.elim
  |goto l=>exact hq.elim
  |panic ch=>exact hq.elim
  |outgrown=>exact hq.elim
 have hw2:c2.wpSIn (FF none) 0 P (bodyPostS P gn c₀ cs (fun e u1 w'=>(∃v,e=.returned v)∧u1=u'∧R w')) (({ tmps:=args++Array.replicate (gn.ntmps-args.size) undef,defers:=[]}:Act).put (some t6) rv) ({ c₀ with mode:=u' }::cs) w:=
  wpSIn_of_wpIn rfl (wpIn_mono (wpFF hw) fun e act' w' hq=>fin e act' w' hq)
 have hwt:Region.wanted o (yielded #[o] ({ tmps:=args++Array.replicate (gn.ntmps-args.size) undef,defers:=[]}:Act).tmps)=true:=by simp[Region.wanted,hgd]
 show wpOpsSIn (FF none) 0 P #[o] _ [0] _ _ _;simp only[wpOpsSIn,Zyo,List.getElem?_cons_zero,hwt,if_true,hrec];refine⟨fun _ _=>trivial,?_⟩;rcases hu with⟨rfl,rfl,rfl⟩|⟨v,rfl,rfl,rfl⟩
 ·have hr:recoverD (c₀::cs)=none:=by simp[recoverD,hc0]
  have e:({ c₀ with mode:=FrameMode.returning }:Frame)=c₀:=by rw[←hc0]
  rw[e]at hw2;simp only[hr,hd];exact hw2
 ·have hr:recoverD (c₀::cs)=some (rv,{ c₀ with mode:=.panicking [{ v:=rv,recovered:=true }]}::cs):=by simp[recoverD,hc0]
  simp only[hr,hd];exact hw2
def dEnd (P:Program)(l3:LCode)(t6:Tmp)(caps:List AV)(rs:List LRes)(R:PV→Box→Prop)(x:PV)(σ:AS):Prop:=
 x.flat=true∧∃τ,Sub τ σ∧Zhg τ∧(τ.bx.map (·.1)).Nodup∧awp P l3 (finQ (fun γ=>∃γ',Sub γ' γ∧Zhg γ'∧∃y b',AS.ZwX ⟨τ.tm,γ'.bx⟩ rs=some [.pv y]∧γ'.b (.par 0)=some b'∧b'.Zu3 (fun s=>decide (s=.par 0))=true∧R y b')) ⟨(t6,.pv x)::initT 0 caps,τ.bx⟩
theorem look1 {s s0:Site}{b c:Box}(h:List.lookup s [(s0,b)]=some c):s=s0∧c=b:=by
 by_cases e:s=s0
 ·subst e;rw[Zag]at h;cases h;exact⟨rfl,rfl⟩
 ·rw[Zad e]at h;cases h
def cdL:LCode→LCode
 |.seq a _=>a
 |c=>c
def cdR:LCode→LCode
 |.seq _ b=>b
 |c=>c
def regO:LCode→LO
 |.region (o::_)=>o
 |_=>default
theorem ZoK {f g:FuncId}{fn gn:Func}{a1 a2 b c2:Code}{id id2:Nat}{o1 o2 o3:Oper}{l1 l2 lb l3:LCode}{lo1:LO}{t t6:Tmp}{dc:Call}{cl:List Site}{azz:List AV}{B BL:List (Site×Box)}{lent:List Site}{d:Nat}{S:AS}{tmK:List (Nat×AV)}{rs:List LRes}{R:PV→Box→Prop}
  (hm : P.follows .mixedOrders = true) (hf : P.funcs[f]? = some fn) (hname : (fn.name == "runtime.NumGoroutine") = false) (hbody : fn.body = some (.seq a1 (.seq a2 (.seq (.region id #[o1, o2] false) b))))
  (h1:litC P fn.ntmps a1=some l1) (h2:litC P fn.ntmps a2=some l2) (hb:litC P fn.ntmps b=some lb) (hr1:noRF a1=true) (hr2:noRF a2=true) (hrb:noRF b=true) (hdb:noDr b=true)
  (ho1:litO P fn.ntmps #[o1,o2] true o1=some lo1) (ho2:o2.op=.defer dc) (hdc:dc.callee=.value (.tmp t)) (hda:dc.args=#[]) (hg2:o2.guard=none) (hd2:o2.dst=none)
  (hrs:litRs P fn.results.toList=some rs) (hn:azz.length≤fn.ntmps)
  (hg : P.funcs[g]? = some gn) (hgname : (gn.name == "runtime.NumGoroutine") = false) (hgb : gn.body = some (.seq (.region id2 #[o3] false) c2)) (hrec : ∀ ev w, (execOp ev o3).run P w = .ok .recover w) (hg3 : o3.guard = none) (hd3 : o3.dst = some t6) (ht6 : t6 < gn.ntmps) (hgr : gn.results = #[])
  (hl3:litC P gn.ntmps c2=some l3) (hr3:noRF c2=true) (hcn:cl.length≤gn.ntmps)
  (hA:awp P (.seq l1 l2) (fun e σ=>e=.normal∧loWp P lo1 (fun σ'=>Sub S σ') σ) ⟨initT 0 azz,B⟩) (hSt:S.t t=some (.fn g [] (cl.map fun s=>.ptr s 0))) (hnd:lent.Nodup) (hnl:lent.all (fun s=>!s.Zu1 d)=true) (hB:Zas S lent 0 lent=some BL)
  (hcl:∀s∈cl,lent.contains s=true∧(inG lent s).ZvV=true) (hp0:lent.head?=some (.par 0))
  (htm:∀t a,tmK.lookup t=some a→∃a0,S.t t=some a0∧a=a0.map (inG lent)∧a0.Zu3 (fun x=>lent.contains x)=true)
  (hD:awpX P lb (finQ (dEnd P l3 t6 (cl.map fun s=>.ptr (inG lent s) 0) rs R .nilif)) (dEnd P l3 t6 (cl.map fun s=>.ptr (inG lent s) 0) rs R) ⟨tmK,BL⟩):
  Zai P f azz B (fun r B'=>∃y b',r=.pv y∧B'=[(.par 0,b')]∧R y b'):=by
 refine⟨⟨fn,_,hf,hname,hbody⟩,fun w m ρ vs hB0 hmw hvs hrd=>?_⟩;refine(callsIn_wide (n:=1)).1 (callsIn_of_wp_marks (F:=FF none) hf hbody trivial ?_ rfl);have hS:Sat fn.ntmps w ⟨m,ρ,[],hmw.2.1,true⟩ (lentB ρ w B) ⟨initT 0 azz,B⟩ ρ m { tmps:=vs++Array.replicate (fn.ntmps-vs.size) undef,defers:=[]} w:=by
  refine⟨⟨[],mix0,nod0,fun D hD=>by cases hD⟩,by simp;omega,fun t a k=>?_,hB0.bx,hB0.injk,hmw.1,hB0.offk,fun s b i k r=>.inr (Zcx k r),Keep.ZvU _ _,⟨Le.refl _,hB0.free hmw.2.2⟩,fun b o v k=>.inl k,fun i=>rfl⟩;obtain⟨_,k1⟩:=ZcS azz 0 t a k;rw[Nat.sub_zero]at k1;have hlt:t<vs.size:=by rw[hvs];exact(ZxN.1 k1).1
  exact⟨vs[t],by rw[Array.getElem?_append,if_pos hlt,Zys hlt],hrd t _ a (Zys hlt) k1⟩
 refine wpIn_seq (wpIn_mono (ZcG (ro:=none) (fun l e=>by cases e) hm a1 l1 _ (fun _=>hr1) h1 hA hS) fun e act1 w1 hq=>?_);cases e with
 |exit id=>obtain⟨τ,ρ1,m1,q,_⟩:=hq;exact absurd q.1 (by simp)
 |ret=>obtain⟨τ,ρ1,m1,q,_⟩:=hq;exact absurd q.1 (by simp)
 |goto l=>exact hq.elim
 |panic ch=>exact hq.elim
 |outgrown=>exact hq.elim
 |normal=>
 obtain⟨τ1,ρ1,m1,q1,hS1⟩:=hq;refine wpIn_seq (wpIn_mono (ZcG (ro:=none) (fun l e=>by cases e) hm a2 l2 _ (fun _=>hr2) h2 q1 hS1) fun e act2 w2 hq=>?_);cases e with
 |exit id=>obtain⟨τ,ρ1,m1,q,_⟩:=hq;exact absurd q.1 (by simp)
 |ret=>obtain⟨τ,ρ1,m1,q,_⟩:=hq;exact absurd q.1 (by simp)
 |goto l=>exact hq.elim
 |panic ch=>exact hq.elim
 |outgrown=>exact hq.elim
 |normal=>
 obtain⟨τ2,ρ2,m2,⟨_,q2⟩,hS2⟩:=hq;refine wpIn_seq (wpIn_region_list ?_);refine ZfC (ops:=#[o1,o2]) ho1 q2 hS2 fun act3 w3 hq=>?_
 obtain⟨S',ρ3',m3',hSS,hS3'⟩:=hq;obtain⟨ρ3,m3,hS3⟩:=hSS _ _ _ _ _ _ _ _ hS3';have hwt:Region.wanted o2 (yielded #[o1,o2] act3.tmps)=true:=by simp[Region.wanted,hg2]
 obtain⟨ds,e1,e2,_⟩:=hS3.nod;have e3:ds=[]:=e2.2 rfl;subst e3;have hdef:act3.defers=[]:=by simpa using e1.nil
 obtain⟨vf,vc,hv,f1,f2,f3,f4⟩:∃vf vc:Array Value,act3.eval (.tmp t)=.func (.func g) vf vc∧vf.size=0∧vc.size=(cl.map fun s=>AV.ptr s 0).length∧(∀(j:Nat) (d:Value) (c:AV),vf[j]?=some d→([]:List AV)[j]?=some c→RdA ρ3 m3 d c)∧∀(j:Nat) (d:Value) (c:AV),vc[j]?=some d→(cl.map fun s=>AV.ptr s 0)[j]?=some c→RdA ρ3 m3 d c:=by
  have k:=hS3.opd (x:=.tmp t) (y:=.t t) rfl;have e:S.o (.t t)=.fn g [] (cl.map fun s=>.ptr s 0):=by show(S.t t).getD .any=_;rw[hSt];rfl
  rw[e]at k;exact ZhE k
 have hvf:vf=#[]:=Array.eq_empty_of_size_eq_zero f1;subst hvf;obtain⟨D,hD'⟩:∃D:Deferred,D={ target:=.fn (.func g) vc,args:=#[]}:=⟨_,rfl⟩;have hrun:(execOp act3.eval o2).run P w3=.ok (.defer D) w3:=by
  unfold execOp;simp only[ho2];simp[resolve,hdc,hda,hv,Deferred.ofValue,hD']
 unfold wpListIn;rw[if_pos hwt];unfold Oper.wpIn;refine⟨fun _ _=>trivial,?_⟩;have hsem:Oper.semAt (FF none).round act3.eval o2=execOp act3.eval o2:=rfl;rw[hsem,hrun,Oper.uponIn_defer,hdef,hd2];have hS4:Sat fn.ntmps w ⟨m,ρ,[D],hmw.2.1,true⟩ (lentB ρ w B) S ρ3 m3 { act3 with defers:=[D]} w3:=⟨⟨[],⟨[],[],rfl,rfl⟩,nod0,fun D hD=>by cases hD⟩,hS3.sz,hS3.tm,hS3.bx,hS3.injk,hS3.mem,hS3.offk,hS3.ownk,hS3.keep,hS3.base,hS3.fro,hS3.par⟩;obtain⟨ρc,hin,hS5⟩:=hS4.ZxB hnd hnl hB htm;have hρ0:ρc (.par 0)=ρ (.par 0):=by
  have hmem:(.par 0)∈lent:=by
   cases lent with
   |nil=>cases hp0
   |cons a r=>simp at hp0;subst hp0;simp
  have hi:inG lent (.par 0)=.par 0:=by
   cases lent with
   |nil=>cases hp0
   |cons a r=>simp at hp0;subst hp0;simp[inG,Zyc]
  have:=hin (.par 0) (by simpa using hmem)
  rw[hi]at this;rw[this];exact hS3.par 0
 show b.wpIn (FF none) 1 P _ { act3 with defers:=[D]} w3;refine wpIn_mono (ZgV (ro:=none) (fun l e=>by cases e) hm b lb _ (fun _=>hrb) (fun _=>hdb) hb hD hS5) (fun e act5 w5 hq=>?_);have key:∀(u u':FrameMode) (rv:Value) (x:PV) (τ5:AS) (ρ5:Site→Loc) (m5:Mem),((u=.returning∧rv=.nilIface∧u'=.returning)∨∃v,u=.panicking [{ v,recovered:=false }]∧rv=v∧u'=.panicking [{ v,recovered:=true }])→
   dEnd P l3 t6 (cl.map fun s=>.ptr (inG lent s) 0) rs R x τ5→Sat fn.ntmps w ⟨m,ρc,[D],hmw.2.1,true⟩ (lentB ρ w B) τ5 ρ5 m5 act5 w5→RdP m5 rv x→
   LeavesInM (FF none) 1 P fn act5.tmps (CPost w m ρ B (fun r B'=>∃y b',r=.pv y∧B'=[(.par 0,b')]∧R y b')) act5.defers u w5:=by
  intro u u' rv x τ5 ρ5 m5 hu ⟨hfl,τ,hsub,hpar,hnk,hAw⟩ hT5 hrv;obtain⟨ρ6,m6,hS6⟩:=hsub _ _ _ _ _ _ _ _ hT5;obtain⟨ds,e1,e2,_⟩:=hS6.nod;have e3:ds=[]:=e2.2 rfl;subst e3;have hdf:act5.defers=[D]:=by
   obtain⟨d1,d2,k1,k2⟩:=e1
   have:=List.append_eq_nil_iff.1 k1.symm
   rw[this.1,this.2]at k2;exact k2
  rw[hdf];have hset:settle u'=.returning:=by rcases hu with⟨_,_,rfl⟩|⟨v,_,_,rfl⟩<;>rfl
  have hrun':u≠.run:=by rcases hu with⟨rfl,_,_⟩|⟨v,rfl,_,_⟩<;>simp
  have hgn' : ¬ gn.name = "runtime.NumGoroutine" := by simpa using hgname
  refine⟨hrun',.inr ⟨fun _=>ZxR 1,.func g,vc,g,vc,by rw[hD'],?_,fun _ _=>trivial,?_⟩⟩
  ·rw[hD'];simp[invoke,callFunc,hg,hgn',hgb]
  refine(dcall (R:=fun w'=>LeavesInM (FF none) 1 P fn act5.tmps (CPost w m ρ B (fun r B'=>∃y b',r=.pv y∧B'=[(.par 0,b')]∧R y b')) [] .returning w') (ρ:=ρ6) (m:=m6) (B:=τ.bx) (azz:=cl.map fun s=>.ptr (inG lent s) 0) (ra:=.pv x) hm hg hgb hrec hg3 hd3 ht6 hgr hl3 hr3 hu ⟨hS6.bx,hS6.injk,hS6.offk⟩ ⟨hS6.mem,hS6.glob⟩ hnk (by rw[f2];simp) (by simpa using hcn) (fun j v c k1 k2=>?_) (.pv _ _ (hrv.flat hfl)) hAw ?_).mono ?_
  ·rw[ZxM]at k2;obtain⟨s,k3,rfl⟩:=ZxP.1 k2;have k4:=f4 j v (.ptr s 0) k1 (by rw[ZxM,k3];rfl);obtain⟨c1,c2⟩:=hcl s (ZxQ k3);have e6:ρ6 (inG lent s)=ρ3 s:=(Zk5 (ρ:=ρc) (fun i=>hS6.par i) c2).trans (hin s c1);rw[k4.Zvk,←e6];exact .ptr _ _
  ·intro γ ρ' m' act' w' ⟨γ',hsubγ,hparγ,y,b',hres,hb',hball,hRy⟩ hSγ;obtain⟨ρ7,m7,hS7⟩:=hsubγ _ _ _ _ _ _ _ _ hSγ;have lent6:∀k,k∈lentB ρ6 w5 τ.bx→w.heap.size≤k∨k∈lentB ρ w B:=fun k hk=>by
    obtain⟨p,hp,e⟩:=Zcb.1 hk;exact hS6.ownk p.1 p.2 k (ZkX hnk hp) e
   have hsz:=hS6.keep.size;have old:∀k,w5.heap.size≤k∨k∈lentB ρ6 w5 τ.bx→w.heap.size≤k∨k∈lentB ρ w B:=fun k hk=>by
    rcases hk with hk|hk
    ·exact .inl (Zx5 hsz hk)
    ·exact lent6 k hk
   have hkp:Keep (lentB ρ w B) w w':=⟨hS7.keep.os.trans hS6.keep.os,hS7.keep.tape.trans hS6.keep.tape,hS7.keep.output.trans hS6.keep.output,Zx5 hsz hS7.keep.size,fun k hk hn=>(hS7.keep.block k (Nat.lt_of_lt_of_le hk hsz) fun hD=>by
    rcases lent6 k hD with h'|h'
    ·omega
    ·exact hn h').trans (hS6.keep.block k hk hn)⟩
   have hfro:∀b o v,m7 b o=some v→m b o=some v∨w.heap.size≤b∨b∈lentB ρ w B:=fun b o v hv=>by
    rcases hS7.fro b o v hv with h'|h'
    ·exact hS6.fro b o v h'
    ·exact .inr (old b h')
   have hbase:Zja m m7 (lentB ρ w B):=hS6.base.trans hS7.base.1;have hSF:Sat fn.ntmps w ⟨m,ρc,[],hmw.2.1,true⟩ (lentB ρ w B) ⟨τ.tm,γ'.bx⟩ ρ7 m7 { act5 with defers:=[]} w':=by
    refine⟨⟨[],mix0,nod0,fun D hD=>by cases hD⟩,hS6.sz,fun t a k=>?_,hS7.bx,hS7.injk,hS7.mem,hS7.offk,fun s b k h1 h2=>old k (hS7.ownk s b k h1 h2),hkp,hbase,hfro,fun i=>(hS7.par i).trans (hS6.par i)⟩;obtain⟨v,k1,k2⟩:=hS6.tm t a k
    have:=(k2.more hS7.base.1).map (g:=_root_.id) (ρ':=ρ7) (fun s hs=>Zk5 (fun i=>hS7.par i) hs) (hpar.1 t a k)
    rw[Zeq]at this;exact⟨v,k1,this⟩
   obtain⟨vs',r1,r2,r3⟩:=ZeT fn.results.toList rs [.pv y] hrs hres hSF;obtain⟨v,rfl⟩:∃v,vs'=[v]:=by
    match vs',r2 with
    |[v],_=>exact⟨v,rfl⟩
   have hrd2:=r3 0 v _ rfl rfl;have h70:ρ (.par 0)=ρ7 (.par 0):=((hS7.par 0).trans ((hS6.par 0).trans hρ0)).symm;refine⟨v,?_,v,.pv y,[(.par 0,b')],ρ,m7,rfl,⟨y,b',rfl,rfl,hRy⟩,⟨fun s c hs=>?_,fun s s' c c' _ hs hs' _ _=>?_,fun s c k hs hk=>?_⟩,hbase.1,hS7.mem,fun i=>rfl,fun s c k hs hk=>?_,hfro,?_,hkp⟩
   ·show(do let vs ←fn.results.mapM (resFn act5.tmps);pure (if h:vs.size=1 then vs[0]else .tuple vs):Sem Value).run P w'=_;rw[Sem.run_bind,Array.mapM_eq_mapM_toList,Sem.run_map,r1];rfl
   ·obtain⟨rfl,rfl⟩:=look1 hs
    have:=(hS7.bx _ _ hb').ren (ρ':=ρ) (q:=fun s=>decide (s=.par 0)) (g:=_root_.id) (fun s hs=>by
     have e:s=.par 0:=by simpa using hs
     rw[e];exact h70) (by simp) hball
    rw[Box.ZwM]at this;exact this
   ·rw[(look1 hs).1,(look1 hs').1]
   ·obtain⟨rfl,rfl⟩:=look1 hs;exact hS7.offk _ _ k hb' ((ZbI h70).1 hk)
   ·obtain⟨rfl,rfl⟩:=look1 hs;exact old k (hS7.ownk _ _ k hb' ((ZbI h70).1 hk))
   ·exact .pv _ _ (RdA.Zu5 (ρ:=ρ7) hrd2)
  ·rintro e u1 w' ⟨⟨v,rfl⟩,rfl,hL⟩;show LeavesInM (FF none) 1 P fn act5.tmps _ [] (settle u1) w';rw[hset];exact hL
 have ok:Aft fn.ntmps w ⟨m,ρc,[D],hmw.2.1,true⟩ (lentB ρ w B) (dEnd P l3 t6 (cl.map fun s=>.ptr (inG lent s) 0) rs R .nilif) act5 w5→LeavesInM (FF none) 1 P fn act5.tmps (CPost w m ρ B (fun r B'=>∃y b',r=.pv y∧B'=[(.par 0,b')]∧R y b')) act5.defers .returning w5:=fun⟨τ,ρ5,m5,h1,h2⟩=>key .returning .returning .nilIface .nilif τ ρ5 m5 (.inl ⟨rfl,rfl,rfl⟩) h1 h2 .nilif
 cases e with
 |normal=>exact ok hq
 |ret=>exact ok hq
 |exit id=>obtain⟨τ,ρ1,m1,q,_⟩:=hq;exact q.elim
 |goto l=>exact hq.elim
 |outgrown=>exact hq.elim
 |panic ch=>
  obtain⟨v,x,τ,ρ5,m5,act',rfl,_,hact,h1,h2,h3⟩:=hq;obtain rfl:=hact rfl;exact key _ _ v x τ ρ5 m5 (.inr ⟨v,rfl,rfl,rfl⟩) h1 h2 h3.Zu5
end
end
section
attribute [local simp] AS.exp expG Box.ren AV.map AV.Zu9 Zau noRet Site.Zu6 Box.Zu3 AV.Zu3 AV.Zu4 retB dropL AS.Zvd renL outG outOk Zas inG fnOf lookA Zyc
attribute [local simp] Box.Zu0 Site.Zu1
section
def wkX (a b c d e:PV):Box:=.cells [.pv a,.pv b,.pv c,.pv d,.pv e]
def nxS (a b c d e:PV)(x:ByteArray):AS:=⟨[(10,.fn 120 [] [.ptr (.loc 5 0) 0,.ptr (.loc 2 0) 0,.ptr (.loc 4 0) 0]),(5,.ptr (.loc 5 0) 0),(4,.ptr (.loc 4 0) 0),(2,.ptr (.loc 2 0) 0),(1,.pv (.str x))],
 [(.loc 5 0,wkX a b c d e),(.loc 4 0,.cells [.pv (.int .i64 0)]),(.loc 2 0,.cells [.ptr (.par 0) 0]),(.par 0,wkX a b c d e)]⟩
def nxE (R:PV→Box→Prop):PV→AS→Prop:=dEnd Tryz.prog (cdR L120.code) 6 [.ptr (.par 1) 0,.ptr (.par 2) 0,.ptr (.par 3) 0] [.cell 4 false 1] R
theorem ZkP (a b c d e:PV)(x:ByteArray)(R:PV→Box→Prop)
  (hD:awpX Tryz.prog (cdR (cdR (cdR L70.code))) (finQ (nxE R .nilif)) (nxE R) ⟨[(1,.pv (.str x)),(2,.ptr (.par 2) 0),(4,.ptr (.par 3) 0)],[(.par 0,wkX a b c d e),(.par 1,wkX a b c d e),(.par 2,.cells [.ptr (.par 0) 0]),(.par 3,.cells [.pv (.int .i64 0)])]⟩):
  Zai Tryz.prog 70 [.ptr (.par 0) 0,.pv (.str x)] [(.par 0,wkX a b c d e)] (fun r B'=>∃y b',r=.pv y∧B'=[(.par 0,b')]∧R y b'):=by
 refine ZoK (g:=120) (t:=10) (t6:=6) (cl:=[.loc 5 0,.loc 2 0,.loc 4 0]) (lent:=[.par 0,.loc 5 0,.loc 2 0,.loc 4 0]) (d:=99)
  (S:=nxS a b c d e x) (BL:=[(.par 0,wkX a b c d e),(.par 1,wkX a b c d e),(.par 2,.cells [.ptr (.par 0) 0]),(.par 3,.cells [.pv (.int .i64 0)])])
  (l1:=cdL L70.code) (l2:=cdL (cdR L70.code)) (lb:=cdR (cdR (cdR L70.code))) (lo1:=regO (cdL (cdR (cdR L70.code)))) (l3:=cdR L120.code)
  (tmK:=[(1,.pv (.str x)),(2,.ptr (.par 2) 0),(4,.ptr (.par 3) 0)]) (rs:=[.cell 4 false 1])
  mixed Tryz.func70 (by kernel_rfl) rfl (by kernel_rfl) (by kernel_rfl) (by kernel_rfl) (by kernel_rfl) (by kernel_rfl) (by kernel_rfl) (by kernel_rfl) (by kernel_rfl) rfl rfl rfl rfl rfl (by kernel_rfl) (ZxK rfl)
  Tryz.func120 (by kernel_rfl) rfl ?_ rfl rfl (ZxK rfl) rfl (by kernel_rfl) (by kernel_rfl) (ZxK rfl) ?_ ?_ (by simp) rfl ?_ ?_ rfl ?_ ?_
 ·intro ev w;rfl
 ·refine ZaZ ?_;simp[-getElem?_pos,L70,cdL,cdR,wkX,hold];refine ZkZ ?_;simp[-getElem?_pos,regO];exact Sub.mk (by simp[nxS,wkX]) (by simp[nxS,wkX])
 ·rfl
 ·rfl
 ·intro s hs;simp at hs;rcases hs with rfl|rfl|rfl<;>exact⟨rfl,rfl⟩
 ·intro t v h;by_cases e1:t=1
  ·subst e1;cases h;exact⟨_,rfl,rfl,rfl⟩
  by_cases e2:t=2
  ·subst e2;cases h;exact⟨_,rfl,rfl,rfl⟩
  by_cases e4:t=4
  ·subst e4;cases h;exact⟨_,rfl,rfl,rfl⟩
  rw[Zad e1,Zad e2,Zad e4]at h;cases h
 ·exact hD
def nxT (B:List (Site×Box)):AS:=⟨[(4,.ptr (.par 3) 0)],B⟩
def nxB (w:Box)(a b c d x:PV)(e:Int):List (Site×Box):=[(.par 0,w),(.par 1,wkX a b c d x),(.par 2,.cells [.ptr (.par 0) 0]),(.par 3,.cells [.pv (.int .i64 e)])]
theorem parB {e:Int}{a b c d x:PV}{w:Box}(hw:w.Zu3 Site.ZvV=true)(s:Site)(v:Box)(h:List.lookup s (nxB w a b c d x e)=some v):s.ZvV=true∧v.Zu3 Site.ZvV=true:=by
 unfold nxB at h;by_cases e0:s=.par 0
 ·subst e0;rw[Zag]at h;cases h;exact⟨rfl,hw⟩
 rw[Zad e0]at h;by_cases e1:s=.par 1
 ·subst e1;rw[Zag]at h;cases h;exact⟨rfl,rfl⟩
 rw[Zad e1]at h;by_cases e2:s=.par 2
 ·subst e2;rw[Zag]at h;cases h;exact⟨rfl,rfl⟩
 rw[Zad e2]at h;obtain⟨rfl,rfl⟩:=look1 h;exact⟨rfl,rfl⟩
theorem parT {e:Int}{a b c d x:PV}{w:Box}(hw:w.Zu3 Site.ZvV=true):Zhg (nxT (nxB w a b c d x e)):=by
 refine⟨fun t v h=>?_,fun s v h=>parB hw s v h⟩;have h':List.lookup t [(4,AV.ptr (.par 3) 0)]=some v:=h;by_cases e4:t=4
 ·subst e4;cases h';rfl
 ·rw[Zad e4]at h';cases h'
theorem parN {e:Int}{a b c d x:PV}{w:Box}(hw:w.Zu3 Site.ZvV=true):Zhg ⟨[],nxB w a b c d x e⟩:=⟨fun t v h=>(by cases h),fun s v h=>parB hw s v h⟩
theorem ZsZ {a b c d e a' b' c' d' e':PV}{x:ByteArray}(hl:Zai Tryz.prog 121 [.ptr (.par 0) 0,.pv (.str x)] [(.par 0,wkX a b c d e)] (fun r B=>r=.pv (.tup [])∧B=[(.par 0,wkX a' b' c' d' e')])):
  Zai Tryz.prog 70 [.ptr (.par 0) 0,.pv (.str x)] [(.par 0,wkX a b c d e)] (fun r B=>r=.pv (.int .i64 0)∧B=[(.par 0,wkX a' b' c' d' e')]):=by
 refine(ZkP a b c d e x (fun y w=>y=.int .i64 0∧w=wkX a' b' c' d' e') ?_).mono (fun r B ⟨y,w,h1,h2,h3,h4⟩=>⟨by rw[h1,h3],by rw[h2,h4]⟩);refine ZbA ?_;simp[-getElem?_pos,L70,cdR];refine Zac 13 [.par 0] rfl rfl rfl rfl rfl rfl hl ?_;rintro r B ⟨rfl,rfl⟩;simp[-getElem?_pos,wkX];refine⟨rfl,nxT (nxB (wkX a' b' c' d' e') a b c d e 0),Sub.mk (by simp[nxT]) (by simp[nxT,nxB,wkX]),parT rfl,by simp[nxT,nxB],ZaZ ?_⟩;simp[-getElem?_pos,L120,cdR,nxT,nxB,wkX];refine⟨⟨[],nxB (wkX a' b' c' d' e') a b c d e 0⟩,Sub.mk (by simp) (by simp[nxB,wkX]),parN rfl,?_⟩;simp[nxB,wkX]
theorem Zs0 {a b c d e:PV}{x:ByteArray}{n:Int}(hl:ZcH Tryz.prog 121 [.ptr (.par 0) 0,.pv (.str x)] [(.par 0,wkX a b c d e)] (fun y B=>y=errP n∧∃a' b' c' d' e',B=[(.par 0,wkX a' b' c' d' e')])):
  Zai Tryz.prog 70 [.ptr (.par 0) 0,.pv (.str x)] [(.par 0,wkX a b c d e)] (fun r B=>r=.pv (.int .i64 n)∧B=[(.par 0,wkX a b c d e)]):=by
 refine(ZkP a b c d e x (fun y w=>y=.int .i64 n∧w=wkX a b c d e) ?_).mono (fun r B ⟨y,w,h1,h2,h3,h4⟩=>⟨by rw[h1,h3],by rw[h2,h4]⟩);show awpX _ (.seq (.region [_,_,_]) _) _ _ _;refine Zap [_,_] ?_;simp[-getElem?_pos];refine⟨rfl,.inl ⟨_,_,rfl,?_⟩⟩;refine ZpJ 13 [.par 0] rfl rfl rfl rfl rfl rfl hl ?_;rintro y B ⟨rfl,a',b',c',d',e',rfl⟩;simp[-getElem?_pos,wkX];refine⟨rfl,nxT (nxB (wkX a' b' c' d' e') a b c d e 0),Sub.mk (by simp[nxT]) (by simp[nxT,nxB,wkX]),parT rfl,by simp[nxT,nxB],ZaZ ?_⟩;simp[-getElem?_pos,L120,cdR,nxT,nxB,wkX,errP];refine Zdt ⟨[(15,.pv (.int .i64 n)),(2,.ptr (.par 3) 0)],nxB (wkX a b c d e) a b c d e 0⟩ ?_ ?_
 ·simp[-getElem?_pos,Zak,Zaq];exact Sub.mk (by simp) (by simp[nxB,wkX])
 ·simp[-getElem?_pos,Zak,Zaq,nxB,wkX];refine⟨⟨[],nxB (wkX a b c d e) a b c d e n⟩,Sub.mk (by simp) (by simp[nxB,wkX]),parN rfl,?_⟩;simp[nxB,wkX]
theorem strE (a b:ByteArray):(a.toList==b.toList)=decide (a=b):=by
 rw[Zyr,ByteArray.toList_eq,ByteArray.toList_eq];simp only[beq_iff_eq,decide_eq_true_eq];exact⟨fun h=>by
  obtain⟨a⟩:=a;obtain⟨b⟩:=b
  have:a=b:=Zyv.1 h
  rw[this],fun h=>by rw[h]⟩
def numB (s:ByteArray):Option Int:=match Lib.atoiAll s.data.toList with
 |.ok v=>if itoaB v=s∧(trimB s ⟨#[45]⟩).size≤9 then some v else none
 |_=>none
theorem ZpT (s:ByteArray)(hs:s.size≤1000000)(v:Int)(h:numB s=some v):Gives Tryz.prog 163 [.str s] (.int .i64 v):=by
 refine cS L163 ?_;have ha:=ZrU s hs;unfold numB at h;unfold atoiE at ha;cases hat:Lib.atoiAll s.data.toList with
 |ok u=>
  rw[hat]at h ha;dsimp only at h ha;split at h
  ·rename_i hc;cases h;have hb:=Lib.atoiAll_bounds hat;have hi:=ZnW v ⟨by omega,by omega⟩;have ht:=Zru s ⟨#[45]⟩;have hle:((trimB s ⟨#[45]⟩).size:Int)≤9:=by omega
   have hle':=hc.2;simp[-getElem?_pos,L163];refine cG [.str s] ha ?_;simp[-getElem?_pos];refine cG [.int .i64 v] hi ?_;rw[hc.1];simp[-getElem?_pos,strE];refine cG [.str s,.str ⟨#[45]⟩] ht ?_;simp[-getElem?_pos,hle];refine cG [.bool true,.int .i64 4] (ask_t 4) ?_;simp[-getElem?_pos]
  ·cases h
 |_=>rw[hat]at h;cases h
theorem ZpV (s:ByteArray)(hs:s.size≤1000000)(h:numB s=none):ZcH Tryz.prog 163 [.pv (.str s)] [] (fun x B=>x=errP 4∧B=[]):=by
 refine(ZcI (R:=fun _ _=>False) mixed L163_ok (ZxK rfl) ?_).pan (fun _ _ h=>h);have ha:=ZrU s hs;unfold numB at h;unfold atoiE at ha;generalize hQ:panF (fun x B=>x=errP 4∧B=[])=Qp;have hend:∀τ:AS,Qp (errP 4) τ:=fun τ=>by rw[←hQ];exact⟨[],rfl,(fun s hs=>by cases hs),rfl,rfl⟩
 show awpX _ (.seq _ (.seq _ (.seq (.region [_,_,_,_,_,_,_,_,_,_,_,_,_,_,_]) _))) _ _ _;refine Zan ?_;simp[-getElem?_pos,hold];refine Zan ?_;simp[-getElem?_pos,hold];refine Zaa (k:=0) (fs:=[]) (xs:=[.str s]) (cs:=[]) rfl rfl ha (by split<;>rfl) ?_;cases hat:Lib.atoiAll s.data.toList with
 |ok u=>
  rw[hat]at h;dsimp only at h;have hb:=Lib.atoiAll_bounds hat;have hi:=ZnW u ⟨by omega,by omega⟩;have ht:=Zru s ⟨#[45]⟩;simp[-getElem?_pos,hold];refine Zap [_,_,_,_,_,_,_,_,_,_,_,_,_,_] ?_;simp[-getElem?_pos];refine cG [.int .i64 u] hi ?_;by_cases h1:itoaB u=s
  ·have h2:¬(trimB s ⟨#[45]⟩).size≤9:=fun h2=>by rw[if_pos ⟨h1,h2⟩]at h;cases h
   rw[h1];simp[-getElem?_pos,strE];refine cG [.str s,.str ⟨#[45]⟩] ht ?_;have h3:¬((trimB s ⟨#[45]⟩).size:Int)≤9:=by omega
   simp[-getElem?_pos,h3,hold];exact Zar (d:=99) [] (xs:=[.bool false,.int .i64 4]) (cs:=[]) rfl rfl (ask_f 4) rfl (fun x hx=>by rw[hx.1];exact hend _) (fun x B hx=>hx.2)
  ·simp[-getElem?_pos,strE,h1,hold];exact Zar (d:=99) [] (xs:=[.bool false,.int .i64 4]) (cs:=[]) rfl rfl (ask_f 4) rfl (fun x hx=>by rw[hx.1];exact hend _) (fun x B hx=>hx.2)
 |_=>
  simp[-getElem?_pos,hold];refine Zap [_,_,_,_,_,_,_,_,_,_,_,_,_,_] ?_;simp[-getElem?_pos,hold];exact Zar (d:=99) [] (xs:=[.bool false,.int .i64 4]) (cs:=[]) rfl rfl (ask_f 4) rfl (fun x hx=>by rw[hx.1];exact hend _) (fun x B hx=>hx.2)
end
section
attribute [local simp] retFz frzL AS.frz AV.frz AV.frzL Box.frz AS.tidy AS.ZvF
def clR (e:TypeId)(n:Nat)(l:List PV)(r:AV)(B:List (Site×Box)):Prop:=(l=[]∧r=.pv (.emp (some true))∧B=[])∨(r=.vec (.ret 0) n 0 l.length∧B=[(.ret 0,.arr e n l)])
theorem Zf6 (l:List PV)(hl:l.length≤1000000):Zai Tryz.prog 29 [.pv (.lst false 1 l)] [] (clR 3 1 l):=by
 refine cE L29 ?_;cases l with
 |nil=>
  simp[-getElem?_pos,L29,nilOf,ZaB,nble,opWp,osel];exact⟨⟨[],by simp[clR]⟩,⟨[.loc 7 0],by simp[clR]⟩⟩
 |cons a l=>
  have h1:l.length+1≤1000000:=by simpa using hl
  simp[-getElem?_pos,L29,nilOf,nble,h1];exact⟨[.loc 7 0],by simp[clR]⟩
theorem ZeB (l:List PV)(hl:l.length≤1000000):Zai Tryz.prog 42 [.pv (.lst false 7 l)] [] (clR 47 7 l):=by
 refine cE L42 ?_;cases l with
 |nil=>
  simp[-getElem?_pos,L42,nilOf,ZaB,nble,opWp,osel];exact⟨⟨[],by simp[clR]⟩,⟨[.loc 7 0],by simp[clR]⟩⟩
 |cons a l=>
  have h1:l.length+1≤1000000:=by simpa using hl
  simp[-getElem?_pos,L42,nilOf,nble,h1];exact⟨[.loc 7 0],by simp[clR]⟩
theorem ZgU (l:List PV)(hl:l.length≤1000000):Zai Tryz.prog 74 [.pv (.lst false 4 l)] [] (clR 68 4 l):=by
 refine cE L74 ?_;cases l with
 |nil=>
  simp[-getElem?_pos,L74,nilOf,ZaB,nble,opWp,osel];exact⟨⟨[],by simp[clR]⟩,⟨[.loc 7 0],by simp[clR]⟩⟩
 |cons a l=>
  have h1:l.length+1≤1000000:=by simpa using hl
  simp[-getElem?_pos,L74,nilOf,nble,h1];exact⟨[.loc 7 0],by simp[clR]⟩
theorem ZgS (l:List PV)(hl:l.length≤1000000):Zai Tryz.prog 75 [.pv (.lst false 4 l)] [] (clR 58 4 l):=by
 refine cE L75 ?_;cases l with
 |nil=>
  simp[-getElem?_pos,L75,nilOf,ZaB,nble,opWp,osel];exact⟨⟨[],by simp[clR]⟩,⟨[.loc 7 0],by simp[clR]⟩⟩
 |cons a l=>
  have h1:l.length+1≤1000000:=by simpa using hl
  simp[-getElem?_pos,L75,nilOf,nble,h1];exact⟨[.loc 7 0],by simp[clR]⟩
theorem ZgT (l:List PV)(hl:l.length≤1000000):Zai Tryz.prog 244 [.pv (.lst false 3 l)] [] (clR 147 3 l):=by
 refine cE L244 ?_;cases l with
 |nil=>
  simp[-getElem?_pos,L244,nilOf,ZaB,nble,opWp,osel];exact⟨⟨[],by simp[clR]⟩,⟨[.loc 7 0],by simp[clR]⟩⟩
 |cons a l=>
  have h1:l.length+1≤1000000:=by simpa using hl
  simp[-getElem?_pos,L244,nilOf,nble,h1];exact⟨[.loc 7 0],by simp[clR]⟩
end
end
section
section
variable {P:Program}{σ:AS}{K:AV→AS→Prop}
theorem Za9 (fz:List Site){f:Opd}{args:List Opd}{d:Nat}{g:FuncId}{fs xs cs:List PV}{R:AV→List (Site×Box)→Prop}(h1:(frzsL fz σ).o f=.pv (.fn g fs cs))(h2:(frzsL fz σ).pvs args=some xs)
  (hc:Zai P g ((fs++xs++cs).map .pv) [] R) (hK:∀r B,R r B→retOk r B∧K (r.map (toLoc d)) (((frzsL fz σ).Zu0 d).Zvd (renB d B))):Zb8 P f args d K σ:=.inr ⟨fz,g,fs,xs,cs,h1,h2,hc.mono hK⟩
end
theorem ZbP {P:Program}{t r:LT}{K:AS→Prop}{σ:AS}(J:AS→Prop)(h1:opsTS P t (fun τ'=>∃τ,Sub τ τ'∧J τ) σ)(h2:∀τ,J τ→opsTS P r K τ):opsTS P (.seq t r) K σ:=⟨J,h1,h2⟩
attribute [local simp] AS.exp expG Box.ren AV.map AV.Zu9 Zau noRet Site.Zu6 Box.Zu3 AV.Zu3 AV.Zu4 retB dropL AS.Zvd renL outG outOk Zas inG fnOf lookA Zyc
attribute [local simp] Box.Zu0 Site.Zu1
attribute [local simp] retFz frzL AS.frz AV.frz AV.frzL Box.frz AS.tidy AS.ZvF frzsL retOk renB toLoc
theorem ZdF {l:List PV}{x:PV}:List.take (l.length+1) (l++[x])=l++[x]:=ZxW (by simp)
theorem Zmf (l:List PV)(x:Int)(hl:l.length≤900000):Gives Tryz.prog 33 [.lst false 1 l,.int .i64 x] (.lst false 1 (l++[.int .i64 x])):=by
 have h1:l.length+1≤1000000:=by omega
 refine cFR [.loc 9 0] L33 ?_;intro R hR;simp[-getElem?_pos,L33];refine Zac 6 [] rfl rfl rfl rfl rfl rfl (Zf6 l (by omega)) ?_;rintro r B (⟨rfl,rfl,rfl⟩|⟨rfl,rfl⟩)
 ·simp[←hR,nble]
 ·simp[-getElem?_pos,←hR,nble,h1,ZdF]
theorem ZoN (l:List PV)(a b c d e f g:Int)(hl:l.length≤900000):Gives Tryz.prog 214 [.lst false 7 l,.agg [.int .i64 a,.int .i64 b,.int .i64 c,.int .i64 d,.int .i64 e,.int .i64 f,.int .i64 g]] (.lst false 7 (l++[.agg [.int .i64 a,.int .i64 b,.int .i64 c,.int .i64 d,.int .i64 e,.int .i64 f,.int .i64 g]])):=by
 have h1:l.length+1≤1000000:=by omega
 refine cFR [.loc 9 0] L214 ?_;intro R hR;simp[-getElem?_pos,L214];refine ZbP (fun τ=>(l=[]∧τ=⟨[(6,.pv (.emp (some true))),(8,.vec (.loc 8 0) 7 0 1)],[(.loc 8 0,.arr 47 7 [.agg [.int .i64 a,.int .i64 b,.int .i64 c,.int .i64 d,.int .i64 e,.int .i64 f,.int .i64 g]])]⟩)∨τ=⟨[(6,.vec (.loc 6 0) 7 0 l.length),(8,.vec (.loc 8 0) 7 0 1)],[(.loc 6 0,.arr 47 7 l),(.loc 8 0,.arr 47 7 [.agg [.int .i64 a,.int .i64 b,.int .i64 c,.int .i64 d,.int .i64 e,.int .i64 f,.int .i64 g]])]⟩) ?_ ?_
 ·simp only[Zak,Zaq];refine⟨?_,?_⟩
  ·simp[-getElem?_pos];refine Za9 [] (fs:=[]) (xs:=[.lst false 7 l]) (cs:=[]) rfl rfl (ZeB l (by omega)) ?_;rintro r B (⟨rfl,rfl,rfl⟩|⟨rfl,rfl⟩)
   ·simp[Zak,Zaq];exact⟨_,Sub.mk (by simp) (by simp),.inl rfl⟩
   ·simp[-getElem?_pos,Zak,Zaq];exact⟨_,Sub.mk (by simp) (by simp),.inr rfl⟩
  ·refine⟨?_,trivial⟩;simp[-getElem?_pos,Zak,Zaq];refine Za9 [] (fs:=[]) (xs:=[.lst false 7 l]) (cs:=[]) rfl rfl (ZeB l (by omega)) ?_;rintro r B (⟨rfl,rfl,rfl⟩|⟨rfl,rfl⟩)
   ·simp;exact⟨_,Sub.mk (by simp) (by simp),.inl rfl⟩
   ·simp[-getElem?_pos];exact⟨_,Sub.mk (by simp) (by simp),.inr rfl⟩
 ·rintro τ (⟨rfl,rfl⟩|rfl)
  ·simp[Zak,Zaq,←hR,nble]
  ·simp[-getElem?_pos,Zak,Zaq,←hR,nble,h1,ZdF]
theorem ZoL (l:List PV)(a b c d:Int)(hl:l.length≤900000):Gives Tryz.prog 222 [.lst false 4 l,.agg [.int .i64 a,.int .i64 b,.int .i64 c,.int .i64 d]] (.lst false 4 (l++[.agg [.int .i64 a,.int .i64 b,.int .i64 c,.int .i64 d]])):=by
 have h1:l.length+1≤1000000:=by omega
 refine cFR [.loc 9 0] L222 ?_;intro R hR;simp[-getElem?_pos,L222];refine ZbP (fun τ=>(l=[]∧τ=⟨[(6,.pv (.emp (some true))),(8,.vec (.loc 8 0) 4 0 1)],[(.loc 8 0,.arr 58 4 [.agg [.int .i64 a,.int .i64 b,.int .i64 c,.int .i64 d]])]⟩)∨τ=⟨[(6,.vec (.loc 6 0) 4 0 l.length),(8,.vec (.loc 8 0) 4 0 1)],[(.loc 6 0,.arr 58 4 l),(.loc 8 0,.arr 58 4 [.agg [.int .i64 a,.int .i64 b,.int .i64 c,.int .i64 d]])]⟩) ?_ ?_
 ·simp only[Zak,Zaq];refine⟨?_,?_⟩
  ·simp[-getElem?_pos];refine Za9 [] (fs:=[]) (xs:=[.lst false 4 l]) (cs:=[]) rfl rfl (ZgS l (by omega)) ?_;rintro r B (⟨rfl,rfl,rfl⟩|⟨rfl,rfl⟩)
   ·simp[Zak,Zaq];exact⟨_,Sub.mk (by simp) (by simp),.inl rfl⟩
   ·simp[-getElem?_pos,Zak,Zaq];exact⟨_,Sub.mk (by simp) (by simp),.inr rfl⟩
  ·refine⟨?_,trivial⟩;simp[-getElem?_pos,Zak,Zaq];refine Za9 [] (fs:=[]) (xs:=[.lst false 4 l]) (cs:=[]) rfl rfl (ZgS l (by omega)) ?_;rintro r B (⟨rfl,rfl,rfl⟩|⟨rfl,rfl⟩)
   ·simp;exact⟨_,Sub.mk (by simp) (by simp),.inl rfl⟩
   ·simp[-getElem?_pos];exact⟨_,Sub.mk (by simp) (by simp),.inr rfl⟩
 ·rintro τ (⟨rfl,rfl⟩|rfl)
  ·simp[Zak,Zaq,←hR,nble]
  ·simp[-getElem?_pos,Zak,Zaq,←hR,nble,h1,ZdF]
theorem ZoM (l:List PV)(a b:Int)(o:List PV)(x:PV)(hx:x=.lst false 1 o)(hl:l.length≤900000):Gives Tryz.prog 223 [.lst false 3 l,.agg [.int .i64 a,.int .i64 b,x]] (.lst false 3 (l++[.agg [.int .i64 a,.int .i64 b,x]])):=by
 have h1:l.length+1≤1000000:=by omega
 refine cFR [.loc 9 0] L223 ?_;intro R hR;simp[-getElem?_pos,L223];refine ZbP (fun τ=>(l=[]∧τ=⟨[(6,.pv (.emp (some true))),(8,.vec (.loc 8 0) 3 0 1)],[(.loc 8 0,.arr 147 3 [.agg [.int .i64 a,.int .i64 b,x]])]⟩)∨τ=⟨[(6,.vec (.loc 6 0) 3 0 l.length),(8,.vec (.loc 8 0) 3 0 1)],[(.loc 6 0,.arr 147 3 l),(.loc 8 0,.arr 147 3 [.agg [.int .i64 a,.int .i64 b,x]])]⟩) ?_ ?_
 ·simp only[Zak,Zaq];refine⟨?_,?_⟩
  ·simp[-getElem?_pos];refine Za9 [] (fs:=[]) (xs:=[.lst false 3 l]) (cs:=[]) rfl rfl (ZgT l (by omega)) ?_;rintro r B (⟨rfl,rfl,rfl⟩|⟨rfl,rfl⟩)
   ·simp[Zak,Zaq];exact⟨_,Sub.mk (by simp) (by simp),.inl rfl⟩
   ·simp[-getElem?_pos,Zak,Zaq];exact⟨_,Sub.mk (by simp) (by simp),.inr rfl⟩
  ·refine⟨?_,trivial⟩;simp[-getElem?_pos,Zak,Zaq];refine Za9 [] (fs:=[]) (xs:=[.lst false 3 l]) (cs:=[]) rfl rfl (ZgT l (by omega)) ?_;rintro r B (⟨rfl,rfl,rfl⟩|⟨rfl,rfl⟩)
   ·simp;exact⟨_,Sub.mk (by simp) (by simp),.inl rfl⟩
   ·simp[-getElem?_pos];exact⟨_,Sub.mk (by simp) (by simp),.inr rfl⟩
 ·rintro τ (⟨rfl,rfl⟩|rfl)
  ·simp[Zak,Zaq,←hR,nble]
  ·simp[-getElem?_pos,Zak,Zaq,←hR,nble,h1,ZdF]
end
section
attribute [local simp] AS.exp expG Box.ren AV.map AV.Zu9 Zau noRet Site.Zu6 Box.Zu3 AV.Zu3 AV.Zu4 retB dropL AS.Zvd renL outG outOk Zas inG fnOf lookA Zyc
attribute [local simp] Box.Zu0 Site.Zu1
section
def wCert:ByteArray:=⟨#[99,101,114,116]⟩
def wBad:ByteArray:=⟨#[98,97,100]⟩
def wLot:ByteArray:=⟨#[108,111,116]⟩
def wTest:ByteArray:=⟨#[116,101,115,116]⟩
def wPass:ByteArray:=⟨#[112,97,115,115]⟩
def wRun:ByteArray:=⟨#[114,117,110]⟩
def actP (k:Int)(f:FuncId):PV:=.agg [.int .i64 k,.fn f [] []]
def actsE:List (PV×PV):=[(.str wCert,actP 7 187),(.str wBad,actP 1 188),(.str wLot,actP 3 189),(.str wTest,actP 4 190),(.str wPass,actP 1 191),(.str wRun,actP 3 192)]
theorem ZrW:Zai Tryz.prog 161 [] [] (fun r B=>r=.mp (.ret 0)∧B=[(.ret 0,.map actsE)]):=by
 refine cB [.loc 1 0] L161 ?_;simp[-getElem?_pos,L161,Zbi,putK,strE];rfl
def wordB (s:ByteArray):Option (Nat×FuncId):=if s=wCert then some (7,187)else if s=wBad then some (1,188)else if s=wLot then some (3,189)else if s=wTest then some (4,190)else if s=wPass then some (1,191)else if s=wRun then some (3,192)else none
theorem Zr1 (s:ByteArray):findV (.str s) actsE=(wordB s).map fun p=>actP p.1 p.2:=by
 unfold wordB;by_cases h0:s=wCert
 ·have d0:decide (s=wCert)=true:=decide_eq_true h0;simp only[actsE,findV,eqK,eqL,eqC,PV.cells,strE,Bool.and_true,d0,if_pos h0];rfl
 have d0:decide (s=wCert)=false:=decide_eq_false h0;by_cases h1:s=wBad
 ·have d1:decide (s=wBad)=true:=decide_eq_true h1;simp only[actsE,findV,eqK,eqL,eqC,PV.cells,strE,Bool.and_true,d0,d1,if_neg h0,if_pos h1];rfl
 have d1:decide (s=wBad)=false:=decide_eq_false h1;by_cases h2:s=wLot
 ·have d2:decide (s=wLot)=true:=decide_eq_true h2;simp only[actsE,findV,eqK,eqL,eqC,PV.cells,strE,Bool.and_true,d0,d1,d2,if_neg h0,if_neg h1,if_pos h2];rfl
 have d2:decide (s=wLot)=false:=decide_eq_false h2;by_cases h3:s=wTest
 ·have d3:decide (s=wTest)=true:=decide_eq_true h3;simp only[actsE,findV,eqK,eqL,eqC,PV.cells,strE,Bool.and_true,d0,d1,d2,d3,if_neg h0,if_neg h1,if_neg h2,if_pos h3];rfl
 have d3:decide (s=wTest)=false:=decide_eq_false h3;by_cases h4:s=wPass
 ·have d4:decide (s=wPass)=true:=decide_eq_true h4;simp only[actsE,findV,eqK,eqL,eqC,PV.cells,strE,Bool.and_true,d0,d1,d2,d3,d4,if_neg h0,if_neg h1,if_neg h2,if_neg h3,if_pos h4];rfl
 have d4:decide (s=wPass)=false:=decide_eq_false h4;by_cases h5:s=wRun
 ·have d5:decide (s=wRun)=true:=decide_eq_true h5;simp only[actsE,findV,eqK,eqL,eqC,PV.cells,strE,Bool.and_true,d0,d1,d2,d3,d4,d5,if_neg h0,if_neg h1,if_neg h2,if_neg h3,if_neg h4,if_pos h5];rfl
 have d5:decide (s=wRun)=false:=decide_eq_false h5;simp only[actsE,findV,eqK,eqL,eqC,PV.cells,strE,Bool.and_true,d0,d1,d2,d3,d4,d5,if_neg h0,if_neg h1,if_neg h2,if_neg h3,if_neg h4,if_neg h5];rfl
end
section
attribute [local simp] frzsL retOk renB toLoc
def blank:ByteArray:=⟨#[32]⟩
theorem Zkp (s:ByteArray):(Za8 s blank).length=Lib.countB s blank+1:=Lib.splitB_all blank (by decide) 0 _ s rfl
theorem Zrv (s:ByteArray):Lib.countB s blank≤s.size:=Lib.countB_le blank (by decide) _ s (ZxR _)
def numsB:List ByteArray→Option (List Int)
 |[]=>some []
 |x::r=>match numB x with
  |some n=>(numsB r).map (n::·)
  |none=>none
theorem Zde {x:ByteArray}{r:List ByteArray}:numsB (x::r)=match numB x with
  |some n=>(numsB r).map (n::·)
  |none=>none:=rfl
def ZaD (s:ByteArray):Option (FuncId×List Int):=match Za8 s blank with
 |[]=>none
 |l0::r=>match wordB l0 with
  |some (k,g)=>if r.length=k then(numsB r).map fun n=>(g,n)else none
  |none=>none
def okR (Q:PV→PV→PV→PV→PV→Prop)(r:AV)(B:List (Site×Box)):Prop:=r=.pv (.tup [])∧∃a b c d e,B=[(.par 0,wkX a b c d e)]∧Q a b c d e
def noR (E:Int→Prop)(x:PV)(B:List (Site×Box)):Prop:=∃n,x=errP n∧E n∧∃a b c d e,B=[(.par 0,wkX a b c d e)]
theorem Zee (sep:ByteArray):∀(k:Nat) (s x:ByteArray),x∈Lib.splitB sep 0 k s→x.size≤s.size
 |0,s,x,h=>by
  rw[Lib.splitB_zero]at h;cases Zyi.1 h;exact ZxR _
 |k+1,s,x,h=>by
  unfold Lib.splitB at h;split at h
  ·cases Zyi.1 h;exact ZxR _
  ·rcases Zx2.1 h with rfl|h
   ·rw[ByteArray.size_extract];omega
   ·have:=Zee sep k _ x h
    rw[ByteArray.size_extract]at this;omega
theorem Zem {x:ByteArray}{v:Int}(hx:numB x=some v):∀{r:List ByteArray} {l:List Int},numsB r=some l→numsB (r++[x])=some (l++[v])
 |[],l,h=>by cases h;simp[numsB,hx]
 |y::r,l,h=>by
  rw[Zde]at h;cases hy:numB y with
  |none=>rw[hy]at h;cases h
  |some n=>
   rw[hy]at h;obtain⟨l',h1,rfl⟩:=ZxP.1 h;rw[List.cons_append,Zde,hy];dsimp only;rw[Zem hx h1];rfl
theorem Zen {x:ByteArray}(hx:numB x=none):∀{r:List ByteArray},x∈r→numsB r=none
 |y::r,h=>by
  rw[Zde];rcases Zx2.1 h with rfl|h
  ·rw[hx]
  ·cases hy:numB y with
   |none=>rfl
   |some n=>dsimp only;rw[Zen hx h];rfl
def iP (n:Int):PV:=.int .i64 n
def lnS (r:List ByteArray)(k:Int)(g:PV)(w:Box)(i:Nat)(l:List Int):AS:=⟨[(0,.ptr (.par 0) 0),(5,.ptr (.loc 5 0) 0),(7,.vec (.loc 41 0) 1 0 l.length),(31,.pv (.lst true 1 (r.map .str))),(32,.pv (.int .i64 r.length)),(33,.pv (.int .i64 i))],
 [(.loc 41 0,.arr 3 1 (l.map iP)),(.loc 5 0,.cells [.pv (.int .i64 k),.pv g]),(.par 0,w)]⟩
theorem Zkc {s:ByteArray}{k:Nat}{g:FuncId}(h:wordB s=some (k,g)):1≤k∧k≤7:=by
 unfold wordB at h
 repeat' split at h
 all_goals first|(cases h;omega)|cases h
theorem Zur {a b c d e:PV}(s:ByteArray)(hs:s.size≤1000){Q:PV→PV→PV→PV→PV→Prop}{E:Int→Prop}(h4:ZaD s=none→E 4)
  (hdo:∀g nums,ZaD s=some (g,nums)→Zai Tryz.prog g [.ptr (.par 0) 0,.pv (.lst false 1 (nums.map iP))] [(.par 0,wkX a b c d e)] (okR Q)∨ZcH Tryz.prog g [.ptr (.par 0) 0,.pv (.lst false 1 (nums.map iP))] [(.par 0,wkX a b c d e)] (noR E)):
  ZaT Tryz.prog 121 [.ptr (.par 0) 0,.pv (.str s)] [(.par 0,wkX a b c d e)] (okR Q) (noR E):=by
 have hsp:=Zsl s blank (by omega) (by decide) (Zkp s) (by have:=Zrv s;omega);have hlen:=Zkp s;have hcap:=Zrv s;refine cX L121 ?_;generalize hQ:panF (noR E)=Qp;have hend:∀(n:Int) (τ:AS) a b c d e,E n→τ.b (.par 0)=some (wkX a b c d e)→Qp (errP n) τ:=fun n τ a b c d e h1 h2=>by
  rw[←hQ];refine⟨[.par 0],rfl,fun s hs b hb=>?_,n,rfl,h1,a,b,c,d,e,?_⟩
  ·cases Zyi.1 hs;rw[h2]at hb;cases hb;rfl
  ·unfold AS.exp;rw[h2];rfl
 unfold ZaD at h4 hdo;cases hl:Za8 s blank with
 |nil=>rw[hl]at hlen;cases hlen
 |cons l0 r=>
 rw[hl]at hsp h4 hdo hlen;dsimp only at h4 hdo;have hrl:r.length≤1000:=by simp at hlen;omega
 show awpX _ (.seq _ (.seq _ (.seq _ (.seq _ (.seq _ _))))) _ _ _;refine Zan ?_;simp[-getElem?_pos,hold];refine .inl (cQ [] [.str s,.str blank] hsp ?_);simp[-getElem?_pos,hold];have hk:Zbi ⟨false,[.str]⟩ actsE=true:=rfl;have hw:=Zr1 l0;obtain⟨k,g,ok,hent,hwo⟩:∃(k:Int) (g:PV) (ok:Bool),((findV (.str l0) actsE).getD (.agg [.int .i64 0,.nilfn])=.agg [.int .i64 k,g]∧(findV (.str l0) actsE).isSome=ok)∧((ok=false∧wordB l0=none)∨∃(k':Nat) (g':FuncId),ok=true∧wordB l0=some (k',g')∧k=k'∧g=.fn g' [] []):=by
  rw[hw];cases hwb:wordB l0 with
  |none=>exact⟨0,.nilfn,false,⟨rfl,rfl⟩,.inl ⟨rfl,rfl⟩⟩
  |some p=>exact⟨p.1,.fn p.2 [] [],true,⟨rfl,rfl⟩,.inr ⟨p.1,p.2,rfl,rfl,rfl,rfl⟩⟩
 refine Zan ?_;simp[-getElem?_pos,hold];refine Zdt ⟨[(19,.pv (.bool ok)),(5,.ptr (.loc 5 0) 0),(4,.pv (.lst true 1 ((l0::r).map .str))),(0,.ptr (.par 0) 0)],[(.loc 5 0,.cells [.pv (.int .i64 k),.pv g]),(.par 0,wkX a b c d e)]⟩ ?_ ?_
 ·simp[-getElem?_pos,Zak,Zaq];refine⟨?_,?_⟩
  ·refine Za9 [] (fs:=[]) (xs:=[]) (cs:=[]) rfl rfl ZrW ?_;rintro r' B ⟨rfl,rfl⟩;simp[-getElem?_pos,Zak,Zaq,hk,hent];exact Sub.mk (by simp) (by simp[wkX])
  ·refine Za9 [] (fs:=[]) (xs:=[]) (cs:=[]) rfl rfl ZrW ?_;rintro r' B ⟨rfl,rfl⟩;simp[-getElem?_pos,Zak,Zaq,hk,hent];exact Sub.mk (by simp) (by simp[wkX])
 simp[-getElem?_pos,hold];rcases hwo with⟨rfl,hwn⟩|⟨k',g',rfl,hws,rfl,rfl⟩
 ·rw[hwn]at h4;have hE:=h4 rfl;refine Zap [_,_,_,_,_,_,_,_,_] ?_;simp[-getElem?_pos,hold];exact Zar (d:=99) [] (xs:=[.bool false,.int .i64 4]) (cs:=[]) rfl rfl (ask_f 4) rfl (fun x hx=>by rw[hx.1];exact hend 4 _ a b c d e hE rfl) (fun x B hx=>hx.2)
 rw[hws]at h4 hdo;dsimp only at h4 hdo;obtain⟨hk1,hk7⟩:=Zkc hws;have hkw:IntKind.i64.wrap ((k':Int)+1)=k'+1:=wrap64 ⟨by omega,by omega⟩;by_cases hrk:r.length=k'
 ·rw[if_pos hrk]at h4;have hrk':(r.length:Int)=k':=by omega
  refine Zan ?_;simp[-getElem?_pos,hold,hkw,hrk'];refine cG [.bool true,.int .i64 4] (ask_t 4) ?_;simp[-getElem?_pos,hold];rw[if_pos hrk]at hdo;refine Zan ?_;simp[-getElem?_pos,hold];refine Zi8 (Zan ?_);simp[-getElem?_pos,hold,nble];refine ZgW (ZoY (fun n τ=>∃i l,n=r.length-i∧i≤r.length∧numsB (r.take i)=some l∧l.length=i∧τ=lnS r k' (.fn g' [] []) (wkX a b c d e) i l) ?_ ?_)
  ·refine⟨_,lnS r k' (.fn g' [] []) (wkX a b c d e) 0 [],Sub.trans' (Sub.mk (by simp[lnS,AS.vecT,hrk']) (by simp[lnS,AS.vecT,wkX])) (vecT 41 3 1 7 rfl (by decide)),0,[],rfl,by omega,rfl,rfl,rfl⟩
  rintro J hJ n τ ⟨i,l,rfl,hi,hl1,hl2,rfl⟩;by_cases hlt:i<r.length
  ·obtain⟨x,hx⟩:∃x,r[i]?=some x:=⟨r[i],ZxL hlt⟩;have htk:r.take (i+1)=r.take i++[x]:=by rw[Zx6,hx];rfl
   have hxs:x.size≤1000000:=by
    have h1:x∈Za8 s blank:=by rw[hl];exact List.mem_cons_of_mem _ (ZxQ hx)
    have:=Zee blank _ s x h1
    omega
   cases hnx:numB x with
   |some v=>
    have hw1:IntKind.i64.wrap ((i:Int)+1)=(i:Int)+1:=wrap64 ⟨by omega,by omega⟩;have hl3:l.length+1≤1000000:=by omega
    refine ZbA ?_;simp[-getElem?_pos,lnS,hlt,hx];refine cG [.str x] (ZpT x hxs v hnx) ?_;simp[-getElem?_pos,nble,hl3,hw1];refine⟨r.length-(i+1),lnS r k' (.fn g' [] []) (wkX a b c d e) (i+1) (l++[v]),by omega,Sub.mk (by simp[lnS]) (by simp[lnS,wkX,iP]),hJ _ _ ⟨i+1,l++[v],rfl,by omega,by rw[htk];exact Zem hnx hl1,by simp[hl2],rfl⟩⟩
   |none=>
    have hE:=h4 (by rw[Zen hnx (ZxQ hx)];rfl);refine Zan ?_;simp[-getElem?_pos,lnS,hlt,hold];refine Zan ?_;simp[-getElem?_pos,hold];refine Zi8 (ZgW (Zan ?_));simp[-getElem?_pos,hx,hold];refine Zeb [_,_] ?_;simp[-getElem?_pos,hold];exact Zar (d:=99) [] (xs:=[.str x]) (cs:=[]) rfl rfl (ZpV x hxs hnx) rfl (fun y hy=>by rw[hy.1];exact hend 4 _ a b c d e hE rfl) (fun x B hx=>hx.2)
  ·have e:i=r.length:=by omega
   subst e;rw[Zye]at hl1;have hg:=hdo g' l (by rw[hl1];rfl);refine ZbA ?_;simp[-getElem?_pos,lnS];rcases hg with hg|hg
   ·refine ZbA ?_;simp[-getElem?_pos,AS.frz,AV.frz,AV.frzL,Box.frz];refine Zme 47 [.loc 41 0] [.par 0] rfl rfl rfl rfl (by simp[AS.frz,AV.frz,AV.frzL,Box.frz]) (by simp[AS.frz,AV.frz,AV.frzL,Box.frz];try exact ZxW (by simp)) hg ?_;rintro r' B ⟨rfl,a',b',c',d',e',rfl,hq⟩;simp[-getElem?_pos,wkX];exact Zjl (outs:=[.par 0]) ⟨[],rfl,rfl,rfl,⟨⟨_,rfl,rfl⟩,trivial⟩,rfl,a',b',c',d',e',rfl,hq⟩
   ·refine Zeb [_,_,_,_] ?_;simp[-getElem?_pos,hold];refine⟨rfl,.inl ⟨_,_,rfl,?_⟩⟩;refine Znr 47 [.loc 41 0] [.par 0] rfl rfl rfl rfl (by simp[AS.frz,AV.frz,AV.frzL,Box.frz]) (by simp[AS.frz,AV.frz,AV.frzL,Box.frz];try exact ZxW (by simp)) hg ?_;rintro y B ⟨n,rfl,hn,a',b',c',d',e',rfl⟩;refine⟨?_,hend n _ a' b' c' d' e' hn ?_⟩
    ·simp[wkX]
    ·simp[wkX]
 ·rw[if_neg hrk]at h4;have hE:=h4 rfl;have hrk':¬((r.length:Int)=k'):=by omega
  refine Zap [_,_,_,_,_,_,_,_,_] ?_;simp[-getElem?_pos,hold,hkw,hrk'];exact Zar (d:=99) [] (xs:=[.bool false,.int .i64 4]) (cs:=[]) rfl rfl (ask_f 4) rfl (fun x hx=>by rw[hx.1];exact hend 4 _ a b c d e hE rfl) (fun x B hx=>hx.2)
end
section
def lowB (l:List Int)(x:Int):Nat:=(l.filter fun y=>decide (y<x)).length
structure Cut (l:List Int)(x:Int)(i j:Nat):Prop where
 ij:i≤j
 jl:j≤l.length
 lo:∀(k:Nat) (y:Int),k<i→l[k]?=some y→y<x
 hi:∀(k:Nat) (y:Int),j≤k→l[k]?=some y→x≤y
theorem Cut.is {l:List Int}{x:Int}{i:Nat}(h:Cut l x i i):lowB l x=i:=by
 unfold lowB;have e:l.filter (fun y=>decide (y<x))=l.take i:=by
  conv=>lhs;rw[←List.take_append_drop i l]
  rw[Zyw];have h1:(l.take i).filter (fun y=>decide (y<x))=l.take i:=by
   rw[List.filter_eq_self];intro y hy;obtain⟨k,hk⟩:=ZxV.1 hy;rw[Zx1]at hk;split at hk
   ·rename_i hki;simpa using h.lo k y hki hk
   ·cases hk
  have h2:(l.drop i).filter (fun y=>decide (y<x))=[]:=by
   rw[List.filter_eq_nil_iff];intro y hy;obtain⟨k,hk⟩:=ZxV.1 hy;rw[Zx3]at hk
   have:=h.hi (i+k) y (by omega) hk
   simp;omega
  rw[h1,h2,Zx9]
 rw[e,ZxT]
 have:=h.jl
 omega
theorem Cut.up {l:List Int}{x:Int}{i j k:Nat}{y:Int}(hs:l.Pairwise (·<·))(h:Cut l x i j)(hk:k<j)(hy:l[k]?=some y)(hx:y<x):Cut l x (k+1) j:=by
 refine⟨by omega,h.jl,fun m z hm hz=>?_,h.hi⟩;by_cases e:m=k
 ·subst e;rw[hy]at hz;cases hz;exact hx
 ·have hkl:=(ZxN.1 hy).1;have hml:=(ZxN.1 hz).1
  have:=ZyE.1 hs m k hml hkl (by omega)
  rw[(ZxN.1 hy).2,(ZxN.1 hz).2]at this;omega
theorem Cut.dn {l:List Int}{x:Int}{i j k:Nat}{y:Int}(hs:l.Pairwise (·<·))(h:Cut l x i j)(hk:k<j)(hik:i≤k)(hy:l[k]?=some y)(hx:¬y<x):Cut l x i k:=by
 have hjl:=h.jl;refine⟨hik,by omega,h.lo,fun m z hm hz=>?_⟩;by_cases e:m=k
 ·subst e;rw[hy]at hz;cases hz;omega
 ·have hkl:=(ZxN.1 hy).1;have hml:=(ZxN.1 hz).1
  have:=ZyE.1 hs k m hkl hml (by omega)
  rw[(ZxN.1 hy).2,(ZxN.1 hz).2]at this;omega
theorem ZqN (x:Int):Gives Tryz.prog 195 [.int .i64 x] (.bool false):=by
 refine cS L195 ?_;simp[L195]
theorem Zpl (x:Int):Gives Tryz.prog 237 [.int .i64 x] (.bool false):=by
 refine cS L237 ?_;simp[L237]
theorem Zp9 (a b:Int):Gives Tryz.prog 173 [.int .i64 a,.int .i64 b] (.bool (decide (a<b))):=by
 refine cS L173 ?_;simp[-getElem?_pos,L173];refine cG [.int .i64 a] (ZqN a) ?_;simp
theorem mid_f (i j:Nat):∃m:Nat,m=(i+j) / 2∧((i:Int)+j).fdiv (2^min 1 IntKind.u64.bits)=(m:Int):=by
 refine⟨(i+j) / 2,rfl,?_⟩
 have:(2:Int)^min 1 IntKind.u64.bits=2:=by decide
 rw[this,Int.fdiv_eq_ediv_of_nonneg _ (by omega)];omega
def bsS (l:List Int)(x:Int)(i j:Nat):AS:=⟨[(0,.pv (.lst false 1 (l.map iP))),(1,.pv (.int .i64 x)),(6,.pv (.int .i64 l.length)),(7,.pv (.int .i64 i)),(8,.pv (.int .i64 j))],[]⟩
theorem mid_w {i j:Nat}(h:j≤1000000)(hi:i≤j):IntKind.i64.wrap ((i:Int)+j)=(i:Int)+j:=wrap64 ⟨by omega,by omega⟩
theorem ZoP (l:List Int)(x:Int)(hs:l.Pairwise (·<·))(hl:l.length≤1000000):Gives Tryz.prog 217 [.lst false 1 (l.map iP),.int .i64 x] (.tup [.int .i64 (lowB l x),.bool (decide (x∈l))]):=by
 refine cSR L217 ?_;intro R hR;simp[-getElem?_pos,L217];refine Zaf (fun n τ=>∃i j,n=j-i∧Cut l x i j∧τ=bsS l x i j) ?_ ?_
 ·refine⟨_,bsS l x 0 l.length,Sub.mk (by simp[bsS,iP]) (by simp[bsS,iP]),0,l.length,rfl,⟨by omega,by omega,fun k y hk=>by omega,fun k y hk hy=>?_⟩,rfl⟩
  have:=(ZxN.1 hy).1
  omega
 ·rintro J hJ n τ ⟨i,j,rfl,hc,rfl⟩;have hij:=hc.ij;have hjl:=hc.jl;by_cases h:i<j
  ·have hw:=mid_w (i:=i) (j:=j) (by omega) hij;obtain⟨m,hm,hF⟩:=mid_f i j;have hU:IntKind.u64.wrap ((i:Int)+j)=(i:Int)+j:=by rw[IntKind.wrap_u64];omega
   have hW:IntKind.i64.wrap (m:Int)=m:=wrap64 ⟨by omega,by omega⟩;have hW1:IntKind.i64.wrap ((m:Int)+1)=(m:Int)+1:=wrap64 ⟨by omega,by omega⟩;obtain⟨y,hy⟩:∃y,l[m]?=some y:=⟨l[m],ZxL (by omega)⟩;simp[-getElem?_pos,bsS,h,hw,hU,hF,hW,hy,iP];refine cG [.int .i64 y,.int .i64 x] (Zp9 y x) ?_;by_cases hx:y<x
   ·simp[-getElem?_pos,hx,hW1];refine⟨j-(m+1),bsS l x (m+1) j,by omega,Sub.mk (by simp[bsS,iP]) (by simp[bsS,iP]),hJ _ _ ⟨m+1,j,rfl,hc.up hs (by omega) hy hx,rfl⟩⟩
   ·simp[-getElem?_pos,hx];refine⟨m-i,bsS l x i m,by omega,Sub.mk (by simp[bsS,iP]) (by simp[bsS,iP]),hJ _ _ ⟨i,m,rfl,hc.dn hs (by omega) (by omega) hy hx,rfl⟩⟩
  ·have e:j=i:=by omega
   subst e;have hlow:=hc.is;by_cases hb:j<l.length
   ·obtain⟨y,hy⟩:∃y,l[j]?=some y:=⟨l[j],ZxL hb⟩;simp[-getElem?_pos,bsS,hb,hy,iP];by_cases hx:y=x
    ·have hmem:x∈l:=ZxV.2 ⟨j,by rw[hy,hx]⟩;simp[-getElem?_pos,hx,←hR,hlow,hmem]
    ·have hmem:x∉l:=fun hm=>by
      obtain⟨k,hk⟩:=ZxV.1 hm;rcases Nat.lt_trichotomy k j with q|q|q
      ·have:=hc.lo k x q hk;omega
      ·subst q;rw[hy]at hk;cases hk;exact hx rfl
      ·have hkl:=(ZxN.1 hk).1
       have:=ZyE.1 hs j k hb hkl q
       rw[(ZxN.1 hy).2,(ZxN.1 hk).2]at this;have h2:=hc.hi j y (ZxR _) hy;omega
     simp[-getElem?_pos,hx];refine cG [.int .i64 y] (Zpl y) ?_;simp[-getElem?_pos,←hR,hlow,hmem]
   ·have hmem:x∉l:=fun hm=>by
     obtain⟨k,hk⟩:=ZxV.1 hm;have hkl:=(ZxN.1 hk).1
     have:=hc.lo k x (by omega) hk
     omega
    simp[-getElem?_pos,bsS,hb,←hR,hlow,hmem]
structure Lt where
 num:Int
 pieces:Int
 limit:Int
 passed:Bool
 deriving DecidableEq
def Lt.pv (x:Lt):PV:=.agg [.int .i64 x.num,.int .i64 x.pieces,.int .i64 x.limit,.bool x.passed]
theorem Zoj (x:Lt)(n:Int)(h:IntKind.i64.wrap (x.num-n)=x.num-n):Gives Tryz.prog 241 [x.pv,.int .i64 n] (.int .i64 (x.num-n)):=by
 refine cS L241 ?_;simp[-getElem?_pos,L241,Lt.pv,h]
def bfS (l:List Lt)(x:Int)(i j:Nat):AS:=⟨[(0,.pv (.lst false 4 (l.map Lt.pv))),(1,.pv (.int .i64 x)),(2,.pv (.fn 241 [] [])),(8,.pv (.int .i64 l.length)),(9,.pv (.int .i64 i)),(10,.pv (.int .i64 j))],[]⟩
theorem Zmg (l:List Lt)(x:Int)(hs:(l.map Lt.num).Pairwise (·<·))(hl:l.length≤1000000)(hw:∀y∈l,IntKind.i64.wrap (y.num-x)=y.num-x):
  Gives Tryz.prog 240 [.lst false 4 (l.map Lt.pv),.int .i64 x,.fn 241 [] []] (.tup [.int .i64 (lowB (l.map Lt.num) x),.bool (decide (x∈l.map Lt.num))]):=by
 refine cSR L240 ?_;intro R hR;simp[-getElem?_pos,L240];have hmap:∀(k:Nat) (y:Int),(l.map Lt.num)[k]?=some y→∃z,l[k]?=some z∧z.num=y:=fun k y h=>by
  rw[ZxM]at h;obtain⟨z,h1,h2⟩:=ZxP.1 h;exact⟨z,h1,h2⟩
 have hmap':∀(k:Nat) (z:Lt),l[k]?=some z→(l.map Lt.num)[k]?=some z.num:=fun k z h=>by rw[ZxM,h];rfl
 have hll:(l.map Lt.num).length=l.length:=ZxS _;refine Zaf (fun n τ=>∃i j,n=j-i∧Cut (l.map Lt.num) x i j∧τ=bfS l x i j) ?_ ?_
 ·refine⟨_,bfS l x 0 l.length,Sub.mk (by simp[bfS]) (by simp[bfS]),0,l.length,rfl,⟨by omega,by omega,fun k y hk=>by omega,fun k y hk hy=>?_⟩,rfl⟩
  have:=(ZxN.1 hy).1
  omega
 ·rintro J hJ n τ ⟨i,j,rfl,hc,rfl⟩;have hij:=hc.ij;have hjl:=hc.jl;rw[hll]at hjl;by_cases h:i<j
  ·have hw0:=mid_w (i:=i) (j:=j) (by omega) hij;obtain⟨m,hm,hF⟩:=mid_f i j;have hU:IntKind.u64.wrap ((i:Int)+j)=(i:Int)+j:=by rw[IntKind.wrap_u64];omega
   have hW:IntKind.i64.wrap (m:Int)=m:=wrap64 ⟨by omega,by omega⟩;have hW1:IntKind.i64.wrap ((m:Int)+1)=(m:Int)+1:=wrap64 ⟨by omega,by omega⟩;obtain⟨y,hy⟩:∃y,l[m]?=some y:=⟨l[m],ZxL (by omega)⟩;have hf:=Zoj y x (hw y (ZxQ hy));unfold Lt.pv at hf;simp[-getElem?_pos,bfS,h,hw0,hU,hF,hW,hy,Lt.pv];refine cG [.agg [.int .i64 y.num,.int .i64 y.pieces,.int .i64 y.limit,.bool y.passed],.int .i64 x] hf ?_;by_cases hx:y.num<x
   ·have hx':y.num-x<0:=by omega
    simp[-getElem?_pos,hx',hW1];refine⟨j-(m+1),bfS l x (m+1) j,by omega,Sub.mk (by simp[bfS,Lt.pv]) (by simp[bfS]),hJ _ _ ⟨m+1,j,rfl,hc.up hs (by omega) (hmap' m y hy) hx,rfl⟩⟩
   ·have hx':¬y.num-x<0:=by omega
    simp[-getElem?_pos,hx'];refine⟨m-i,bfS l x i m,by omega,Sub.mk (by simp[bfS,Lt.pv]) (by simp[bfS]),hJ _ _ ⟨i,m,rfl,hc.dn hs (by omega) (by omega) (hmap' m y hy) hx,rfl⟩⟩
  ·have e:j=i:=by omega
   subst e;have hlow:=hc.is;by_cases hb:j<l.length
   ·obtain⟨y,hy⟩:∃y,l[j]?=some y:=⟨l[j],ZxL hb⟩;have hf:=Zoj y x (hw y (ZxQ hy));unfold Lt.pv at hf;simp[-getElem?_pos,bfS,hb,hy,Lt.pv];refine cG [.agg [.int .i64 y.num,.int .i64 y.pieces,.int .i64 y.limit,.bool y.passed],.int .i64 x] hf ?_;by_cases hx:y.num=x
    ·have hmem:x∈l.map Lt.num:=ZxV.2 ⟨j,by rw[hmap' j y hy,hx]⟩;have hx':y.num-x=0:=by omega
     simp[-getElem?_pos,-List.mem_map,hx',←hR,hlow,hmem]
    ·have hmem:x∉l.map Lt.num:=fun hm=>by
      obtain⟨k,hk⟩:=ZxV.1 hm;rcases Nat.lt_trichotomy k j with q|q|q
      ·have:=hc.lo k x q hk;omega
      ·subst q;rw[hmap' _ y hy]at hk;cases hk;exact hx rfl
      ·have hkl:=(ZxN.1 hk).1;have hjl2:=(ZxN.1 (hmap' j y hy)).1
       have:=ZyE.1 hs j k hjl2 hkl q
       rw[(ZxN.1 (hmap' j y hy)).2,(ZxN.1 hk).2]at this;have h2:=hc.hi j _ (ZxR _) (hmap' j y hy);omega
     have hx':¬y.num-x=0:=by omega
     simp[-getElem?_pos,-List.mem_map,hx',←hR,hlow,hmem]
   ·have hmem:x∉l.map Lt.num:=fun hm=>by
     obtain⟨k,hk⟩:=ZxV.1 hm;have hkl:=(ZxN.1 hk).1
     have:=hc.lo k x (by omega) hk
     omega
    simp[-getElem?_pos,-List.mem_map,bfS,hb,←hR,hlow,hmem]
end
end
end Go.Proofs.YtfpmaennjlggeaaGreatDoor
namespace Go.Proofs
open Go.RowKit
section
open Go.Shelf
def Tryz.Zwv:Go.Shelf.Ren:=⟨fun|189=>84|125=>135|257=>134|128=>176|129=>177|294=>167|295=>168|296=>169|297=>170|298=>171|299=>172|216=>173|300=>174|301=>175|328=>196|329=>197|330=>198|331=>199|332=>200|215=>195|343=>227|n=>n,fun|28=>26|3=>3|46=>192|0=>0|51=>233|53=>236|4=>4|183=>254|182=>253|131=>101|5=>5|9=>9|218=>269|222=>273|228=>293|229=>294|n=>n,fun|n=>n⟩
theorem Tryz.ZwQ:Go.Proofs.Lays.n189 Tryz.prog Tryz.Zwv:={
 mixed:=by kernel_rfl
 f125:=Tryz.func135.trans (congrArg some (by kernel_rfl))
 f128:=Tryz.func176.trans (congrArg some (by kernel_rfl))
 f129:=Tryz.func177.trans (congrArg some (by kernel_rfl))
 f189:=Tryz.func84.trans (congrArg some (by kernel_rfl))
 f215:=Tryz.func195.trans (congrArg some (by kernel_rfl))
 f216:=Tryz.func173.trans (congrArg some (by kernel_rfl))
 f257:=Tryz.func134.trans (congrArg some (by kernel_rfl))
 f294:=Tryz.func167.trans (congrArg some (by kernel_rfl))
 f295:=Tryz.func168.trans (congrArg some (by kernel_rfl))
 f296:=Tryz.func169.trans (congrArg some (by kernel_rfl))
 f297:=Tryz.func170.trans (congrArg some (by kernel_rfl))
 f298:=Tryz.func171.trans (congrArg some (by kernel_rfl))
 f299:=Tryz.func172.trans (congrArg some (by kernel_rfl))
 f300:=Tryz.func174.trans (congrArg some (by kernel_rfl))
 f301:=Tryz.func175.trans (congrArg some (by kernel_rfl))
 f328:=Tryz.func196.trans (congrArg some (by kernel_rfl))
 f329:=Tryz.func197.trans (congrArg some (by kernel_rfl))
 f330:=Tryz.func198.trans (congrArg some (by kernel_rfl))
 f331:=Tryz.func199.trans (congrArg some (by kernel_rfl))
 f332:=Tryz.func200.trans (congrArg some (by kernel_rfl))
 f343:=Tryz.func227.trans (congrArg some (by kernel_rfl))
 t0:=Tryz.underlying0
 a0:=Tryz.isAgg0
 z0:=Tryz.sizeOf0
 v0:=Tryz.zeroValue0
 t3:=Tryz.underlying3
 a3:=Tryz.isAgg3
 z3:=Tryz.sizeOf3
 v3:=Tryz.zeroValue3
 t4:=Tryz.underlying4
 a4:=Tryz.isAgg4
 z4:=Tryz.sizeOf4
 v4:=Tryz.zeroValue4
 t5:=Tryz.underlying5
 a5:=Tryz.isAgg5
 z5:=Tryz.sizeOf5
 v5:=Tryz.zeroValue5
 t9:=Tryz.underlying9
 a9:=Tryz.isAgg9
 z9:=Tryz.sizeOf9
 v9:=Tryz.zeroValue9
 t28:=Tryz.underlying26
 a28:=Tryz.isAgg26
 z28:=Tryz.sizeOf26
 v28:=Tryz.zeroValue26
 t46:=Tryz.underlying192
 a46:=Tryz.isAgg192
 z46:=Tryz.sizeOf192
 v46:=Tryz.zeroValue192
 t51:=Tryz.underlying233
 a51:=Tryz.isAgg233
 z51:=Tryz.sizeOf233
 v51:=Tryz.zeroValue233
 t53:=Tryz.underlying236
 a53:=Tryz.isAgg236
 z53:=Tryz.sizeOf236
 v53:=Tryz.zeroValue236
 t131:=Tryz.underlying101
 a131:=Tryz.isAgg101
 z131:=Tryz.sizeOf101
 v131:=Tryz.zeroValue101
 t182:=Tryz.underlying253
 a182:=Tryz.isAgg253
 z182:=Tryz.sizeOf253
 v182:=Tryz.zeroValue253
 t183:=Tryz.underlying254
 a183:=Tryz.isAgg254
 z183:=Tryz.sizeOf254
 v183:=Tryz.zeroValue254
 t218:=Tryz.underlying269
 a218:=Tryz.isAgg269
 z218:=Tryz.sizeOf269
 v218:=Tryz.zeroValue269
 t222:=Tryz.underlying273
 a222:=Tryz.isAgg273
 z222:=Tryz.sizeOf273
 v222:=Tryz.zeroValue273
 t228:=Tryz.underlying293
 a228:=Tryz.isAgg293
 z228:=Tryz.sizeOf293
 v228:=Tryz.zeroValue293
 t229:=Tryz.underlying294
 a229:=Tryz.isAgg294
 z229:=Tryz.sizeOf294
 v229:=Tryz.zeroValue294 }
open Go.Sort Go.RowKit in
theorem Tryz.slices_Sort_int (blk off cap:Nat)(zs:List Int)(w:World)(hH:Holds (Value.int .i64) w blk off zs.toArray)(hblk:blk<w.heap.size)(hsz:zs.length<4611686018427387904):
  Calls Tryz.prog 84 #[.slice (some ⟨blk,off,none⟩) zs.length cap] w fun e w'=>
   e=.returned (.tuple #[])∧∃n os,w'=grow (putRow (Value.int .i64) (Sort.ahead w n) blk off (zs.mergeSort fun x y=>decide (x≤y)).toArray) os:=Any.slices_Sort_int Tryz.ZwQ blk off cap zs w hH hblk hsz
end
end Go.Proofs
namespace Go.Proofs.YtfpmaennjlggeaaGreatDoor
open Go.RowKit
section
open Go.RowKit Go.Sort
attribute [local simp] Box.Zu0 Site.Zu1
def intP (n:Int):PV:=.int .i64 n
def insI (x:Int):List Int→List Int
 |[]=>[x]
 |y::r=>if x≤y then x::y::r else y::insI x r
def sortI:List Int→List Int
 |[]=>[]
 |x::r=>insI x (sortI r)
theorem ZfN (x:Int):∀l:List Int,(insI x l).Perm (x::l)
 |[]=>.refl _
 |y::r=>by
  unfold insI;split
  ·exact .refl _
  ·exact((ZfN x r).cons y).trans (.swap x y r)
theorem Zcp:∀l:List Int,(sortI l).Perm l
 |[]=>.refl _
 |x::r=>(ZfN x _).trans ((Zcp r).cons x)
theorem ZfM (x:Int):∀l:List Int,l.Pairwise (·≤·)→(insI x l).Pairwise (·≤·)
 |[],_=>by simp[insI]
 |y::r,h=>by
  unfold insI;split
  ·rename_i hxy;refine List.pairwise_cons.2 ⟨fun z hz=>?_,h⟩;rcases Zx2.1 hz with rfl|hz
   ·exact hxy
   ·exact Int.le_trans hxy ((List.pairwise_cons.1 h).1 z hz)
  ·rename_i hxy;refine List.pairwise_cons.2 ⟨fun z hz=>?_,ZfM x r (List.pairwise_cons.1 h).2⟩;rcases Zx2.1 ((ZfN x r).mem_iff.1 hz)with rfl|hz
   ·omega
   ·exact(List.pairwise_cons.1 h).1 z hz
theorem ZcN:∀l:List Int,(sortI l).Pairwise (·≤·)
 |[]=>.nil
 |x::r=>ZfM x _ (ZcN r)
theorem Zh1:∀{a b:List Int},a.Perm b→a.Pairwise (·≤·)→b.Pairwise (·≤·)→a=b
 |[],b,h,_,_=>by simpa using h.symm
 |x::a,[],h,_,_=>by simp at h
 |x::a,y::b,h,ha,hb=>by
  have e:x=y:=by
   have h1:x∈y::b:=h.mem_iff.1 (by simp);have h2:y∈x::a:=h.mem_iff.2 (by simp);rcases Zx2.1 h1 with rfl|h1
   ·rfl
   rcases Zx2.1 h2 with rfl|h2
   ·rfl
   have k1:=(List.pairwise_cons.1 ha).1 y h2;have k2:=(List.pairwise_cons.1 hb).1 x h1;omega
  subst e;rw[Zh1 h.cons_inv (List.pairwise_cons.1 ha).2 (List.pairwise_cons.1 hb).2]
theorem ZcO (l:List Int):(sortI l).length=l.length:=(Zcp l).length_eq
theorem Zjt (l:List Int):(l.mergeSort fun x y=>decide (x≤y))=sortI l:=by
 refine Zh1 ((List.mergeSort_perm l _).trans (Zcp l).symm) ?_ (ZcN l)
 have:=List.pairwise_mergeSort (le:=fun x y:Int=>decide (x≤y)) (fun a b c h1 h2=>by simp at *;omega) (fun a b=>by simp;omega) l
 exact this.imp (fun h=>by simpa using h)
theorem Zqj {w:World}{g o:Nat}{cur:Array Value}{e:TypeId}{ss:List Int}(hb:w.heap[g]?=some (.cells cur e (0,0)))(ht:∀(i:Nat) (x:Int),ss[i]?=some x→cur[o+i]?=some (.int .i64 x)):Holds (Value.int .i64) w g o ss.toArray:=by
 intro j hj;have hj':j<ss.length:=by simpa using hj
 refine⟨?_,by simp[World.frozen?,hb]⟩;have h1:=ht j _ (ZxL hj');simp only[World.cell?,hb];simp only[Option.isSome_none,Bool.false_eq_true,if_false];rw[h1];simp[hj']
theorem Zgd {w:World}{g n o:Nat}{os:Array Obj}{cur:Array Value}{e:TypeId}{fr:Nat×Nat}(d:Array Int)(hb:w.heap[g]?=some (.cells cur e fr)):
  (grow (putRow (Value.int .i64) (Sort.ahead w n) g o d) os).heap[g]?=some (.cells (putCells (Value.int .i64) o d cur) e fr):=by
 have hg:g<w.heap.size:=(Zx8.1 hb).1;rw[heap_grow_old _ _ (by simpa using hg)];simp[putRow,mapBlock,Sort.ahead,Array.getElem?_modify,hb,onCells]
theorem ZgE {w:World}{g n o k:Nat}{os:Array Obj}(d:Array Int)(hk:k<w.heap.size)(hne:k≠g):
  (grow (putRow (Value.int .i64) (Sort.ahead w n) g o d) os).heap[k]?=w.heap[k]?:=by
 rw[heap_grow_old _ _ (by simpa using hk)]
 have:g≠k:=fun e=>hne (by rw[e])
 simp[putRow,mapBlock,Sort.ahead,Array.getElem?_modify,this]
theorem Zt4 (e:TypeId)(l:List Int)(h0:l≠[])(hl:l.length≤1000000):Zai Tryz.prog 84 [.vec (.par 0) 1 0 l.length] [(.par 0,.arr e 1 (l.map intP))] (fun r B=>r=.pv (.tup [])∧B=[(.par 0,.arr e 1 ((sortI l).map intP))]):=by
 refine⟨⟨_,_,Tryz.func84,by decide +kernel,rfl⟩,fun w m ρ vs hB ⟨hm,_⟩ hsz hrd=>?_⟩;obtain⟨v,rfl⟩:∃v,vs=#[v]:=by
  match vs,hsz with
  |⟨[v]⟩,_=>exact⟨v,rfl⟩
 have hv:=hrd 0 v _ rfl rfl;have hbx:=hB.bx (.par 0) _ Zag;obtain⟨_,⟨_,hx,_⟩|⟨hr,cs,k1,k2,k3,k4,k5⟩⟩:=hbx
 ·exact absurd (List.map_eq_nil_iff.1 hx) h0
 have hlen:0<l.length:=List.length_pos_iff.2 h0;have hcell:∀(i:Nat) (x:Int),l[i]?=some x→cs[(ρ (.par 0)).o+i]?=some (.int .i64 x):=fun i x hi=>by
  obtain⟨_,h2⟩:=k5 i (intP x) (by rw[ZxM,hi];rfl);obtain⟨d,d1,d2,d3⟩:=h2 0 (intP x) rfl;rw[Nat.mul_one,Nat.add_zero]at d1;rw[d1];cases d3;rfl
 have hlt:=(Zx8.1 k1).1;have main:∀cap,Calls Tryz.prog 84 #[.slice (some ⟨(ρ (.par 0)).b,(ρ (.par 0)).o,none⟩) l.length cap] w (CPost w m ρ [(.par 0,.arr e 1 (l.map intP))] (fun r B=>r=.pv (.tup [])∧B=[(.par 0,.arr e 1 ((sortI l).map intP))])):=fun cap=>by
  have hent:lentB ρ w [(Site.par 0,Box.arr e 1 (l.map intP))]=[(ρ (.par 0)).b]:=by simp[lentB,hr,ins]
  refine(Tryz.slices_Sort_int (ρ (.par 0)).b (ρ (.par 0)).o cap l w (Zqj k1 hcell) hlt (by omega)).mono ?_;rintro en w' ⟨rfl,n,os,rfl⟩;rw[Zjt];have hmb:∀b o v,m b o=some v→b≠(ρ (.par 0)).b:=fun b o v hv e'=>by
   subst e'
   have:=hB.off (.par 0) _ Zag hr o
   rw[this]at hv;cases hv
  refine⟨.tuple #[],.pv (.tup []),[(.par 0,.arr e 1 ((sortI l).map intP))],ρ,m,rfl,⟨rfl,rfl⟩,⟨fun s b hs=>?_,fun s s' b b' _ hs hs' _ _=>?_,fun s b i hs hrs o=>?_⟩,Le.refl m,fun b o v hv=>?_,fun i=>rfl,fun s b i hs hrs=>?_,fun b o v hv=>.inl hv,?_,⟨rfl,rfl,rfl,?_,fun k hk hkn=>?_⟩⟩
  ·by_cases es:s=.par 0
   ·subst es;rw[Zag]at hs;cases hs;refine⟨by omega,.inr ⟨hr,_,Zgd _ k1,by rw[show(putCells (Value.int .i64) (ρ (.par 0)).o (sortI l).toArray cs).size=cs.size by simp[putCells]];exact k2,by rw[ZxS,ZcO,←ZxS (f:=intP)];exact k3,k4,fun i x hx=>?_⟩⟩;rw[ZxM]at hx;obtain⟨z,hz,rfl⟩:=ZxP.1 hx;refine⟨rfl,fun j c hj=>?_⟩;cases j with
    |succ j=>simp[intP,PV.cells]at hj
    |zero=>
     simp[intP,PV.cells]at hj;subst hj;have hi:i<l.length:=by have:=(ZxN.1 hz).1;rw[ZcO]at this;exact this
     have hcs:(ρ (.par 0)).o+i<cs.size:=(Zx8.1 (hcell i _ (ZxL hi))).1;refine⟨.int .i64 z,?_,rfl,.int .i64 z⟩;rw[Nat.mul_one,Nat.add_zero];have hz':(sortI l)[i]! = z:=by rw[List.getElem!_eq_getElem?_getD,hz];rfl
     have hi2:i<(sortI l).length:=by rw[ZcO];exact hi
     have hz2:(sortI l)[i]=z:=by rw[ZxL hi2]at hz;simpa using hz
     simp[putCells,hcs,ZcO,hi,hz2]
   ·rw[Zad es]at hs;simp[List.lookup]at hs
  ·have q:∀{s:Site} {b:Box},List.lookup s [(Site.par 0,Box.arr e 1 ((sortI l).map intP))]=some b→s=.par 0:=fun{s b} h=>by
    by_cases es:s=.par 0
    ·exact es
    ·rw[Zad es]at h;simp[List.lookup]at h
   rw[q hs,q hs']
  ·by_cases es:s=.par 0
   ·subst es;rw[Zag]at hs;cases hs;obtain⟨q1,rfl⟩:=Za5 rfl hrs;exact hB.off (.par 0) _ Zag q1 o
   ·rw[Zad es]at hs;simp[List.lookup]at hs
  ·have h1:=hm b o v hv;have hne:=hmb b o v hv;show World.cell? _ _=some v;have h2:w.cell? ⟨b,o,none⟩=some v:=h1;have hb:b<w.heap.size:=by
    unfold World.cell? at h2;simp only at h2;cases hh:w.heap[b]? with
    |none=>rw[hh]at h2;simp at h2
    |some ob=>exact(Zx8.1 hh).1
   rw[←h2];unfold World.cell?;rw[ZgE _ hb hne]
  ·by_cases es:s=.par 0
   ·subst es;rw[Zag]at hs;cases hs;obtain⟨q1,rfl⟩:=Za5 rfl hrs
    right;rw[hent];simp
   ·rw[Zad es]at hs;simp[List.lookup]at hs
  ·exact .pv _ _ (.tup #[] [] rfl (fun j d c h=>by simp at h))
  ·simp[putRow,mapBlock,Sort.ahead]
  ·rw[hent]at hkn;exact ZgE _ hk (by simpa using hkn)
 generalize hn:l.length=N at hv main;cases hv with
 |vec _ _ _ _ cap g0 g1 g2=>
  have:=main cap
  simpa using this
 |vec0 _ _ _ a h=>omega
end
section
structure Cr where
 lo:Int
 hi:Int
 deriving DecidableEq
structure It where
 drift:Int
 std:Bool
 val:Cr
structure Ct where
 num:Int
 it:Int
 src:Int
 day:Int
 valid:Int
 diff:Cr
 deriving DecidableEq
structure Bk where
 items:List It
 certs:List Ct
def inB (n lo hi:Int):Bool:=decide (lo≤n)&&decide (n≤hi)
def valB (n:Int):Bool:=inB n (-100000) 100000
def Cr.okB (r:Cr):Bool:=valB r.lo&&valB r.hi&&decide (r.lo≤r.hi)
def It.okB (x:It):Bool:=inB x.drift 0 100&&x.val.okB&&(x.std||decide (x.val=⟨0,0⟩))
def Bk.item (b:Bk)(i:Int):It:=(b.items[i.toNat]?).getD ⟨0,false,⟨0,0⟩⟩
def Bk.Zvb (b:Bk)(i:Int):Bool:=inB i 0 ((b.items.length:Int)-1)
def Bk.Zvv (b:Bk)(c:Ct):Bool:=inB c.num 1 999&&b.Zvb c.it&&!(b.item c.it).std&&b.Zvb c.src&&decide (c.src≠c.it)&&inB c.day 0 1000&&inB c.valid 0 1000&&c.diff.okB
def Bk.big (b:Bk):Bool:=decide (8<b.items.length)||decide (24<b.certs.length)
def Bk.bad (b:Bk):Bool:=!(b.items.all It.okB)||!(b.certs.all b.Zvv)
def Bk.ZvI (b:Bk):Bool:=b.certs.any fun x=>b.certs.any fun y=>(decide (x.num=y.num)&&decide (x≠y))||(decide (y.num<x.num)&&decide (x.day<y.day))
def Bk.fault (b:Bk):Int:=if b.big=true then 3 else if b.bad=true then 1 else if b.ZvI=true then 6 else 0
structure Bk.ok (b:Bk):Prop where
 i:b.items.length≤8
 c:b.certs.length≤24
 it:∀x∈b.items,x.okB=true
 ct:∀x∈b.certs,b.Zvv x=true
 one:∀x∈b.certs,∀y∈b.certs,x.num=y.num→x=y
 day:∀x∈b.certs,∀y∈b.certs,y.num<x.num→y.day≤x.day
theorem Bk.Zvx {b:Bk}:b.fault=0↔b.ok:=by
 unfold Bk.fault Bk.big Bk.bad Bk.ZvI;constructor
 ·intro h;split at h
  ·cases h
  ·rename_i h1;split at h
   ·cases h
   ·rename_i h2;split at h
    ·cases h
    ·rename_i h3;simp only[Zyk,decide_eq_true_eq,not_or,Nat.not_lt]at h1;simp only[Bool.not_eq_true,Bool.or_eq_false_iff,Bool.not_eq_false',Zx7]at h2;simp only[Bool.not_eq_true,List.any_eq_false,Zyk,ZxO,decide_eq_true_eq,not_or,not_and,Decidable.not_not,Int.not_lt]at h3;exact⟨h1.1,h1.2,h2.1,h2.2,fun x hx y hy e=>(h3 x hx y hy).1 e,fun x hx y hy e=>(h3 x hx y hy).2 e⟩
 ·intro h;rw[if_neg (by simp only[Zyk,decide_eq_true_eq,not_or,Nat.not_lt];exact⟨h.i,h.c⟩),if_neg (by
   simp only[Bool.not_eq_true,Bool.or_eq_false_iff,Bool.not_eq_false',Zx7];exact⟨h.it,h.ct⟩),if_neg (by
   simp only[Bool.not_eq_true,List.any_eq_false,Zyk,ZxO,decide_eq_true_eq,not_or,not_and,Decidable.not_not,Int.not_lt];exact fun x hx y hy=>⟨h.one x hx y hy,h.day x hx y hy⟩)]
def Ct.on (c:Ct)(d:Int):Bool:=inB d c.day (c.day+c.valid)
def Zca (c o:Ct):Bool:=decide (o.it=c.src)&&decide (o.num<c.num)&&o.on c.day
def Bk.ZvY (b:Bk)(bad held:List Int)(c:Ct):Bool:=((b.item c.src).std||b.certs.any fun o=>Zca c o&&held.contains o.num)&&!bad.contains c.num
def Bk.Zvi (b:Bk)(bad:List Int):Nat→List Int
 |0=>[]
 |k+1=>b.Zvi bad k++(if(b.certs.any fun c=>decide (c.num=(k:Int))&&b.ZvY bad (b.Zvi bad k) c)=true then[(k:Int)]else[])
theorem Zex {b:Bk}{bad:List Int}{k:Nat}:b.Zvi bad (k+1)=b.Zvi bad k++(if(b.certs.any fun c=>decide (c.num=(k:Int))&&b.ZvY bad (b.Zvi bad k) c)=true then[(k:Int)]else[]):=rfl
def Bk.held (b:Bk)(bad:List Int):List Int:=b.Zvi bad 1000
theorem Zcy {b:Bk}{bad:List Int}{x:Int}:∀k,x∈b.Zvi bad k↔∃n:Nat,x=n∧n<k∧(b.certs.any fun c=>decide (c.num=(n:Int))&&b.ZvY bad (b.Zvi bad n) c)=true
 |0=>⟨fun h=>(by cases h),fun⟨n,_,h,_⟩=>(by omega)⟩
 |k+1=>by
  rw[Zex,Zyp,Zcy k];constructor
  ·rintro(⟨n,e,h1,h2⟩|h)
   ·exact⟨n,e,by omega,h2⟩
   ·split at h
    ·rename_i hc;simp at h;exact⟨k,h,by omega,hc⟩
    ·cases h
  ·rintro⟨n,e,h1,h2⟩;by_cases hn:n=k
   ·subst hn;right;rw[if_pos h2,e];simp
   ·exact .inl ⟨n,e,by omega,h2⟩
theorem Zoa {b:Bk}{bad:List Int}{x:Int}{j k:Nat}(h:j≤k)(hx:x∈b.Zvi bad j):x∈b.Zvi bad k:=by
 obtain⟨n,rfl,h1,h2⟩:=(Zcy j).1 hx;exact(Zcy k).2 ⟨n,rfl,by omega,h2⟩
theorem ZgD {b:Bk}{bad:List Int}{c:Ct}{n k:Nat}(hc:c.num=(n:Int))(hk:n≤k):b.ZvY bad (b.Zvi bad k) c=b.ZvY bad (b.Zvi bad n) c:=by
 unfold Bk.ZvY;congr 2;rw[Zyr,Zya,Zya];constructor
 ·rintro⟨o,ho,h⟩;refine⟨o,ho,?_⟩;simp only[ZxO,Zx4]at h ⊢;refine⟨h.1,?_⟩;obtain⟨m,e,h1,h2⟩:=(Zcy k).1 h.2;have h3:o.num<c.num:=by have:=h.1;unfold Zca at this;simp only[ZxO,decide_eq_true_eq]at this;exact this.1.2
  exact(Zcy n).2 ⟨m,e,by omega,h2⟩
 ·rintro⟨o,ho,h⟩;refine⟨o,ho,?_⟩;simp only[ZxO,Zx4]at h ⊢;exact⟨h.1,Zoa hk h.2⟩
theorem Zcc {b:Bk}(hb:b.ok){bad:List Int}{x:Int}:x∈b.held bad↔∃c∈b.certs,c.num=x∧b.ZvY bad (b.held bad) c=true:=by
 unfold Bk.held;rw[Zcy];have hn:∀c∈b.certs,1≤c.num∧c.num≤999:=fun c hc=>by
  have:=hb.ct c hc
  unfold Bk.Zvv inB at this;simp only[ZxO,decide_eq_true_eq]at this;omega
 constructor
 ·rintro⟨n,rfl,h1,h2⟩;rw[Zya]at h2;obtain⟨c,hc,h3⟩:=h2;simp only[ZxO,decide_eq_true_eq]at h3;exact⟨c,hc,h3.1,by rw[ZgD h3.1 (by omega)];exact h3.2⟩
 ·rintro⟨c,hc,rfl,h⟩;have h1:=hn c hc;obtain⟨n,hn'⟩:∃n:Nat,c.num=n:=⟨c.num.toNat,by omega⟩;refine⟨n,hn',by omega,?_⟩;rw[Zya];refine⟨c,hc,?_⟩;simp only[ZxO,decide_eq_true_eq];exact⟨hn',by rw[←ZgD (k:=1000) hn' (by omega)];exact h⟩
theorem ZeL {b:Bk}{bad:List Int}:∀k,(b.Zvi bad k).Pairwise (·<·)∧∀x∈b.Zvi bad k,x<(k:Int)
 |0=>⟨List.Pairwise.nil,fun x hx=>by cases hx⟩
 |k+1=>by
  obtain⟨h1,h2⟩:=ZeL (b:=b) (bad:=bad) k;rw[Zex];refine⟨?_,fun x hx=>?_⟩
  ·rw[List.pairwise_append];refine⟨h1,by split<;>simp,fun x hx y hy=>?_⟩
   have:=h2 x hx
   split at hy
   ·simp at hy;omega
   ·cases hy
  ·rcases Zyp.1 hx with hx|hx
   ·have:=h2 x hx;omega
   ·split at hx
    ·simp at hx;omega
    ·cases hx
def Bk.nums (b:Bk):List Int:=((List.range 1000).filter fun n:Nat=>b.certs.any fun c=>decide (c.num=(n:Int))).map Int.ofNat
theorem Zbc {b:Bk}(hb:b.ok){x:Int}:x∈b.nums↔∃c∈b.certs,c.num=x:=by
 unfold Bk.nums;rw[ZxY];constructor
 ·rintro⟨n,h,rfl⟩;rw[ZxX,Zya]at h;obtain⟨_,c,hc,e⟩:=h;exact⟨c,hc,by simpa using e⟩
 ·rintro⟨c,hc,rfl⟩
  have:=hb.ct c hc
  unfold Bk.Zvv inB at this;simp only[ZxO,decide_eq_true_eq]at this;refine⟨c.num.toNat,?_,by show((c.num.toNat:Nat):Int)=_;omega⟩;rw[ZxX,List.mem_range,Zya];exact⟨by omega,c,hc,by simp;omega⟩
theorem Zbd {b:Bk}:b.nums.Pairwise (·<·):=by
 unfold Bk.nums;rw[List.pairwise_map];exact(List.pairwise_lt_range.filter _).imp fun h=>by simpa using h
theorem ZjE:∀{a b:List Int},a.Pairwise (·<·)→b.Pairwise (·<·)→(∀x,x∈a↔x∈b)→a=b
 |[],[],_,_,_=>rfl
 |[],y::b,_,_,h=>absurd ((h y).2 (by simp)) (by simp)
 |x::a,[],_,_,h=>absurd ((h x).1 (by simp)) (by simp)
 |x::a,y::b,ha,hb,h=>by
  rw[List.pairwise_cons]at ha hb;have exy:x=y:=by
   rcases Zx2.1 ((h x).1 (by simp))with e|e
   ·exact e
   ·rcases Zx2.1 ((h y).2 (by simp))with e'|e'
    ·exact e'.symm
    ·have h1:=hb.1 x e;have h2:=ha.1 y e';omega
  subst exy;rw[ZjE ha.2 hb.2 fun z=>?_];constructor
  ·intro hz;rcases Zx2.1 ((h z).1 (by simp[hz]))with e|e
   ·have:=ha.1 z hz;omega
   ·exact e
  ·intro hz;rcases Zx2.1 ((h z).2 (by simp[hz]))with e|e
   ·have:=hb.1 z hz;omega
   ·exact e
end
section
open Go.RowKit Go.ChangeShapes Go.WideShapes Go.Deep
set_option maxRecDepth 100000
def Cr.pv (r:Cr):PV:=.agg [.int .i64 r.lo,.int .i64 r.hi]
def It.pv (x:It):PV:=.agg [.int .i64 x.drift,.bool x.std,.int .i64 x.val.lo,.int .i64 x.val.hi]
def Ct.pv (c:Ct):PV:=.agg [.int .i64 c.num,.int .i64 c.it,.int .i64 c.src,.int .i64 c.day,.int .i64 c.valid,.int .i64 c.diff.lo,.int .i64 c.diff.hi]
def itsP (l:List It):PV:=.lst false 4 (l.map It.pv)
def ctsP (l:List Ct):PV:=.lst false 7 (l.map Ct.pv)
def Bk.pv (b:Bk):PV:=.agg [itsP b.items,ctsP b.certs]
section
variable {H:Type}{enc:TypeId×Value→H}{W:World}{sp:Nat→Bool}{held:Bool}{r:Reach}{base:Nat}
end
end
section
def ct0:Ct:=⟨0,0,0,0,0,⟨0,0⟩⟩
def Bk.get (b:Bk)(n:Int):Ct:=(b.certs.find? fun c=>decide (c.num=n)).getD ct0
theorem ZcK {b:Bk}(hb:b.ok){c:Ct}(hc:c∈b.certs):b.get c.num=c:=by
 unfold Bk.get;cases hf:b.certs.find? (fun x=>decide (x.num=c.num))with
 |none=>
  rw[List.find?_eq_none]at hf
  have:=hf c hc
  simp at this
 |some x=>
  have h1:=List.mem_of_find?_eq_some hf;have h2:=List.find?_some hf;simp only[decide_eq_true_eq]at h2;exact hb.one x h1 c hc h2
theorem Zbf {b:Bk}(hb:b.ok){n:Int}(hn:n∈b.nums):b.get n∈b.certs∧(b.get n).num=n:=by
 obtain⟨c,hc,rfl⟩:=(Zbc hb).1 hn;rw[ZcK hb hc];exact⟨hc,rfl⟩
def Bk.ofB (item day below:Int)(c:Ct):Bool:=decide (c.num<below)&&(decide (c.it=item)&&c.on day)
def Bk.ofL (b:Bk)(item day below:Int):List Ct:=(b.nums.map b.get).filter (Bk.ofB item day below)
theorem ZbG {b:Bk}(hb:b.ok){item day below:Int}{c:Ct}:c∈b.ofL item day below↔c∈b.certs∧Bk.ofB item day below c=true:=by
 unfold Bk.ofL;rw[ZxX,ZxY];constructor
 ·rintro⟨⟨n,hn,rfl⟩,h⟩;exact⟨(Zbf hb hn).1,h⟩
 ·rintro⟨h1,h2⟩;exact⟨⟨c.num,(Zbc hb).2 ⟨c,h1,rfl⟩,ZcK hb h1⟩,h2⟩
theorem Zo7 {b:Bk}(hb:b.ok){item day below:Int}{P:Ct→Bool}:(b.ofL item day below).any P=b.certs.any fun c=>Bk.ofB item day below c&&P c:=by
 rw[Zyr,Zya,Zya];constructor
 ·rintro⟨c,hc,h⟩;obtain⟨h1,h2⟩:=(ZbG hb).1 hc;exact⟨c,h1,by rw[h2,h];rfl⟩
 ·rintro⟨c,hc,h⟩;rw[ZxO]at h;exact⟨c,(ZbG hb).2 ⟨hc,h.1⟩,h.2⟩
theorem ZeS {c o:Ct}:Zca c o=Bk.ofB c.src c.day c.num o:=by
 unfold Zca Bk.ofB;cases decide (o.it=c.src)<;>cases decide (o.num<c.num)<;>rfl
theorem Zk8 {b:Bk}(hb:b.ok){bad:List Int}{n:Int}(hn:n∈b.nums):(b.held bad).contains n=(((b.item (b.get n).src).std||(b.ofL (b.get n).src (b.get n).day n).any fun o=>(b.held bad).contains o.num)&&!bad.contains n):=by
 obtain⟨h1,h2⟩:=Zbf hb hn;rw[Zo7 hb];have e:(b.certs.any fun c=>Bk.ofB (b.get n).src (b.get n).day n c&&(b.held bad).contains c.num)=b.certs.any fun o=>Zca (b.get n) o&&(b.held bad).contains o.num:=by
  congr 1;funext o;rw[ZeS,h2]
 rw[e,Zyr,Zx4,Zcc hb];have hB:b.ZvY bad (b.held bad) (b.get n)=(((b.item (b.get n).src).std||b.certs.any fun o=>Zca (b.get n) o&&(b.held bad).contains o.num)&&!bad.contains n):=by unfold Bk.ZvY;rw[h2]
 rw[←hB];constructor
 ·rintro⟨c,hc,e1,e2⟩
  have:b.get n=c:=by rw[←e1];exact ZcK hb hc
  rw[this];exact e2
 ·intro h;exact⟨b.get n,h1,h2,h⟩
def Cr.plus (a b:Cr):Cr:=⟨a.lo+b.lo,a.hi+b.hi⟩
def Cr.wider (a:Cr)(n:Int):Cr:=a.plus ⟨-n,n⟩
def Cr.cut (a b:Cr):Cr:=⟨max a.lo b.lo,min a.hi b.hi⟩
def ZcE:Cr:=⟨-1099511627776,1099511627776⟩
theorem ZgK {α:Type}(f:α→Cr):∀(l:List α) (e:Cr),e.lo≤(l.foldl (fun r x=>r.cut (f x)) e).lo∧(∀x∈l,(f x).lo≤(l.foldl (fun r x=>r.cut (f x)) e).lo)∧((l.foldl (fun r x=>r.cut (f x)) e).lo=e.lo∨∃x∈l,(l.foldl (fun r x=>r.cut (f x)) e).lo=(f x).lo)
 |[],e=>⟨Int.le_refl _,fun x hx=>(by cases hx),.inl rfl⟩
 |y::l,e=>by
  obtain⟨h1,h2,h3⟩:=ZgK f l (e.cut (f y));rw[List.foldl_cons];have hm:(e.cut (f y)).lo=max e.lo (f y).lo:=rfl;refine⟨by omega,fun x hx=>?_,?_⟩
  ·rcases Zx2.1 hx with rfl|hx
   ·omega
   ·exact h2 x hx
  ·rcases h3 with h3|⟨x,hx,h3⟩
   ·rcases Int.le_total e.lo (f y).lo with h|h
    ·right;exact⟨y,by simp,by omega⟩
    ·left;omega
   ·right;exact⟨x,by simp[hx],h3⟩
theorem ZgL {α:Type}(f:α→Cr):∀(l:List α) (e:Cr),(l.foldl (fun r x=>r.cut (f x)) e).hi≤e.hi∧(∀x∈l,(l.foldl (fun r x=>r.cut (f x)) e).hi≤(f x).hi)∧((l.foldl (fun r x=>r.cut (f x)) e).hi=e.hi∨∃x∈l,(l.foldl (fun r x=>r.cut (f x)) e).hi=(f x).hi)
 |[],e=>⟨Int.le_refl _,fun x hx=>(by cases hx),.inl rfl⟩
 |y::l,e=>by
  obtain⟨h1,h2,h3⟩:=ZgL f l (e.cut (f y));rw[List.foldl_cons];have hm:(e.cut (f y)).hi=min e.hi (f y).hi:=rfl;refine⟨by omega,fun x hx=>?_,?_⟩
  ·rcases Zx2.1 hx with rfl|hx
   ·omega
   ·exact h2 x hx
  ·rcases h3 with h3|⟨x,hx,h3⟩
   ·rcases Int.le_total e.hi (f y).hi with h|h
    ·left;omega
    ·right;exact⟨y,by simp,by omega⟩
   ·right;exact⟨x,by simp[hx],h3⟩
theorem Cr.ext' {a b:Cr}(h1:a.lo=b.lo)(h2:a.hi=b.hi):a=b:=by
 obtain⟨a1,a2⟩:=a;obtain⟨b1,b2⟩:=b;simp only at h1 h2;subst h1 h2;rfl
theorem ZqC {α:Type}{f:α→Cr}{l l':List α}{e:Cr}(h:∀x,x∈l↔x∈l'):l.foldl (fun r x=>r.cut (f x)) e=l'.foldl (fun r x=>r.cut (f x)) e:=by
 obtain⟨a1,a2,a3⟩:=ZgK f l e;obtain⟨b1,b2,b3⟩:=ZgK f l' e;obtain⟨c1,c2,c3⟩:=ZgL f l e;obtain⟨d1,d2,d3⟩:=ZgL f l' e;refine Cr.ext' ?_ ?_
 ·rcases a3 with a3|⟨x,hx,a3⟩<;>rcases b3 with b3|⟨y,hy,b3⟩
  ·omega
  ·have:=a2 y ((h y).2 hy);omega
  ·have:=b2 x ((h x).1 hx);omega
  ·have:=a2 y ((h y).2 hy);have:=b2 x ((h x).1 hx);omega
 ·rcases c3 with c3|⟨x,hx,c3⟩<;>rcases d3 with d3|⟨y,hy,d3⟩
  ·omega
  ·have:=c2 y ((h y).2 hy);omega
  ·have:=d2 x ((h x).1 hx);omega
  ·have:=c2 y ((h y).2 hy);have:=d2 x ((h x).1 hx);omega
def Bk.Zu2 (b:Bk)(held:List Int)(S:Int→Cr)(item day below:Int):Cr:=
 if(b.item item).std=true then(b.item item).val else((b.certs.filter fun c=>Bk.ofB item day below c&&held.contains c.num).foldl (fun r c=>r.cut ((S c.num).wider ((b.item item).drift*(day-c.day)))) ZcE)
def Bk.Zwf (b:Bk)(held:List Int):Nat→Int→Cr
 |0,_=>⟨0,0⟩
 |k+1,n=>if n=(k:Int)then(if held.contains n=true then(b.Zu2 held (b.Zwf held k) (b.get n).src (b.get n).day n).plus (b.get n).diff else⟨0,0⟩)else b.Zwf held k n
theorem Zgg {b:Bk}{held:List Int}{k:Nat}{n:Int}:b.Zwf held (k+1) n=if n=(k:Int)then(if held.contains n=true then(b.Zu2 held (b.Zwf held k) (b.get n).src (b.get n).day n).plus (b.get n).diff else⟨0,0⟩)else b.Zwf held k n:=rfl
theorem Zgc {b:Bk}{held:List Int}{S S':Int→Cr}{item day below:Int}(h:∀n,n<below→S n=S' n):b.Zu2 held S item day below=b.Zu2 held S' item day below:=by
 unfold Bk.Zu2;split
 ·rfl
 ·have key:∀(l:List Ct) (e:Cr),(∀c∈l,c.num<below)→l.foldl (fun r c=>r.cut ((S c.num).wider ((b.item item).drift*(day-c.day)))) e=l.foldl (fun r c=>r.cut ((S' c.num).wider ((b.item item).drift*(day-c.day)))) e:=by
   intro l;induction l with
   |nil=>exact fun _ _=>rfl
   |cons c l ih=>
    intro e hl;rw[List.foldl_cons,List.foldl_cons,h c.num (hl c (by simp)),ih _ fun x hx=>hl x (by simp[hx])]
  refine key _ _ fun c hc=>?_
  rw[ZxX]at hc
  have:=hc.2
  unfold Bk.ofB at this;simp only[ZxO,decide_eq_true_eq]at this;exact this.1.1
def Bk.span (b:Bk)(held:List Int)(n:Int):Cr:=b.Zwf held 1000 n
theorem Zdq {b:Bk}{held:List Int}{n:Int}:∀{k:Nat},n<(k:Int)→∀j,b.Zwf held (k+j) n=b.Zwf held k n
 |k,h,0=>rfl
 |k,h,j+1=>by
  rw[←Nat.add_assoc,Zgg,if_neg (by omega)];exact Zdq h j
theorem Zg5 {b:Bk}{held:List Int}{n:Nat}(hn:n<1000):b.span held n=if held.contains (n:Int)=true then(b.Zu2 held (b.span held) (b.get n).src (b.get n).day n).plus (b.get n).diff else⟨0,0⟩:=by
 have e:b.span held n=b.Zwf held (n+1) n:=by
  unfold Bk.span;rw[show 1000=n+1+(1000-(n+1)) by omega];exact Zdq (by omega) _
 rw[e,Zgg,if_pos rfl];split
 ·congr 1;refine Zgc fun m hm=>?_
  unfold Bk.span;rw[show 1000=n+(1000-n) by omega];exact(Zdq hm _).symm
 ·rfl
def Bk.contra (b:Bk):Bool:=b.certs.any fun c=>(b.held []).contains c.num&&decide ((b.Zu2 (b.held []) (b.span (b.held [])) c.it c.day 1000).hi<(b.Zu2 (b.held []) (b.span (b.held [])) c.it c.day 1000).lo)
end
section
attribute [local simp] Box.Zu0 Site.Zu1
theorem Zbx (n lo hi:Int):Gives Tryz.prog 130 [.int .i64 n,.int .i64 lo,.int .i64 hi] (.bool (inB n lo hi)):=by
 refine cS L130 ?_;by_cases h:lo≤n
 all_goals simp[h,L130,inB]
theorem day_c (n:Int):Gives Tryz.prog 123 [.int .i64 n] (.bool (inB n 0 1000)):=by
 refine cS L123 ?_;simp[L123];refine Zaa (k:=0) rfl rfl (Zbx n 0 1000) rfl ?_;simp
theorem ZkN (n:Int):Gives Tryz.prog 133 [.int .i64 n] (.bool (inB n 1 999)):=by
 refine cS L133 ?_;simp[L133];refine Zaa (k:=0) rfl rfl (Zbx n 1 999) rfl ?_;simp
theorem Zmu (n:Int):Gives Tryz.prog 166 [.int .i64 n] (.bool (valB n)):=by
 refine cS L166 ?_;simp[L166];refine Zaa (k:=0) rfl rfl (Zbx n (-100000) 100000) rfl ?_;simp[valB]
theorem Zkw (r:Cr):Gives Tryz.prog 131 [r.pv] (.bool r.okB):=by
 refine cS L131 ?_;simp[-getElem?_pos,L131,Cr.pv];refine Zaa (k:=0) rfl rfl (Zmu r.lo) rfl ?_;cases h1:valB r.lo
 ·simp[Cr.okB,h1]
 ·simp[h1];refine Zaa (k:=0) rfl rfl (Zmu r.hi) rfl ?_;cases h2:valB r.hi
  ·simp[Cr.okB,h1,h2]
  ·simp[Cr.okB,h1,h2]
theorem Zqc (x:It):Gives Tryz.prog 81 [x.pv] (.bool x.okB):=by
 obtain⟨d,s,lo,hi⟩:=x;refine cS L81 ?_;simp[-getElem?_pos,L81,It.pv];refine Zaa (k:=0) rfl rfl (Zbx d 0 100) rfl ?_;cases h1:inB d 0 100
 ·simp[It.okB,h1]
 ·simp[h1];refine Zaa (k:=0) rfl rfl (Zkw ⟨lo,hi⟩) rfl ?_;cases h2:Cr.okB ⟨lo,hi⟩
  ·simp[It.okB,h1,h2]
  ·cases s
   ·simp[It.okB,h1,h2];rw[Zyr];simp
   ·simp[It.okB,h1,h2]
theorem ZnX (b:Bk)(n:Int)(h:b.items.length≤1000):Gives Tryz.prog 122 [b.pv,.int .i64 n] (.bool (b.Zvb n)):=by
 have hw:IntKind.i64.wrap ((b.items.length:Int)-1)=(b.items.length:Int)-1:=wrap64 (by omega);refine cS L122 ?_;simp[-getElem?_pos,L122,Bk.pv,itsP,hw];refine Zaa (k:=0) rfl rfl (Zbx n 0 ((b.items.length:Int)-1)) rfl ?_;simp[Bk.Zvb]
theorem con_c (c:Ct)(d:Int)(h:IntKind.i64.wrap (c.day+c.valid)=c.day+c.valid):Gives Tryz.prog 125 [c.pv,.int .i64 d] (.bool (c.on d)):=by
 refine cS L125 ?_;simp[-getElem?_pos,L125,Ct.pv,h];refine Zaa (k:=0) rfl rfl (Zbx d c.day (c.day+c.valid)) rfl ?_;simp[Ct.on]
theorem low_c (r:Cr):Gives Tryz.prog 139 [r.pv] (.int .i64 r.lo):=by
 refine cS L139 ?_;simp[-getElem?_pos,L139,Cr.pv]
theorem ZrK (r:Cr):Gives Tryz.prog 140 [r.pv] (.int .i64 r.hi):=by
 refine cS L140 ?_;simp[-getElem?_pos,L140,Cr.pv]
theorem ZrA (r o:Cr)(h1:IntKind.i64.wrap (r.lo+o.lo)=r.lo+o.lo)(h2:IntKind.i64.wrap (r.hi+o.hi)=r.hi+o.hi):Gives Tryz.prog 89 [r.pv,o.pv] (r.plus o).pv:=by
 have a1:=low_c r;have a2:=low_c o;have a3:=ZrK r;have a4:=ZrK o;refine cS L89 ?_;simp[-getElem?_pos,L89,Cr.pv];refine Zbn (k:=0) rfl rfl a1 rfl ?_;simp[-getElem?_pos];refine Zbn (k:=0) rfl rfl a2 rfl ?_;simp[-getElem?_pos,h1];refine Zbn (k:=0) rfl rfl a3 rfl ?_;simp[-getElem?_pos];refine Zaa (k:=0) rfl rfl a4 rfl ?_;simp[-getElem?_pos,h2,Cr.plus,Cr.pv]
theorem Zr4 (r:Cr)(n:Int)(h0:IntKind.i64.wrap (-n) = -n)(h1:IntKind.i64.wrap (r.lo + -n)=r.lo + -n)(h2:IntKind.i64.wrap (r.hi+n)=r.hi+n):Gives Tryz.prog 138 [r.pv,.int .i64 n] (r.wider n).pv:=by
 have a1:=ZrA r ⟨-n,n⟩ h1 h2;refine cS L138 ?_;simp[-getElem?_pos,L138,Cr.pv,h0];refine .inl (cQ [] [r.pv,Cr.pv ⟨-n,n⟩] a1 ?_);simp[-getElem?_pos,frzsL,Cr.wider,Cr.plus,Cr.pv]
theorem ZiQ:Gives Tryz.prog 136 [] ZcE.pv:=by
 refine cS L136 ?_;simp[-getElem?_pos,L136,ZcE,Cr.pv]
theorem ZcU {l:List PV}{q:PV→Bool}{k:Nat}{x:PV}(hx:l[k]?=some x)(hb:q x=true)(hinv:∀(j:Nat) (y:PV),j<k→l[j]?=some y→q y=false):l.findIdx? q=some k:=by
 obtain⟨hlt,e⟩:=ZxN.1 hx;rw[Zyy];refine⟨hlt,by rw[e];exact hb,fun j hj=>?_⟩
 have:=hinv j l[j] hj (ZxL (by omega))
 simp[this]
theorem ZbE {l:List PV}{q:PV→Bool}(hinv:∀(j:Nat) (y:PV),j<l.length→l[j]?=some y→q y=false):l.findIdx? q=none:=by
 rw[Zyz];intro x hx;obtain⟨j,hj⟩:=ZxV.1 hx;exact hinv j x (ZxN.1 hj).1 hj
theorem Zn5 (l:List PV)(g:FuncId)(fs cs:List PV)(q:PV→Bool)(hq:∀x∈l,Gives Tryz.prog g (fs++[x]++cs) (.bool (q x)))(hl:l.length≤1000000)(hc:∀x∈l,∃a t b c,x=.agg [.int .i64 a,.bool t,.int .i64 b,.int .i64 c]):
  Gives Tryz.prog 165 [.lst false 4 l,.fn g fs cs] (.int .i64 (match l.findIdx? q with|some i=>i|none=>-1)):=by
 refine cS L165 ?_;simp[L165];refine Zaf (fun n τ=>∃k:Nat,k≤l.length∧n=l.length-k∧(∀j x,j<k→l[j]?=some x→q x=false)∧τ=⟨[(0,.pv (.lst false 4 l)),(1,.pv (.fn g fs cs)),(7,.pv (.int .i64 l.length)),(8,.pv (.int .i64 k))],[]⟩)
  ⟨l.length,_,Sub.mk (by simp) (by simp),0,by omega,rfl,(fun j x hj=>by omega),rfl⟩ ?_
 rintro J hJ n τ ⟨k,hk,rfl,hinv,rfl⟩;by_cases hlt:k<l.length
 ·have hx:l[k]?=some l[k]:=ZxL hlt;have hm:=Zyh hlt;generalize l[k]=x at hx hm;obtain⟨a,t,b,c,rfl⟩:=hc x hm;have hg:=hq _ hm;have hw:IntKind.i64.wrap ((k:Int)+1)=((k+1:Nat):Int):=by rw[wrap64 (by omega)];omega
  simp[-getElem?_pos,hlt,hx,nblt];refine Zaa (k:=0) rfl rfl hg rfl ?_;cases hb:q _
  ·simp[hw];exact⟨_,_,(by omega:l.length-(k+1)<l.length-k),Sub.mk (by simp) (by simp),hJ _ _ ⟨k+1,by omega,rfl,fun j x hj hjx=>by
    rcases ZyD.1 hj with h|h
    ·exact hinv j x h hjx
    ·subst h;rw[hx]at hjx;cases hjx;exact hb,rfl⟩⟩
  ·simp[ZcU hx hb hinv]
 ·have he:k=l.length:=by omega
  subst he;simp[ZbE hinv]
theorem ZtR (l:List PV)(g:FuncId)(fs cs:List PV)(q:PV→Bool)(hq:∀x∈l,Gives Tryz.prog g (fs++[x]++cs) (.bool (q x)))(hl:l.length≤1000000)(hc:∀x∈l,∃a t b c,x=.agg [.int .i64 a,.bool t,.int .i64 b,.int .i64 c]):
  Gives Tryz.prog 128 [.lst false 4 l,.fn g fs cs] (.bool (l.any q)):=by
 refine cS L128 ?_;simp[L128];refine Zaa (k:=0) rfl rfl (Zn5 l g fs cs q hq hl hc) rfl ?_;cases hf:l.findIdx? q with
 |none=>
  have:l.any q=false:=by rw[List.any_eq_false];intro x hx;simpa using Zyz.1 hf x hx
  simp[this]
 |some i=>
  have:l.any q=true:=by
   obtain⟨hi,h1,_⟩:=Zyy.1 hf;exact Zya.2 ⟨_,Zyh hi,h1⟩
  simp[this]
theorem Zrp (x:PV)(g:FuncId)(fs cs:List PV)(b:Bool)(hx:∃a t b c,x=.agg [.int .i64 a,.bool t,.int .i64 b,.int .i64 c])(hq:Gives Tryz.prog g (fs++[x]++cs) (.bool b)):
  Gives Tryz.prog 129 [x,.ref [.fn g fs cs]] (.bool (!b)):=by
 obtain⟨a,t,b,c,rfl⟩:=hx;refine cS L129 ?_;simp[L129];refine Zaa (k:=0) rfl rfl hq rfl ?_;simp
theorem ZtW (l:List PV)(g:FuncId)(fs cs:List PV)(q:PV→Bool)(hq:∀x∈l,Gives Tryz.prog g (fs++[x]++cs) (.bool (q x)))(hl:l.length≤1000000)(hc:∀x∈l,∃a t b c,x=.agg [.int .i64 a,.bool t,.int .i64 b,.int .i64 c]):
  Gives Tryz.prog 80 [.lst false 4 l,.fn g fs cs] (.bool (l.all q)):=by
 refine cS L80 ?_;simp[L80];refine Zaa (k:=4) rfl rfl (ZtR l 129 [] [.ref [.fn g fs cs]] (fun x=>!q x) (fun x hx=>Zrp x g fs cs (q x) (hc x hx) (hq x hx)) hl hc) rfl ?_;simp[List.not_any_eq_all_not]
theorem Zn6 (l:List PV)(g:FuncId)(fs cs:List PV)(q:PV→Bool)(hq:∀x∈l,Gives Tryz.prog g (fs++[x]++cs) (.bool (q x)))(hl:l.length≤1000000)(hc:∀x∈l,∃a b c d e f h,x=.agg [.int .i64 a,.int .i64 b,.int .i64 c,.int .i64 d,.int .i64 e,.int .i64 f,.int .i64 h]):
  Gives Tryz.prog 90 [.lst false 7 l,.fn g fs cs] (.int .i64 (match l.findIdx? q with|some i=>i|none=>-1)):=by
 refine cS L90 ?_;simp[L90];refine Zaf (fun n τ=>∃k:Nat,k≤l.length∧n=l.length-k∧(∀j x,j<k→l[j]?=some x→q x=false)∧τ=⟨[(0,.pv (.lst false 7 l)),(1,.pv (.fn g fs cs)),(7,.pv (.int .i64 l.length)),(8,.pv (.int .i64 k))],[]⟩)
  ⟨l.length,_,Sub.mk (by simp) (by simp),0,by omega,rfl,(fun j x hj=>by omega),rfl⟩ ?_
 rintro J hJ n τ ⟨k,hk,rfl,hinv,rfl⟩;by_cases hlt:k<l.length
 ·have hx:l[k]?=some l[k]:=ZxL hlt;have hm:=Zyh hlt;generalize l[k]=x at hx hm;obtain⟨a,b,c,d,e,f,h,rfl⟩:=hc x hm;have hg:=hq _ hm;have hw:IntKind.i64.wrap ((k:Int)+1)=((k+1:Nat):Int):=by rw[wrap64 (by omega)];omega
  simp[-getElem?_pos,hlt,hx,nblt];refine Zaa (k:=0) rfl rfl hg rfl ?_;cases hb:q _
  ·simp[hw];exact⟨_,_,(by omega:l.length-(k+1)<l.length-k),Sub.mk (by simp) (by simp),hJ _ _ ⟨k+1,by omega,rfl,fun j x hj hjx=>by
    rcases ZyD.1 hj with h|h
    ·exact hinv j x h hjx
    ·subst h;rw[hx]at hjx;cases hjx;exact hb,rfl⟩⟩
  ·simp[ZcU hx hb hinv]
 ·have he:k=l.length:=by omega
  subst he;simp[ZbE hinv]
theorem Zo9 (l:List PV)(g:FuncId)(fs cs:List PV)(q:PV→Bool)(hq:∀x∈l,Gives Tryz.prog g (fs++[x]++cs) (.bool (q x)))(hl:l.length≤1000000)(hc:∀x∈l,∃a b c d e f h,x=.agg [.int .i64 a,.int .i64 b,.int .i64 c,.int .i64 d,.int .i64 e,.int .i64 f,.int .i64 h]):
  Gives Tryz.prog 71 [.lst false 7 l,.fn g fs cs] (.bool (l.any q)):=by
 refine cS L71 ?_;simp[L71];refine Zaa (k:=0) rfl rfl (Zn6 l g fs cs q hq hl hc) rfl ?_;cases hf:l.findIdx? q with
 |none=>
  have:l.any q=false:=by rw[List.any_eq_false];intro x hx;simpa using Zyz.1 hf x hx
  simp[this]
 |some i=>
  have:l.any q=true:=by
   obtain⟨hi,h1,_⟩:=Zyy.1 hf;exact Zya.2 ⟨_,Zyh hi,h1⟩
  simp[this]
theorem Zrr (x:PV)(g:FuncId)(fs cs:List PV)(b:Bool)(hx:∃a b c d e f h,x=.agg [.int .i64 a,.int .i64 b,.int .i64 c,.int .i64 d,.int .i64 e,.int .i64 f,.int .i64 h])(hq:Gives Tryz.prog g (fs++[x]++cs) (.bool b)):
  Gives Tryz.prog 132 [x,.ref [.fn g fs cs]] (.bool (!b)):=by
 obtain⟨a,b,c,d,e,f,h,rfl⟩:=hx;refine cS L132 ?_;simp[L132];refine Zaa (k:=0) rfl rfl hq rfl ?_;simp
theorem ZtX (l:List PV)(g:FuncId)(fs cs:List PV)(q:PV→Bool)(hq:∀x∈l,Gives Tryz.prog g (fs++[x]++cs) (.bool (q x)))(hl:l.length≤1000000)(hc:∀x∈l,∃a b c d e f h,x=.agg [.int .i64 a,.int .i64 b,.int .i64 c,.int .i64 d,.int .i64 e,.int .i64 f,.int .i64 h]):
  Gives Tryz.prog 82 [.lst false 7 l,.fn g fs cs] (.bool (l.all q)):=by
 refine cS L82 ?_;simp[L82];refine Zaa (k:=4) rfl rfl (Zo9 l 132 [] [.ref [.fn g fs cs]] (fun x=>!q x) (fun x hx=>Zrr x g fs cs (q x) (hc x hx) (hq x hx)) hl hc) rfl ?_;simp[List.not_any_eq_all_not]
theorem ZuK (b:Bk)(c:Ct)(h:b.items.length≤1000):Gives Tryz.prog 83 [b.pv,c.pv] (.bool (b.Zvv c)):=by
 have n1:=ZkN c.num;have n2:=ZnX b c.it h;have n3:=ZnX b c.src h;have n4:=day_c c.day;have n5:=day_c c.valid;have n6:=Zkw c.diff;refine cS L83 ?_;simp[-getElem?_pos,L83,Bk.pv,itsP,ctsP,Ct.pv];refine Zaa (k:=0) rfl rfl n1 rfl ?_;cases e1:inB c.num 1 999
 ·simp[-getElem?_pos,Bk.Zvv,e1]
 simp[-getElem?_pos];refine cG [b.pv,.int .i64 c.it] n2 ?_;cases e2:b.Zvb c.it
 ·simp[-getElem?_pos,Bk.Zvv,e1,e2]
 have hi:0≤c.it∧c.it<b.items.length:=by
  unfold Bk.Zvb inB at e2;simp only[ZxO,decide_eq_true_eq]at e2;omega
 obtain⟨x,hx⟩:∃x,b.items[c.it.toNat]?=some x:=⟨b.items[c.it.toNat]'(by omega),ZxL _⟩;have hxi:b.item c.it=x:=by unfold Bk.item;rw[hx];rfl
 have hg:(b.items.map It.pv)[c.it.toNat]?=some (.agg [.int .i64 x.drift,.bool x.std,.int .i64 x.val.lo,.int .i64 x.val.hi]):=by rw[ZxM,hx];rfl
 obtain⟨k,hk⟩:∃k:Nat,c.it=k:=⟨c.it.toNat,by omega⟩;rw[hk]at hg hi;simp only[Int.toNat_natCast]at hg;have hk2:k<b.items.length:=by omega
 simp[-getElem?_pos,-List.getElem?_map,hk,hg,hk2];rcases Bool.eq_false_or_eq_true x.std with e3|e3
 ·simp[-getElem?_pos,Bk.Zvv,e1,e2,hxi,e3]
 simp[-getElem?_pos,e3];refine cG [b.pv,.int .i64 c.src] n3 ?_;cases e4:b.Zvb c.src
 ·simp[-getElem?_pos,Bk.Zvv,e1,e2,hxi,e3,e4]
 rcases Bool.eq_false_or_eq_true (decide (c.src=(k:Int)))with e5|e5
 ·simp[-getElem?_pos,-decide_eq_true_eq,-decide_eq_false_iff_not,Bk.Zvv,e1,e2,hxi,e3,e4,hk,e5]
 have e5':decide (c.src≠(k:Int))=true:=by simp at e5 ⊢;exact e5
 simp[-getElem?_pos,-decide_eq_true_eq,-decide_eq_false_iff_not,e5,hk];refine Zaa (k:=0) rfl rfl n4 rfl ?_;cases e6:inB c.day 0 1000
 ·simp[-getElem?_pos,Bk.Zvv,e1,e2,hxi,e3,e4,e6]
 simp[-getElem?_pos];refine Zaa (k:=0) rfl rfl n5 rfl ?_;cases e7:inB c.valid 0 1000
 ·simp[-getElem?_pos,Bk.Zvv,e1,e2,hxi,e3,e4,e6,e7]
 simp[-getElem?_pos];refine cG [c.diff.pv] n6 ?_;have e2':=e2;rw[hk]at e2' hxi;simp[-getElem?_pos,-decide_eq_true_eq,-decide_eq_false_iff_not,Bk.Zvv,e1,e2',hxi,e3,e4,e6,e7,hk,e5']
theorem Zum (a b:Int):Gives Tryz.prog 178 [.lst false 1 [.int .i64 a,.int .i64 b]] (.int .i64 (max a b)):=by
 have hm:Gives Tryz.prog 201 [.lst false 1 [.int .i64 a,.int .i64 b]] (.int .i64 (max a b)):=by
  refine cS L201 ?_;simp[-getElem?_pos,L201];have hmx:(if a<b then b else a)=max a b:=by split<;>omega
  refine Zaf (fun n τ=>(n=1∧τ=⟨[(0,.pv (.lst false 1 [.int .i64 a,.int .i64 b])),(3,.pv (.int .i64 a)),(4,.pv (.int .i64 1))],[]⟩)∨(n=0∧τ=⟨[(0,.pv (.lst false 1 [.int .i64 a,.int .i64 b])),(3,.pv (.int .i64 (max a b))),(4,.pv (.int .i64 2))],[]⟩)) ⟨1,_,Sub.mk (by simp) (by simp),.inl ⟨rfl,rfl⟩⟩ ?_;rintro J hJ n τ (⟨rfl,rfl⟩|⟨rfl,rfl⟩)
  ·have hround:=hJ _ _ (.inr ⟨rfl,rfl⟩);have hw:IntKind.i64.wrap 2=2:=rfl;clear hJ;simp[-getElem?_pos,hw];exact⟨_,_,(by omega:0<1),Sub.mk (by simp[hmx]) (by simp),hround⟩
  ·simp[-getElem?_pos]
 refine cS L178 ?_;simp[-getElem?_pos,L178];refine cG [.lst false 1 [.int .i64 a,.int .i64 b]] hm ?_;simp[-getElem?_pos]
theorem Zta (a b:Int):Gives Tryz.prog 179 [.lst false 1 [.int .i64 a,.int .i64 b]] (.int .i64 (min a b)):=by
 have hm:Gives Tryz.prog 202 [.lst false 1 [.int .i64 a,.int .i64 b]] (.int .i64 (min a b)):=by
  refine cS L202 ?_;simp[-getElem?_pos,L202];have hmx:(if b<a then b else a)=min a b:=by split<;>omega
  refine Zaf (fun n τ=>(n=1∧τ=⟨[(0,.pv (.lst false 1 [.int .i64 a,.int .i64 b])),(3,.pv (.int .i64 a)),(4,.pv (.int .i64 1))],[]⟩)∨(n=0∧τ=⟨[(0,.pv (.lst false 1 [.int .i64 a,.int .i64 b])),(3,.pv (.int .i64 (min a b))),(4,.pv (.int .i64 2))],[]⟩)) ⟨1,_,Sub.mk (by simp) (by simp),.inl ⟨rfl,rfl⟩⟩ ?_;rintro J hJ n τ (⟨rfl,rfl⟩|⟨rfl,rfl⟩)
  ·have hround:=hJ _ _ (.inr ⟨rfl,rfl⟩);have hw:IntKind.i64.wrap 2=2:=rfl;clear hJ;simp[-getElem?_pos,hw];exact⟨_,_,(by omega:0<1),Sub.mk (by simp[hmx]) (by simp),hround⟩
  ·simp[-getElem?_pos]
 refine cS L179 ?_;simp[-getElem?_pos,L179];refine cG [.lst false 1 [.int .i64 a,.int .i64 b]] hm ?_;simp[-getElem?_pos]
end
section
attribute [local simp] AS.exp expG Box.ren AV.map AV.Zu9 Zau noRet Site.Zu6 Box.Zu3 AV.Zu3 AV.Zu4 retB dropL AS.Zvd renL outG outOk Zas inG fnOf lookA Zyc
attribute [local simp] Box.Zu0 Site.Zu1
section
attribute [local simp] frzsL retOk renB toLoc AS.frz AV.frz AV.frzL Box.frz AS.tidy AS.ZvF
theorem Zqb (c:Ct)(n:Int):Gives Tryz.prog 72 [c.pv,.ref [.int .i64 n]] (.bool (decide (c.num=n))):=by
 refine cS L72 ?_;simp[-getElem?_pos,L72,Ct.pv]
theorem ZjC (l:List Ct)(n:Int)(b c d e:PV)(hl:l.length≤1000):Zai Tryz.prog 32 [.ptr (.par 0) 0,.pv (.int .i64 n)] [(.par 0,wkX (.lst false 7 (l.map Ct.pv)) b c d e)] (fun r B=>r=.pv (.bool (l.any fun x=>decide (x.num=n)))∧B=[(.par 0,wkX (.lst false 7 (l.map Ct.pv)) b c d e)]):=by
 refine cB [.par 0] L32 ?_;simp[-getElem?_pos,L32,wkX];have hany:=Zo9 (l.map Ct.pv) 72 [] [.ref [.int .i64 n]] (fun x=>match x with
  |.agg (.int _ a::_)=>decide (a=n)
  |_=>false) (fun x hx=>by
   obtain⟨y,_,rfl⟩:=ZxY.1 hx;exact Zqb y n) (by rw[ZxS];omega) (fun x hx=>by
   obtain⟨y,_,rfl⟩:=ZxY.1 hx;exact⟨_,_,_,_,_,_,_,rfl⟩)
 rw[List.any_map]at hany;refine .inl (cQ [.loc 3 0] [.lst false 7 (l.map Ct.pv),.fn 72 [] [.ref [.int .i64 n]]] hany ?_);simp[-getElem?_pos,Function.comp_def,Ct.pv]
theorem Zoi (l:List Lt)(n:Int)(a b d e:PV)(hs:(l.map Lt.num).Pairwise (·<·))(hl:l.length≤1000)(hw:∀y∈l,IntKind.i64.wrap (y.num-n)=y.num-n):Zai Tryz.prog 220 [.ptr (.par 0) 0,.pv (.int .i64 n)] [(.par 0,wkX a b (.lst false 4 (l.map Lt.pv)) d e)] (fun r B=>r=.pv (.tup [.int .i64 (lowB (l.map Lt.num) n),.bool (decide (n∈l.map Lt.num))])∧B=[(.par 0,wkX a b (.lst false 4 (l.map Lt.pv)) d e)]):=by
 refine cB [.par 0] L220 ?_;simp[-getElem?_pos,L220,wkX];refine .inl (cQ [] [.lst false 4 (l.map Lt.pv),.int .i64 n,.fn 241 [] []] (Zmg l n hs (by omega) hw) ?_);simp[-getElem?_pos,-List.mem_map];simp
end
end
section
attribute [local simp] Box.Zu0 Site.Zu1
def cutJ (r o:Cr):AS:=⟨[(4,.ptr (.loc 4 0) 0),(10,.pv (.int .i64 (max r.lo o.lo))),(15,.vec (.loc 15 0) 1 0 2)],[(.loc 15 0,.arr 3 1 [.int .i64 r.hi,.int .i64 o.hi]),(.loc 4 0,.cells [.pv (.int .i64 0),.pv (.int .i64 0)])]⟩
theorem cut_c (r o:Cr):Gives Tryz.prog 137 [r.pv,o.pv] (r.cut o).pv:=by
 have a1:=Zum r.lo o.lo;have a2:=Zta r.hi o.hi;refine cS L137 ?_;simp[-getElem?_pos,L137,Cr.pv];refine Zdt (cutJ r o) ?_ ?_
 ·simp[-getElem?_pos,Zak,Zaq]
  repeat' (with_reducible refine And.intro ?_ ?_)
  all_goals trace_state
  all_goals refine Zbn (k:=1) (fs:=[]) (xs:=[.lst false 1 [.int .i64 r.lo,.int .i64 o.lo]]) (cs:=[]) rfl rfl a1 rfl ?_
  all_goals simp[-getElem?_pos,Zak,Zaq]
  all_goals refine Sub.mk ?_ ?_
  all_goals simp[cutJ]
 ·simp[-getElem?_pos,Zak,Zaq,cutJ];refine Zaa (k:=1) (fs:=[]) (xs:=[.lst false 1 [.int .i64 r.hi,.int .i64 o.hi]]) (cs:=[]) rfl rfl a2 rfl ?_;simp[-getElem?_pos,Zak,Zaq,Cr.cut]
end
section
theorem Sub.frz {σ:AS}(fz:List Site):Sub (frzsL fz σ) σ:=fun _ _ _ _ ρ _ _ _ hS=>let ⟨m',_,h⟩:=hS.frzsL fz;⟨ρ,m',h⟩
abbrev kI:KT:=⟨false,[.int .i64]⟩
theorem Zon {a b:Int}:eqK (.int .i64 a) (.int .i64 b)=decide (a=b):=by
 show((a==b)&&true)=_;rw[Bool.and_true,Zyr];simp
theorem ZuD {a b:Ct}:eqK a.pv b.pv=decide (a=b):=by
 obtain⟨a1,a2,a3,a4,a5,a6,a7⟩:=a;obtain⟨b1,b2,b3,b4,b5,b6,b7⟩:=b;rw[Zyr];simp[eqK,eqL,eqC,Ct.pv,PV.cells]
def mapI {α:Type}(f:α→Int)(g:α→PV)(l:List α):List (PV×PV):=l.map fun c=>(.int .i64 (f c),g c)
theorem ZbD {α:Type}{f:α→Int}{g:α→PV}{l:List α}:Zbi kI (mapI f g l)=true:=by
 unfold Zbi mapI;rw[Zx7];intro p hp;obtain⟨c,_,rfl⟩:=ZxY.1 hp;rfl
theorem Zbk {α:Type}{f:α→Int}{g:α→PV}{n:Int}:∀{l:List α},findV (.int .i64 n) (mapI f g l)=(l.find? fun c=>decide (f c=n)).map g
 |[]=>rfl
 |c::r=>by
  have ih:=Zbk (f:=f) (g:=g) (n:=n) (l:=r);unfold mapI at ih ⊢;rw[ZxZ,findV,Zon,List.find?_cons];by_cases h:n=f c
  ·rw[decide_eq_true h,decide_eq_true h.symm];rfl
  ·rw[decide_eq_false h,decide_eq_false (fun e=>h e.symm)];exact ih
theorem ZdL {α:Type}{f:α→Int}{g:α→PV}{n:Int}{v:PV}:∀{l:List α},(∀c∈l,f c≠n)→putK (.int .i64 n) v (mapI f g l)=mapI f g l++[(.int .i64 n,v)]
 |[],_=>rfl
 |c::r,h=>by
  have ih:=ZdL (f:=f) (g:=g) (n:=n) (v:=v) (l:=r) (fun x hx=>h x (by simp[hx]));unfold mapI at ih ⊢;rw[ZxZ,putK,Zon,decide_eq_false (fun e=>h c (by simp) e.symm)];show _::putK _ _ _=_;rw[ih];rfl
def addC (acc:List Ct)(c:Ct):List Ct:=match acc.find? (fun o=>decide (o.num=c.num))with
 |some _=>acc
 |none=>acc++[c]
def Bk.fst (b:Bk)(k:Nat):List Ct:=(b.certs.take k).foldl addC []
def entC (l:List Ct):List (PV×PV):=mapI Ct.num Ct.pv l
theorem ZdX {b:Bk}{k:Nat}{c:Ct}(h:b.certs[k]?=some c):b.fst (k+1)=addC (b.fst k) c:=by
 unfold Bk.fst;rw[Zx6,h,List.foldl_append];rfl
theorem ZpZ {acc:List Ct}{c x:Ct}(h:x∈addC acc c):x∈acc∨x=c:=by
 unfold addC at h;split at h
 ·exact .inl h
 ·simpa using h
theorem Zey {b:Bk}:∀k,∀x∈b.fst k,x∈b.certs.take k
 |0,x,h=>by cases h
 |k+1,x,h=>by
  cases hc:b.certs[k]? with
  |none=>
   rw[List.getElem?_eq_none_iff]at hc;unfold Bk.fst at h;rw[ZxW (by omega)]at h ⊢
   have:=Zey (b:=b) k x (by unfold Bk.fst;rw[ZxW (by omega)];exact h)
   rwa [ZxW (by omega)]at this
  |some c=>
   rw[ZdX hc]at h;rw[Zx6,hc,Zyp];rcases ZpZ h with h|h
   ·exact .inl (Zey k x h)
   ·right;simp[h]
theorem ZdY {b:Bk}:∀k,(b.fst k).Pairwise (fun x y=>x.num≠y.num)
 |0=>List.Pairwise.nil
 |k+1=>by
  cases hc:b.certs[k]? with
  |none=>
   rw[List.getElem?_eq_none_iff]at hc
   have:=ZdY (b:=b) k
   unfold Bk.fst at this ⊢;rw[ZxW (by omega)]at this ⊢;exact this
  |some c=>
   rw[ZdX hc];unfold addC;split
   ·exact ZdY k
   ·rename_i h;rw[List.find?_eq_none]at h;rw[List.pairwise_append];refine⟨ZdY k,by simp,fun x hx y hy=>?_⟩;simp at hy;subst hy;simpa using h x hx
def Bk.same (b:Bk)(k:Nat):Prop:=∀c∈b.certs.take k,c∈b.fst k
theorem Zh4 {b:Bk}{k:Nat}{c:Ct}(h:b.certs[k]?=some c)(hs:b.same k)(hf:∀o,(b.fst k).find? (fun o=>decide (o.num=c.num))=some o→o=c):b.same (k+1):=by
 intro x hx;rw[Zx6,h,Zyp]at hx;rw[ZdX h];unfold addC;cases ho:(b.fst k).find? (fun o=>decide (o.num=c.num))with
 |none=>
  rcases hx with hx|hx
  ·simp[hs x hx]
  ·simp at hx;simp[hx]
 |some o=>
  rcases hx with hx|hx
  ·exact hs x hx
  ·simp at hx;subst hx
   have:=hf o ho
   subst this;exact List.mem_of_find?_eq_some ho
theorem ZmX {b:Bk}(h1:∀c∈b.certs,1≤c.num∧c.num≤999)(hs:b.same b.certs.length):sortI ((b.fst b.certs.length).map Ct.num)=b.nums∧(∀x∈b.certs,∀y∈b.certs,x.num=y.num→x=y):=by
 have hsub:=Zey (b:=b) b.certs.length;unfold Bk.same at hs;rw[Zye]at hs hsub;have hnd:=ZdY (b:=b) b.certs.length;refine⟨?_,fun x hx y hy e=>?_⟩
 ·refine ZjE ?_ Zbd (fun x=>?_)
  ·have h1:=ZcN ((b.fst b.certs.length).map Ct.num);have h2:(sortI ((b.fst b.certs.length).map Ct.num)).Nodup:=by
    rw[(Zcp _).nodup_iff];exact List.pairwise_map.2 hnd
   exact(h1.and h2).imp (fun{a c} h=>by have:=h.2;omega)
  ·rw[(Zcp _).mem_iff];unfold Bk.nums;simp only[ZxY,ZxX,List.mem_range,Zya,decide_eq_true_eq];constructor
   ·rintro⟨c,hc,rfl⟩;have hb:=h1 c (hsub c hc);exact⟨c.num.toNat,⟨by omega,c,hsub c hc,by omega⟩,by show((c.num.toNat:Nat):Int)=c.num;omega⟩
   ·rintro⟨n,⟨_,c,hc,e⟩,rfl⟩;exact⟨c,hs c hc,e⟩
 ·have hp:∀{l:List Ct},l.Pairwise (fun x y=>x.num≠y.num)→∀x∈l,∀y∈l,x.num=y.num→x=y:=by
   intro l hl;induction hl with
   |nil=>intro x hx;cases hx
   |cons h _ ih=>
    intro x hx y hy e;rcases Zx2.1 hx with e1|hx1<;>rcases Zx2.1 hy with e2|hy1
    ·rw[e1,e2]
    ·subst e1;exact absurd e (h y hy1)
    ·subst e2;exact absurd e.symm (h x hx1)
    ·exact ih x hx1 y hy1 e
  exact hp hnd x (hs x hx) y (hs y hy) e
theorem Zmx {b:Bk}{x y:Ct}(hx:x∈b.certs)(hy:y∈b.certs)(e:x.num=y.num)(hne:x≠y):b.ZvI=true:=by
 unfold Bk.ZvI;rw[Zya];refine⟨x,hx,?_⟩;rw[Zya];exact⟨y,hy,by simp[e,hne]⟩
theorem Zmy {b:Bk}{x y:Ct}(hx:x∈b.certs)(hy:y∈b.certs)(e:y.num<x.num)(hd:x.day<y.day):b.ZvI=true:=by
 unfold Bk.ZvI;rw[Zya];refine⟨x,hx,?_⟩;rw[Zya];exact⟨y,hy,by simp[e,hd]⟩
theorem ZsT {b:Bk}(h1:∀x∈b.certs,∀y∈b.certs,x.num=y.num→x=y)(h2:∀x∈b.certs,∀y∈b.certs,y.num<x.num→y.day≤x.day):b.ZvI=false:=by
 cases h:b.ZvI
 ·rfl
 ·unfold Bk.ZvI at h;rw[Zya]at h;obtain⟨x,hx,h⟩:=h;rw[Zya]at h;obtain⟨y,hy,h⟩:=h;simp only[Zyk,ZxO,decide_eq_true_eq]at h;rcases h with⟨e,h⟩|⟨e,h⟩
  ·exact absurd (h1 x hx y hy e) h
  ·have:=h2 x hx y hy e;omega
theorem Ztv {l:List Int}(f:Int→Int)(hs:l.Pairwise (·<·))(h:∀(i:Nat) (x y:Int),l[i]?=some x→l[i+1]?=some y→f x≤f y):∀x∈l,∀y∈l,y<x→f y≤f x:=by
 induction hs with
 |nil=>intro x hx;cases hx
 |@cons a r ha hr ih=>
  have ih':=ih (fun i x y h1 h2=>h (i+1) x y (by simpa using h1) (by simpa using h2));have first:∀x∈r,f a≤f x:=by
   intro x hx;cases r with
   |nil=>cases hx
   |cons c t=>
    have hac:=h 0 a c rfl rfl;rcases Zx2.1 hx with rfl|hx'
    ·exact hac
    ·have h2:=(List.pairwise_cons.1 hr).1 x hx'
     have:=ih' x (by simp[hx']) c (by simp) h2
     omega
  intro x hx y hy e;rcases Zx2.1 hx with e1|hx1<;>rcases Zx2.1 hy with e2|hy1
  ·omega
  ·have:=ha y hy1;omega
  ·rw[e2];exact first x hx1
  ·exact ih' x hx1 y hy1 e
structure CMap (b:Bk)(es:List (PV×PV)):Prop where
 k:Zbi kI es=true
 f:∀n:Int,findV (.int .i64 n) es=if n∈b.nums then some (b.get n).pv else none
theorem ZoG {b:Bk}(hb:b.ok)(hs:b.same b.certs.length):CMap b (entC (b.fst b.certs.length)):=by
 refine⟨ZbD,fun n=>?_⟩;have hsub:=Zey (b:=b) b.certs.length;unfold Bk.same at hs;rw[Zye]at hs hsub;unfold entC;rw[Zbk];cases hf:(b.fst b.certs.length).find? (fun c=>decide (c.num=n))with
 |none=>
  rw[if_neg]
  ·rfl
  ·intro hn;obtain⟨c,hc,e⟩:=(Zbc hb).1 hn;rw[List.find?_eq_none]at hf;exact absurd e (by simpa using hf c (hs c hc))
 |some c=>
  have h1:=hsub c (List.mem_of_find?_eq_some hf);have h2:=List.find?_some hf;simp only[decide_eq_true_eq]at h2;subst h2;rw[if_pos ((Zbc hb).2 ⟨c,h1,rfl⟩),ZcK hb h1];rfl
end
section
attribute [local simp] Box.Zu0 Site.Zu1
theorem Zj1 {P:Program}{f:FuncId}{xs:List PV}{y:PV}(hc:Callable P f)(h:∀(w:World) (m:Mem) (vs:Array Value),vs.size=xs.length→(∀(j:Nat) (d:Value) (c:PV),vs[j]?=some d→xs[j]?=some c→RdP m d c)→Calls P f vs w (fun e w'=>(∃v,e=.returned v∧RdP m v y)∧w'=w)):Gives P f xs y:=by
 refine⟨hc,fun w m ρ vs hB ⟨hm,_⟩ hsz hrd=>(h w m vs (by simpa using hsz) (fun j d c k1 k2=>(hrd j d (.pv c) k1 (by rw[ZxM,k2];rfl)).Zu5)).mono ?_⟩;rintro e w' ⟨⟨v,rfl,hv⟩,rfl⟩;exact⟨v,.pv y,[],ρ,m,rfl,⟨rfl,rfl⟩,Bxs.nil _ _ _,Le.refl m,hm,fun _=>rfl,fun s b k hs=>by simp[List.lookup]at hs,fun b o v h=>.inl h,.pv _ _ hv,Keep.ZvU _ _⟩
theorem ZuM (x:Int)(h0:0≤x)(h1:x≤18446744073709551615):Gives Tryz.prog 135 [.int .u64 x] (.int .i64 (Lib.bitLen x.toNat)):=by
 refine Zj1 ⟨_,_,Tryz.func135,by decide +kernel,rfl⟩ (fun w m vs hsz hrd=>?_);obtain⟨v,rfl⟩:∃v,vs=#[v]:=by
  match vs,hsz with
  |⟨[v]⟩,_=>exact⟨v,rfl⟩
 have hv:=hrd 0 v _ rfl rfl;cases hv;have hD:∀D,_:=fun D=>AnyS.bits_LenInS { Tryz.ZwQ with } D x w h0 h1
 have:=calls_of_every_depth hD
 refine this.mono ?_;rintro e w' ⟨rfl,rfl⟩;exact⟨⟨_,rfl,.int _ _⟩,rfl⟩
theorem Zqd:Gives Tryz.prog 167 [.emp (some true),.int .i64 0,.int .i64 0] (.tup []):=by
 refine cS L167 ?_;have hw0:IntKind.i64.wrap 1=1:=rfl;simp[-getElem?_pos,L167,hw0];refine Zaf (fun n τ=>n=0∧τ=⟨[(0,.pv (.emp (some true))),(1,.pv (.int .i64 0)),(2,.pv (.int .i64 0)),(6,.pv (.int .i64 1))],[]⟩) ⟨0,_,Sub.mk (by simp) (by simp),rfl,rfl⟩ ?_;rintro J hJ n τ ⟨rfl,rfl⟩;simp[-getElem?_pos]
theorem Zua (m:Int):Gives Tryz.prog 134 [.emp (some true),.int .i64 0,.int .i64 0,.int .i64 m] (.tup []):=by
 refine cS L134 ?_;have hw0:IntKind.i64.wrap 0=0:=rfl;simp[-getElem?_pos,L134,hw0];refine Zaf (fun n τ=>n=0∧τ=⟨[(0,.pv (.emp (some true))),(1,.pv (.int .i64 0)),(2,.pv (.int .i64 0))],[]⟩) ⟨0,_,Sub.mk (by simp) (by simp),rfl,rfl⟩ ?_;rintro J hJ n τ ⟨rfl,rfl⟩;simp[-getElem?_pos,hw0];refine cG [.emp (some true),.int .i64 0,.int .i64 0] Zqd ?_;simp[-getElem?_pos]
theorem Zsm:Gives Tryz.prog 84 [.emp (some true)] (.tup []):=by
 refine cS L84 ?_;have hw0:IntKind.u64.wrap 0=0:=rfl;simp[-getElem?_pos,L84,hw0];refine cG [.int .u64 0] (ZuM 0 (by omega) (by omega)) ?_;simp[-getElem?_pos];refine cG [.emp (some true),.int .i64 0,.int .i64 0,.int .i64 (Lib.bitLen (0:Int).toNat)] (Zua _) ?_;simp[-getElem?_pos]
end
section
attribute [local simp] Box.Zu0 Site.Zu1
attribute [local simp] AS.exp expG Box.ren AV.map AV.Zu9 noRet Site.Zu6 Box.Zu3 AV.Zu3 AV.Zu4
def wkC (b:Bk)(m:Site)(Z:List AV):List AV:=.pv (itsP b.items)::.pv (ctsP b.certs)::.mp m::.pv (.lst false 1 (b.nums.map intP))::Z
def bad0:List AV:=List.replicate 1000 (.pv (.bool false))
def Bk.cells (b:Bk):List AV:=[.pv (itsP b.items),.pv (ctsP b.certs)]
def rdK (b:Bk)(k:Nat):AS:=⟨[(1,.ptr (.loc 1 0) 0),(4,.ptr (.loc 38 0) 0),(40,.pv (ctsP b.certs)),(41,.pv (.int .i64 b.certs.length)),(42,.pv (.int .i64 k))],
 [(.loc 79 0,.arr 3 1 ((b.fst k).map fun c=>intP c.num)),(.loc 38 0,.cells (.pv (itsP b.items)::.pv (ctsP b.certs)::.mp (.loc 36 0)::.vec (.loc 79 0) 1 0 (b.fst k).length::bad0)),(.loc 36 0,.map (entC (b.fst k))),(.loc 1 0,.cells b.cells)]⟩
def rdR (b:Bk)(r:AV)(B:List (Site×Box)):Prop:=
 (b.fault≠0∧r=.pv (.tup [.nilp,.int .i64 b.fault])∧B=[])∨
 (b.fault=0∧∃es,CMap b es∧r=.tup [.ptr (.ret 0) 0,.pv (.int .i64 0)]∧B=[(.ret 0,.cells (wkC b (.ret 1) bad0)),(.ret 1,.map es)])
theorem Zql {d n:Nat}{x:AV}(h:x.has d=false):AV.ZvL d (List.replicate n x)=false:=by
 induction n with
 |zero=>rfl
 |succ n ih=>rw[List.replicate_succ];simp only[AV.ZvL,h,ih];rfl
theorem Zpa {q:Site→Bool}{n:Nat}{x:AV}(h:x.Zu3 q=true):AV.Zu4 q (List.replicate n x)=true:=by
 induction n with
 |zero=>rfl
 |succ n ih=>rw[List.replicate_succ];simp only[AV.Zu4,h,ih];rfl
theorem Zlu:List.replicate 1000 (AV.pv (.bool false))=bad0:=rfl
theorem Zdl (d:Nat):AV.ZvL d bad0=false:=Zql rfl
theorem Zlv (q:Site→Bool):AV.Zu4 q bad0=true:=Zpa rfl
theorem ZaE (d:Nat):bad0.map (AV.Zu0 d)=bad0:=List.map_replicate
theorem Zq5:bad0.length=1000:=List.length_replicate
theorem Zp0 {g:Site→Site}{n:Nat}{x:PV}:AV.Zu9 g (List.replicate n (.pv x))=List.replicate n (.pv x):=by
 induction n with
 |zero=>rfl
 |succ n ih=>rw[List.replicate_succ];simp only[AV.Zu9,AV.map,ih]
theorem Zlt (g:Site→Site):AV.Zu9 g bad0=bad0:=Zp0
theorem wrapK {k:Nat}(h:k≤1000000):IntKind.i64.wrap ((k:Int)+1)=((k+1:Nat):Int):=by rw[wrap64 (by omega)];omega
theorem ZjJ {b:Bk}:∀k,(b.fst k).length≤k
 |0=>ZxR _
 |k+1=>by
  have ih:=ZjJ (b:=b) k;cases hc:b.certs[k]? with
  |none=>
   rw[List.getElem?_eq_none_iff]at hc;unfold Bk.fst at ih ⊢;rw[ZxW (by omega)]at ih ⊢;omega
  |some c=>
   rw[ZdX hc];unfold addC;split
   ·omega
   ·rw[ZxU];simp;omega
theorem ZjI {b:Bk}(h1:∀x∈b.certs,∀y∈b.certs,x.num=y.num→x=y){c:Ct}(hc:c∈b.certs):b.get c.num=c:=by
 unfold Bk.get;cases hf:b.certs.find? (fun x=>decide (x.num=c.num))with
 |none=>
  rw[List.find?_eq_none]at hf
  have:=hf c hc
  simp at this
 |some x=>
  have k1:=List.mem_of_find?_eq_some hf;have k2:=List.find?_some hf;simp only[decide_eq_true_eq]at k2;exact h1 x k1 c hc k2
theorem Zfs {b:Bk}(h1:∀c∈b.certs,1≤c.num∧c.num≤999){x:Int}:x∈b.nums↔∃c∈b.certs,c.num=x:=by
 unfold Bk.nums;simp only[ZxY,ZxX,List.mem_range,Zya,decide_eq_true_eq];constructor
 ·rintro⟨n,⟨_,c,hc,e⟩,rfl⟩;exact⟨c,hc,e⟩
 ·rintro⟨c,hc,rfl⟩;have hb:=h1 c hc;exact⟨c.num.toNat,⟨by omega,c,hc,by omega⟩,by show((c.num.toNat:Nat):Int)=c.num;omega⟩
theorem Zqs {b:Bk}(h1:∀c∈b.certs,1≤c.num∧c.num≤999)(h2:∀x∈b.certs,∀y∈b.certs,x.num=y.num→x=y)(hs:b.same b.certs.length){n:Int}(hn:n∈b.nums):findV (.int .i64 n) (entC (b.fst b.certs.length))=some (b.get n).pv∧(b.get n).num=n∧b.get n∈b.certs:=by
 obtain⟨c,hc,rfl⟩:=(Zfs h1).1 hn;rw[ZjI h2 hc];refine⟨?_,rfl,hc⟩;have hsub:=Zey (b:=b) b.certs.length;unfold Bk.same at hs;rw[Zye]at hs hsub;unfold entC;rw[Zbk];cases hf:(b.fst b.certs.length).find? (fun x=>decide (x.num=c.num))with
 |none=>
  rw[List.find?_eq_none]at hf
  have:=hf c (hs c hc)
  simp at this
 |some x=>
  have k1:=hsub x (List.mem_of_find?_eq_some hf);have k2:=List.find?_some hf;simp only[decide_eq_true_eq]at k2;rw[h2 x k1 c hc k2];rfl
def rdL (b:Bk)(es:List (PV×PV))(k:Nat):AS:=⟨[(1,.ptr (.loc 1 0) 0),(4,.ptr (.loc 38 0) 0),(91,.pv (.lst false 1 (b.nums.map intP))),(92,.pv (.int .i64 b.nums.length)),(93,.pv (.int .i64 k))],
 [(.loc 38 0,.cells (wkC b (.loc 36 0) bad0)),(.loc 36 0,.map es),(.loc 1 0,.cells b.cells)]⟩
theorem Zq6 {s:Site}{n:Nat}{xs:List PV}:AV.frzL s n xs bad0=bad0:=by
 have:∀k,AV.frzL s n xs (List.replicate k (.pv (.bool false)))=List.replicate k (.pv (.bool false)):=fun k=>by
  induction k with
  |zero=>rfl
  |succ k ih=>rw[List.replicate_succ];simp only[AV.frzL,AV.frz,ih]
 exact this 1000
theorem ZiO {b:Bk}(h:b.big=true):b.fault=3:=by unfold Bk.fault;rw[if_pos h]
theorem ZiP {b:Bk}(h0:b.big=false)(h:b.bad=true):b.fault=1:=by unfold Bk.fault;rw[if_neg (by simp[h0]),if_pos h]
theorem ZiN {b:Bk}(h0:b.big=false)(h1:b.bad=false)(h:b.ZvI=true):b.fault=6:=by unfold Bk.fault;rw[if_neg (by simp[h0]),if_neg (by simp[h1]),if_pos h]
theorem Ze0 {b:Bk}(h0:b.big=false)(h1:b.bad=false)(h:b.ZvI=false):b.fault=0:=by unfold Bk.fault;rw[if_neg (by simp[h0]),if_neg (by simp[h1]),if_neg (by simp[h])]
def itQ:PV→Bool
 |.agg [.int _ d,.bool t,.int _ lo,.int _ hi]=>It.okB ⟨d,t,⟨lo,hi⟩⟩
 |_=>false
def ctQ (b:Bk):PV→Bool
 |.agg [.int _ n,.int _ i,.int _ s,.int _ d,.int _ v,.int _ lo,.int _ hi]=>b.Zvv ⟨n,i,s,d,v,⟨lo,hi⟩⟩
 |_=>false
theorem itsA (b:Bk)(hi:b.items.length≤1000):Gives Tryz.prog 80 [itsP b.items,.fn 81 [] []] (.bool (b.items.all It.okB)):=by
 have a1:=ZtW (b.items.map It.pv) 81 [] [] itQ (fun x hx=>by
  obtain⟨y,_,rfl⟩:=ZxY.1 hx;exact Zqc y) (by rw[ZxS];omega) (fun x hx=>by
  obtain⟨y,_,rfl⟩:=ZxY.1 hx;exact⟨_,_,_,_,rfl⟩)
 rw[List.all_map]at a1;exact a1
theorem ctsA (b:Bk)(hi:b.items.length≤1000)(hc:b.certs.length≤1000):Gives Tryz.prog 82 [ctsP b.certs,.fn 83 [b.pv] []] (.bool (b.certs.all b.Zvv)):=by
 have a1:=ZtX (b.certs.map Ct.pv) 83 [b.pv] [] (ctQ b) (fun x hx=>by
  obtain⟨y,_,rfl⟩:=ZxY.1 hx;exact ZuK b y hi) (by rw[ZxS];omega) (fun x hx=>by
  obtain⟨y,_,rfl⟩:=ZxY.1 hx;exact⟨_,_,_,_,_,_,_,rfl⟩)
 rw[List.all_map]at a1;exact a1
theorem Zib (b:Bk)(hi:b.items.length≤1000)(hc:b.certs.length≤1000):Zai Tryz.prog 38 [.pv b.pv] [] (rdR b):=by
 have a1:=itsA b hi;have a2:=ctsA b hi hc;refine cE L38 ?_;generalize hR:rdR b=R;have rerr:∀e:Int,b.fault=e→e≠0→R (.pv (.tup [.nilp,.int .i64 e])) []:=fun e h h0=>by
  rw[←hR];exact .inl ⟨by rw[h];exact h0,by rw[h],rfl⟩
 by_cases c1:8<b.items.length
 ·have d1:decide ((8:Int)<(b.items.length:Int))=true:=by simp;omega
  have:=rerr 3 (ZiO (by simp[Bk.big,c1])) (by omega)
  simp[-getElem?_pos,-List.reduceReplicate,-decide_eq_true_eq,-decide_eq_false_iff_not,L38,Bk.pv,itsP,ctsP,d1];exact⟨[],by simpa[retB,Zau]using this⟩
 have d1:decide ((8:Int)<(b.items.length:Int))=false:=by simp;omega
 by_cases c2:24<b.certs.length
 ·have d2:decide ((24:Int)<(b.certs.length:Int))=true:=by simp;omega
  have:=rerr 3 (ZiO (by simp[Bk.big,c2])) (by omega)
  simp[-getElem?_pos,-List.reduceReplicate,-decide_eq_true_eq,-decide_eq_false_iff_not,L38,Bk.pv,itsP,ctsP,d1,d2];exact⟨[],by simpa[retB,Zau]using this⟩
 have d2:decide ((24:Int)<(b.certs.length:Int))=false:=by simp;omega
 have hbig:b.big=false:=by simp[Bk.big];omega
 simp[-getElem?_pos,-List.reduceReplicate,-decide_eq_true_eq,-decide_eq_false_iff_not,L38,Bk.pv,itsP,ctsP,d1,d2];refine Zaa (k:=4) (fs:=[]) (xs:=[itsP b.items,.fn 81 [] []]) (cs:=[]) rfl rfl a1 rfl ?_;cases e1:b.items.all It.okB
 ·have:=rerr 1 (ZiP hbig (by simp only[Bk.bad,e1];rfl)) (by omega)
  simp[-getElem?_pos,-List.reduceReplicate];exact⟨[],by simpa[retB,Zau]using this⟩
 simp[-getElem?_pos,-List.reduceReplicate];refine Zaa (k:=4) (fs:=[]) (xs:=[ctsP b.certs,.fn 83 [b.pv] []]) (cs:=[]) rfl rfl a2 rfl ?_;cases e2:b.certs.all b.Zvv
 ·have:=rerr 1 (ZiP hbig (by simp only[Bk.bad,e1,e2];rfl)) (by omega)
  simp[-getElem?_pos,-List.reduceReplicate];exact⟨[],by simpa[retB,Zau]using this⟩
 have hbad:b.bad=false:=by simp only[Bk.bad,e1,e2];rfl
 simp[-getElem?_pos,-List.reduceReplicate,Zlu,Zlu,Zdl,ZaE,Zq5];by_cases hne:b.certs=[]
 ·have hn0:b.nums=[]:=by unfold Bk.nums;rw[hne];simp
  have htw:b.ZvI=false:=by unfold Bk.ZvI;rw[hne];rfl
  have hs:b.same b.certs.length:=by intro c hc';rw[hne]at hc';simp at hc'
  have hcm:=ZoG (Bk.Zvx.1 (Ze0 hbig hbad htw)) hs;have hes:entC (b.fst b.certs.length)=[]:=by unfold Bk.fst;rw[hne];rfl
  rw[hes]at hcm;have hl0:b.certs.length=0:=by rw[hne];rfl
  have rok:R (.tup [.ptr (.ret 0) 0,.pv (.int .i64 0)]) [(.ret 0,.cells (wkC b (.ret 1) bad0)),(.ret 1,.map [])]:=by
   rw[←hR];exact .inr ⟨Ze0 hbig hbad htw,_,hcm,rfl,rfl⟩
  refine Zaf (fun n τ=>n=0∧τ=⟨[(1,.ptr (.loc 1 0) 0),(4,.ptr (.loc 38 0) 0),(41,.pv (.int .i64 0)),(42,.pv (.int .i64 0))],
   [(.loc 38 0,.cells (.pv (itsP b.items)::.pv (ctsP b.certs)::.mp (.loc 36 0)::.pv (.emp (some true))::bad0)),(.loc 36 0,.map []),(.loc 1 0,.cells b.cells)]⟩) ⟨0,_,Sub.mk (by simp[hl0]) (by simp[Bk.cells,itsP,ctsP,ZaE,Zdl]),rfl,rfl⟩ ?_
  rintro J hJ n τ ⟨rfl,rfl⟩;clear hJ;simp[-getElem?_pos];refine cG [.emp (some true)] Zsm ?_;simp[-getElem?_pos];refine Zaf (fun n τ=>n=0∧τ=⟨[(1,.ptr (.loc 1 0) 0),(4,.ptr (.loc 38 0) 0),(92,.pv (.int .i64 0)),(93,.pv (.int .i64 0))],[(.loc 38 0,.cells (wkC b (.loc 36 0) bad0)),(.loc 36 0,.map []),(.loc 1 0,.cells b.cells)]⟩) ⟨0,_,Sub.trans' (Sub.mk (by simp) (by simp[wkC,ZaE,Bk.cells,hn0])) (Sub.wkC (s:=.loc 38 0) (i:=3) (ax:=.pv (itsP b.items)::.pv (ctsP b.certs)::.mp (.loc 36 0)::.pv (.emp (some true))::bad0) (a:=.pv (.emp (some true))) (.pv (.lst false 1 [])) (by simp[ZaE]) rfl (wk_pv fun m v h=>Zbm h)),rfl,rfl⟩ ?_;rintro J hJ n τ ⟨rfl,rfl⟩;simp[-getElem?_pos,wkC,hn0];refine⟨[.loc 38 0,.loc 36 0],?_⟩;simp[retB,Zau,Zlv,Zlt];unfold wkC at rok;rw[hn0]at rok;exact rok
 refine Zaf (fun n τ=>∃k:Nat,k≤b.certs.length∧n=b.certs.length-k∧b.same k∧τ=rdK b k) ⟨b.certs.length,rdK b 0,Sub.trans' (Sub.mk (by simp[rdK,AS.vecC,ctsP]) (by simp[rdK,AS.vecC,Bk.cells,itsP,ctsP,Bk.fst,entC,mapI,ZaE,Zdl]))
  (vecC 79 3 1 (s:=.loc 38 0) (cs:=.pv (.lst false 4 (b.items.map It.pv))::.pv (.lst false 7 (b.certs.map Ct.pv))::.mp (.loc 36 0)::.pv (.emp (some true))::bad0) 3 (by simp[ZaE]) rfl (by decide)),0,Zx0 _,rfl,(fun c hc=>by cases hc),rfl⟩ ?_
 rintro J hJ n τ ⟨k,hk,rfl,hs,rfl⟩;by_cases hlt:k<b.certs.length
 ·obtain⟨c,hck⟩:∃c,b.certs[k]?=some c:=⟨b.certs[k],ZxL hlt⟩;have hg:(b.certs.map Ct.pv)[k]?=some (.agg [.int .i64 c.num,.int .i64 c.it,.int .i64 c.src,.int .i64 c.day,.int .i64 c.valid,.int .i64 c.diff.lo,.int .i64 c.diff.hi]):=by rw[ZxM,hck];rfl
  have hw:=wrapK (k:=k) (by omega);have hfv:=Zbk (f:=Ct.num) (g:=Ct.pv) (n:=c.num) (l:=b.fst k);have hko:Zbi kI (entC (b.fst k))=true:=ZbD;have hfl:=ZjJ (b:=b) k;have hmeas:b.certs.length-(k+1)<b.certs.length-k:=by omega
  have hfs:=ZdX hck;cases ho:(b.fst k).find? (fun o=>decide (o.num=c.num))with
  |some o=>
   rw[ho]at hfv;have hfv':findV (.int .i64 c.num) (entC (b.fst k))=some (.agg [.int .i64 o.num,.int .i64 o.it,.int .i64 o.src,.int .i64 o.day,.int .i64 o.valid,.int .i64 o.diff.lo,.int .i64 o.diff.hi]):=hfv;have heq:eqK (.agg [.int .i64 o.num,.int .i64 o.it,.int .i64 o.src,.int .i64 o.day,.int .i64 o.valid,.int .i64 o.diff.lo,.int .i64 o.diff.hi]) (.agg [.int .i64 c.num,.int .i64 c.it,.int .i64 c.src,.int .i64 c.day,.int .i64 c.valid,.int .i64 c.diff.lo,.int .i64 c.diff.hi])=decide (o=c):=ZuD;cases e:decide (o=c)
   ·rw[e]at heq;have h6:=rerr 6 (ZiN hbig hbad (Zmx (List.mem_of_mem_take (Zey k o (List.mem_of_find?_eq_some ho))) (ZxQ hck) (by simpa using List.find?_some ho) (by simpa using e))) (by omega);simp[-getElem?_pos,-List.getElem?_map,rdK,ctsP,hlt,hg,hko,hfv',heq,-eqK,ZaE,Zdl,lookA];exact⟨[],by simpa[retB,Zau]using h6⟩
   ·rw[e]at heq;have hoc:o=c:=by simpa using e
    have hround:=hJ _ _ ⟨k+1,hlt,rfl,Zh4 hck hs (fun o' h'=>by rw[ho]at h';cases h';exact hoc),rfl⟩;unfold rdK at hround;rw[hfs]at hround;have hadd:addC (b.fst k) c=b.fst k:=by unfold addC;rw[ho]
    rw[hadd]at hround;simp[-getElem?_pos,-List.getElem?_map,rdK,ctsP,hlt,hg,hko,hfv',heq,-eqK,ZaE,Zdl,lookA,hw];exact⟨_,_,hmeas,Sub.mk (by simp[ctsP]) (by simp[ctsP,ZaE,Bk.cells]),hround⟩
  |none=>
   rw[ho]at hfv;have hfv':findV (.int .i64 c.num) (entC (b.fst k))=none:=hfv;have hround:=hJ _ _ ⟨k+1,hlt,rfl,Zh4 hck hs (fun o' h'=>by rw[ho]at h';cases h'),rfl⟩;have hadd:addC (b.fst k) c=b.fst k++[c]:=by unfold addC;rw[ho]
   have hput:putK (.int .i64 c.num) (.agg [.int .i64 c.num,.int .i64 c.it,.int .i64 c.src,.int .i64 c.day,.int .i64 c.valid,.int .i64 c.diff.lo,.int .i64 c.diff.hi]) (entC (b.fst k))=entC (b.fst k++[c]):=by
    unfold entC;rw[ZdL (fun x hx=>by rw[List.find?_eq_none]at ho;simpa using ho x hx)];unfold mapI;rw[Zyb];rfl
   have hnl:(((b.fst k).map fun c=>intP c.num)).length≤1000:=by rw[ZxS];omega
   have hk6:(b.fst k).length+1≤1000000:=by omega
   unfold rdK at hround;rw[hfs,hadd]at hround;simp[-getElem?_pos,-List.getElem?_map,rdK,ctsP,hlt,hg,hko,hfv',hput,ZaE,Zdl,lookA,hw,nble,nblt,hk6];exact⟨_,_,hmeas,Sub.mk (by simp[ctsP]) (by simp[ctsP,ZaE,intP,Bk.cells]),hround⟩
 ·have he:k=b.certs.length:=by omega
  subst he;clear hJ;have hbn:∀c∈b.certs,1≤c.num∧c.num≤999:=fun c hc'=>by
   have:=Zx7.1 e2 c hc'
   unfold Bk.Zvv inB at this;simp only[ZxO,decide_eq_true_eq]at this;omega
  obtain⟨hnums,hone⟩:=ZmX hbn hs;have hlenN:b.nums.length=(b.fst b.certs.length).length:=by rw[←hnums,ZcO,ZxS]
  have hle:=ZjJ (b:=b) b.certs.length;have hk0:Zbi kI (entC (b.fst b.certs.length))=true:=ZbD;have hget:=fun n=>Zqs hbn hone hs (n:=n)
  have hokc:b.ZvI=false→CMap b (entC (b.fst b.certs.length)):=fun h=>ZoG (Bk.Zvx.1 (Ze0 hbig hbad h)) hs
  have rok:b.ZvI=false→R (.tup [.ptr (.ret 0) 0,.pv (.int .i64 0)]) [(.ret 0,.cells (wkC b (.ret 1) bad0)),(.ret 1,.map (entC (b.fst b.certs.length)))]:=fun h=>by
   rw[←hR];exact .inr ⟨Ze0 hbig hbad h,_,hokc h,rfl,rfl⟩
  have hne':(b.fst b.certs.length).map Ct.num≠[]:=by
   intro e;rw[List.map_eq_nil_iff]at e;unfold Bk.same at hs;rw[Zye,e]at hs;cases hcs:b.certs with
   |nil=>exact hne hcs
   |cons x r=>have:=hs x (by rw[hcs];simp);cases this
  have hsort:=Zt4 3 ((b.fst b.certs.length).map Ct.num) hne' (by rw[ZxS];omega);rw[hnums,ZxS,List.map_map,←hlenN]at hsort;have hlen1:b.nums.length≤1000:=by omega
  have hsame:((b.fst b.certs.length).map fun c=>intP c.num)=(b.fst b.certs.length).map (intP∘Ct.num):=rfl;generalize hES:entC (b.fst b.certs.length)=es at *;have hlenF:(b.fst b.certs.length).length=b.nums.length:=hlenN.symm;simp[-getElem?_pos,-List.getElem?_map,rdK,ctsP,hES,hsame,hlenF];refine cM [.vec (.par 0) 1 0 b.nums.length] [(.par 0,.arr 3 1 ((b.fst b.certs.length).map (intP∘Ct.num)))] 87 [.loc 79 0] rfl hsort (by simp[outOk]) ?_;simp[-getElem?_pos,-List.getElem?_map,dropL,AS.Zvd,renL,outG,ZaE,Bk.cells];have htk:(b.nums.map intP).take b.nums.length=b.nums.map intP:=ZxW (by rw[ZxS];exact ZxR _);refine Zaf (fun n τ=>∃k:Nat,k≤b.nums.length∧n=b.nums.length-k∧(∀(i:Nat) (x y:Int),i+1<k→b.nums[i]?=some x→b.nums[i+1]?=some y→(b.get x).day≤(b.get y).day)∧τ=rdL b es k) ⟨b.nums.length,rdL b es 0,Sub.trans' (Sub.mk (by simp[rdL,frzsL,AS.frz,AV.frz,htk]) (by simp[rdL,frzsL,AS.frz,Box.frz,AV.frz,AV.frzL,Zq6,wkC,Bk.cells,ctsP,htk])) (Sub.frz [.loc 79 0]),0,Zx0 _,rfl,(fun i x y h=>by omega),rfl⟩ ?_;rintro J hJ n τ ⟨k,hk,rfl,hinv,rfl⟩;by_cases hlt:k<b.nums.length
  ·obtain⟨x,hx⟩:∃x,b.nums[k]?=some x:=⟨b.nums[k],ZxL hlt⟩;have hgx:(b.nums.map intP)[k]?=some (.int .i64 x):=by rw[ZxM,hx];rfl
   have hw:=wrapK (k:=k) (by omega);have hmeas:b.nums.length-(k+1)<b.nums.length-k:=by omega
   obtain⟨hfx,hxn,hxc⟩:=hget x (ZxQ hx);by_cases hz:k=0
   ·subst hz;have hround:=hJ _ _ ⟨1,hlt,rfl,(fun i x y h=>by omega),rfl⟩;have hw0:IntKind.i64.wrap 1=1:=rfl;simp[-getElem?_pos,-List.getElem?_map,rdL,wkC,hlt,hgx,hw0];exact⟨_,_,hmeas,Sub.mk (by simp[rdL]) (by simp[rdL,wkC,ZaE,Bk.cells]),hround⟩
   ·obtain⟨j,hj1⟩:∃j,j+1=k:=⟨k-1,by omega⟩;have hj:j<b.nums.length:=by omega
    obtain⟨y,hy⟩:∃y,b.nums[j]?=some y:=⟨b.nums[j],ZxL _⟩;have hgy:(b.nums.map intP)[j]?=some (.int .i64 y):=by rw[ZxM,hy];rfl
    obtain⟨hfy,hyn,hyc⟩:=hget y (ZxQ hy);have hw1:IntKind.i64.wrap ((k:Int)-1)=(j:Int):=by rw[wrap64 (by omega)];omega
    have hyx:y<x:=by
     have:=ZyE.1 (Zbd (b:=b)) j k hj hlt (by omega)
     rw[ZxL hj]at hy;rw[ZxL hlt]at hx;cases hy;cases hx;exact this
    have hpos:decide ((0:Int)<(k:Int))=true:=by simp;omega
    have hpos2:0<k:=by omega
    have hlt':decide ((k:Int)<(b.nums.length:Int))=true:=by simp;omega
    unfold Ct.pv at hfx hfy;cases hd:decide ((b.get x).day<(b.get y).day)
    ·have hround:=hJ _ _ ⟨k+1,hlt,rfl,(fun i x' y' h e1 e2=>by
      rcases ZyD.1 h with h|h
      ·exact hinv i x' y' h e1 e2
      ·have:i=j:=by omega
       subst this;rw[hj1]at e2;rw[hy]at e1;rw[hx]at e2;cases e1;cases e2;simp at hd;omega),rfl⟩
     simp[-getElem?_pos,-List.getElem?_map,-decide_eq_true_eq,-decide_eq_false_iff_not,rdL,wkC,hlt,hlt',hj,hgx,hgy,hw1,hpos,hpos2,hk0,hfx,hfy,lookA,hd,hw];exact⟨_,_,hmeas,Sub.mk (by simp[rdL]) (by simp[rdL,wkC,ZaE,Bk.cells]),hround⟩
    ·have h6:=rerr 6 (ZiN hbig hbad (Zmy hxc hyc (by rw[hxn,hyn];exact hyx) (by simpa using hd))) (by omega);simp[-getElem?_pos,-List.getElem?_map,-decide_eq_true_eq,-decide_eq_false_iff_not,rdL,wkC,hlt,hlt',hj,hgx,hgy,hw1,hpos,hpos2,hk0,hfx,hfy,lookA,hd,hw];exact⟨[],by simpa[retB,Zau]using h6⟩
  ·have he:k=b.nums.length:=by omega
   subst he;clear hJ;have htw:b.ZvI=false:=ZsT hone (fun x hx y hy e=>by
    have:=Ztv (fun n=>(b.get n).day) Zbd (fun i x y e1 e2=>hinv i x y (ZxN.1 e2).1 e1 e2) x.num ((Zfs hbn).2 ⟨x,hx,rfl⟩) y.num ((Zfs hbn).2 ⟨y,hy,rfl⟩) e
    rw[ZjI hone hx,ZjI hone hy]at this;exact this)
   have:=rok htw
   simp[-getElem?_pos,-List.getElem?_map,rdL,wkC];refine⟨[.loc 38 0,.loc 36 0],?_⟩;simp[retB,Zau,Zlv,Zlt];exact this
end
section
def Cr.sub (a b:Cr):Prop:=b.lo≤a.lo∧a.hi≤b.hi
theorem Zqo {α β:Type}{f:α→Cr}{g:β→Cr}{l:List α}{l':List β}{e:Cr}(h:∀y∈l',∃x∈l,(f x).sub (g y)):(l.foldl (fun r c=>r.cut (f c)) e).sub (l'.foldl (fun r c=>r.cut (g c)) e):=by
 obtain⟨a1,a2,_⟩:=ZgK f l e;obtain⟨_,_,b3⟩:=ZgK g l' e;obtain⟨c1,c2,_⟩:=ZgL f l e;obtain⟨_,_,d3⟩:=ZgL g l' e;constructor
 ·rcases b3 with b3|⟨y,hy,b3⟩
  ·omega
  ·obtain⟨x,hx,h1,_⟩:=h y hy
   have:=a2 x hx;omega
 ·rcases d3 with d3|⟨y,hy,d3⟩
  ·omega
  ·obtain⟨x,hx,_,h1⟩:=h y hy
   have:=c2 x hx;omega
theorem Cr.sub.wider {a b:Cr}(h:a.sub b)(n:Int):(a.wider n).sub (b.wider n):=by
 unfold Cr.sub at h ⊢;unfold Cr.wider Cr.plus;simp only;omega
theorem Cr.sub.plus {a b:Cr}(h:a.sub b)(d:Cr):(a.plus d).sub (b.plus d):=by
 unfold Cr.sub at h ⊢;unfold Cr.plus;simp only;omega
theorem Cr.sub.refl (a:Cr):a.sub a:=⟨Int.le_refl _,Int.le_refl _⟩
theorem Zdn {b:Bk}(hb:b.ok){c:Ct}(hc:c∈b.certs):∃n:Nat,c.num=n∧1≤n∧n<1000:=by
 have:=hb.ct c hc
 unfold Bk.Zvv inB at this;simp only[ZxO,decide_eq_true_eq]at this;exact⟨c.num.toNat,by omega,by omega,by omega⟩
theorem ZiE {b b':Bk}(hb:b.ok)(hb':b'.ok)(hi:∀c∈b.certs,b'.item c.src=b.item c.src)(hc:∀c∈b.certs,c∈b'.certs){bad bad':List Int}(hbad:∀x∈bad',x∈bad){x:Int}(hx:x∈b.held bad):x∈b'.held bad':=by
 have key:∀n:Nat,(n:Int)∈b.held bad→(n:Int)∈b'.held bad':=by
  intro n;induction n using Nat.strongRecOn with
  |_ n ih=>
  intro hx;obtain⟨c,hc1,hc2,hc3⟩:=(Zcc hb).1 hx;refine(Zcc hb').2 ⟨c,hc c hc1,hc2,?_⟩;unfold Bk.ZvY at hc3 ⊢;rw[ZxO,Zyk]at hc3 ⊢;refine⟨?_,?_⟩
  ·rcases hc3.1 with h|h
   ·left;rw[hi c hc1];exact h
   ·right;rw[Zya]at h ⊢;obtain⟨o,ho,h1⟩:=h;rw[ZxO,Zx4]at h1;refine⟨o,hc o ho,?_⟩;rw[ZxO,Zx4];refine⟨h1.1,?_⟩;have h2:o.num<c.num:=by have:=h1.1;unfold Zca at this;simp only[ZxO,decide_eq_true_eq]at this;exact this.1.2
    obtain⟨m,hm,_,_⟩:=Zdn hb ho;have h3:=h1.2;rw[hm]at h3 ⊢;exact ih m (by omega) h3
  ·have h:=hc3.2;rw[Bool.not_eq_true',Bool.eq_false_iff]at h ⊢;intro h';rw[Zx4]at h';exact h (Zx4.2 (hbad _ h'))
 obtain⟨c0,hc0,e0,_⟩:=(Zcc hb).1 hx;obtain⟨n,hn,_,_⟩:=Zdn hb hc0;have e:x=n:=by omega
 rw[e]at hx ⊢;exact key n hx
theorem ZbQ {b:Bk}{held:List Int}{S:Int→Cr}{item day below:Int}(h:(b.item item).std=false):b.Zu2 held S item day below=(b.certs.filter fun c=>Bk.ofB item day below c&&held.contains c.num).foldl (fun r c=>r.cut ((S c.num).wider ((b.item item).drift*(day-c.day)))) ZcE:=by
 unfold Bk.Zu2;rw[if_neg (by rw[h];simp)]
theorem Ziw {b b':Bk}{S S':Int→Cr}{h h':List Int}{item day below:Int}(hi:b'.item item=b.item item)(hc:∀c∈b.certs,c∈b'.certs)(hh:∀x∈h,x∈h')(hS:∀c∈b.certs,c.num<below→c.num∈h→(S' c.num).sub (S c.num)):(b'.Zu2 h' S' item day below).sub (b.Zu2 h S item day below):=by
 cases hs:(b.item item).std with
 |true=>
  unfold Bk.Zu2;rw[hi,if_pos hs,if_pos hs];exact Cr.sub.refl _
 |false=>
  rw[ZbQ hs,ZbQ (by rw[hi];exact hs),hi];refine Zqo fun c hcc=>?_
  rw[ZxX,ZxO,Zx4]at hcc;obtain⟨h1,h2,h3⟩:=hcc;have hlt:c.num<below:=by unfold Bk.ofB at h2;simp only[ZxO,decide_eq_true_eq]at h2;exact h2.1
  refine⟨c,?_,(hS c h1 hlt h3).wider _⟩;rw[ZxX,ZxO,Zx4];exact⟨hc c h1,h2,hh _ h3⟩
theorem ZmG {b b':Bk}(hb:b.ok)(hb':b'.ok)(hi:∀c∈b.certs,b'.item c.src=b.item c.src)(hc:∀c∈b.certs,c∈b'.certs):∀c∈b.certs,c.num∈b.held []→(b'.span (b'.held []) c.num).sub (b.span (b.held []) c.num):=by
 have hh:∀x∈b.held [],x∈b'.held []:=fun x hx=>ZiE hb hb' hi hc (fun _ h=>h) hx
 have key:∀n:Nat,∀c∈b.certs,c.num=n→c.num∈b.held []→(b'.span (b'.held []) c.num).sub (b.span (b.held []) c.num):=by
  intro n;induction n using Nat.strongRecOn with
  |_ n ih=>
  intro c hcc hn hx;obtain⟨n',hn',h1,h2⟩:=Zdn hb hcc
  have:n'=n:=by omega
  subst this;have g1:b.get (n':Int)=c:=by rw[←hn];exact ZcK hb hcc
  have g2:b'.get (n':Int)=c:=by rw[←hn];exact ZcK hb' (hc c hcc)
  rw[hn]at hx ⊢;rw[Zg5 h2,Zg5 h2,if_pos (Zx4.2 hx),if_pos (Zx4.2 (hh _ hx)),g1,g2];refine Cr.sub.plus (Ziw (hi c hcc) hc hh fun o ho hlt hox=>?_) _;obtain⟨m,hm,_,_⟩:=Zdn hb ho;exact ih m (by omega) o ho hm hox
 intro c hcc;obtain⟨n,hn,_,_⟩:=Zdn hb hcc;exact key n c hcc hn
def Cr.bdd (r:Cr)(B:Int):Prop:=-B≤r.lo∧r.lo≤B∧-B≤r.hi∧r.hi≤B
theorem Zqp {α:Type}{f:α→Cr}{l:List α}{B:Int}(hB:B<1099511627776)(hne:l≠[])(h:∀x∈l,(f x).bdd B):(l.foldl (fun r c=>r.cut (f c)) ZcE).bdd B:=by
 obtain⟨x0,hx0⟩:=List.exists_mem_of_ne_nil l hne;obtain⟨_,a2,a3⟩:=ZgK f l ZcE;obtain⟨_,c2,c3⟩:=ZgL f l ZcE;have h0:=h x0 hx0;have h1:=a2 x0 hx0;have h2:=c2 x0 hx0;have e1:ZcE.lo = -1099511627776:=rfl;have e2:ZcE.hi=1099511627776:=rfl;unfold Cr.bdd at h0 ⊢;refine⟨by omega,?_,?_,by omega⟩
 ·rcases a3 with a3|⟨y,hy,a3⟩
  ·omega
  ·have:=h y hy;unfold Cr.bdd at this;omega
 ·rcases c3 with c3|⟨y,hy,c3⟩
  ·omega
  ·have:=h y hy;unfold Cr.bdd at this;omega
theorem Za1 {b:Bk}(hb:b.ok){c:Ct}(hc:c∈b.certs):1≤c.num∧c.num≤999∧0≤c.it∧c.it<b.items.length∧(b.item c.it).std=false∧0≤c.src∧c.src<b.items.length∧c.src≠c.it∧0≤c.day∧c.day≤1000∧0≤c.valid∧c.valid≤1000∧c.diff.bdd 100000∧c.diff.lo≤c.diff.hi:=by
 have:=hb.ct c hc
 unfold Bk.Zvv inB Bk.Zvb inB Cr.okB valB inB at this;simp only[ZxO,decide_eq_true_eq,Bool.not_eq_true']at this;unfold Cr.bdd;obtain⟨⟨⟨⟨⟨⟨⟨a1,a2⟩,a3⟩,a4⟩,a5⟩,a6⟩,a7⟩,a8⟩:=this;refine⟨a1.1,a1.2,a2.1,by omega,a3,a4.1,by omega,a5,a6.1,a6.2,a7.1,a7.2,?_,a8.2⟩;omega
theorem Zk4 {b:Bk}(hb:b.ok){i:Int}(h0:0≤i)(h1:i<b.items.length):0≤(b.item i).drift∧(b.item i).drift≤100∧(b.item i).val.bdd 100000∧(b.item i).val.lo≤(b.item i).val.hi:=by
 have hm:b.item i∈b.items:=by
  unfold Bk.item;rw[ZxL (by omega)];exact Zyh _
 have:=hb.it _ hm
 unfold It.okB inB Cr.okB valB inB at this;simp only[ZxO,decide_eq_true_eq]at this;unfold Cr.bdd;omega
theorem Zla {b:Bk}(hb:b.ok){c:Ct}(hc:c∈b.certs){bad:List Int}(h:c.num∈b.held bad):(b.item c.src).std=true∨∃o∈b.certs,Bk.ofB c.src c.day c.num o=true∧o.num∈b.held bad:=by
 obtain⟨c',hc',e,h1⟩:=(Zcc hb).1 h
 have:c'=c:=hb.one c' hc' c hc e
 subst this;unfold Bk.ZvY at h1;rw[ZxO,Zyk]at h1;rcases h1.1 with h2|h2
 ·exact .inl h2
 ·rw[Zya]at h2;obtain⟨o,ho,h3⟩:=h2;rw[ZxO,Zx4,ZeS]at h3;exact .inr ⟨o,ho,h3.1,h3.2⟩
theorem Zms {r:Cr}{A B d:Int}(h:r.bdd A)(h0:0≤d)(h1:A+d≤B):(r.wider d).bdd B:=by
 unfold Cr.bdd at h ⊢;unfold Cr.wider Cr.plus;simp only;omega
theorem ZrN {b:Bk}(hb:b.ok){o:Ct}(ho:o∈b.certs){day:Int}(hon:o.on day=true):0≤(b.item o.it).drift*(day-o.day)∧(b.item o.it).drift*(day-o.day)≤100000:=by
 have h1:=Za1 hb ho;have h2:=Zk4 hb h1.2.2.1 h1.2.2.2.1;unfold Ct.on inB at hon;simp only[ZxO,decide_eq_true_eq]at hon;have h3:0≤day-o.day:=by omega
 have h4:day-o.day≤1000:=by omega
 exact⟨Int.mul_nonneg h2.1 h3,Int.le_trans (Int.mul_le_mul h2.2.1 h4 h3 (by omega)) (by omega)⟩
theorem Zhy {b:Bk}(hb:b.ok){held:List Int}{S:Int→Cr}{item day below:Int}{A:Int}(h0:0≤item)(h1:item<b.items.length)(hA:100000≤A)(hA2:A+100000<1099511627776)(hex:(b.item item).std=true∨∃o∈b.certs,Bk.ofB item day below o=true∧o.num∈held)(hS:∀c∈b.certs,c.num<below→c.num∈held→(S c.num).bdd A):(b.Zu2 held S item day below).bdd (A+100000):=by
 cases hs:(b.item item).std with
 |true=>
  unfold Bk.Zu2;rw[if_pos hs]
  have:=(Zk4 hb h0 h1).2.2.1
  unfold Cr.bdd at this ⊢;omega
 |false=>
  rw[ZbQ hs];obtain⟨o,ho,h2,h3⟩:∃o∈b.certs,Bk.ofB item day below o=true∧o.num∈held:=by
   rcases hex with h|h
   ·rw[hs]at h;cases h
   ·exact h
  refine Zqp (by omega) (fun e=>?_) fun c hc=>?_
  ·have:o∈(b.certs.filter fun c=>Bk.ofB item day below c&&held.contains c.num):=by
    rw[ZxX,ZxO,Zx4];exact⟨ho,h2,h3⟩
   rw[e]at this;cases this
  ·rw[ZxX,ZxO,Zx4]at hc;obtain⟨k1,k2,k3⟩:=hc;unfold Bk.ofB at k2;simp only[ZxO,decide_eq_true_eq]at k2;have hf:=ZrN hb k1 k2.2.2;rw[k2.2.1]at hf;exact Zms (hS c k1 k2.1 k3) hf.1 (by omega)
theorem ZeQ {b:Bk}(hb:b.ok):∀c∈b.certs,c.num∈b.held []→(b.span (b.held []) c.num).bdd (300000*(c.num+1)):=by
 have key:∀n:Nat,∀c∈b.certs,c.num=n→c.num∈b.held []→(b.span (b.held []) c.num).bdd (300000*(c.num+1)):=by
  intro n;induction n using Nat.strongRecOn with
  |_ n ih=>
  intro c hcc hn hx;obtain⟨n',hn',h1,h2⟩:=Zdn hb hcc
  have:n'=n:=by omega
  subst this;have g1:b.get (n':Int)=c:=by rw[←hn];exact ZcK hb hcc
  have hcb:=Za1 hb hcc;have hsr:=Zla hb hcc hx;rw[hn]at hx hsr ⊢;rw[Zg5 h2,if_pos (Zx4.2 hx),g1];have hi:=Zhy hb (S:=b.span (b.held [])) (day:=c.day) (below:=(n':Int)) (A:=300000*(n':Int)) hcb.2.2.2.2.2.1 hcb.2.2.2.2.2.2.1 (by omega) (by omega) hsr fun o ho hlt hox=>by
   obtain⟨m,hm,_,_⟩:=Zdn hb ho
   have:=ih m (by omega) o ho hm hox
   unfold Cr.bdd at this ⊢;omega
  have hd:=hcb.2.2.2.2.2.2.2.2.2.2.2.2.1;unfold Cr.bdd at hi hd ⊢;unfold Cr.plus;simp only;omega
 intro c hcc;obtain⟨n,hn,_,_⟩:=Zdn hb hcc;exact key n c hcc hn
structure Cons (P:Program) where
 m:Nat
 S:Type
 X:S→List Box
 step:S→PV→S×Bool
 good:PV→Prop
 live:S→Prop
 m0:0<m
 len:∀s,(X s).length=m
 cl:∀s,Zb6 m (X s)
 yields:∀s x,live s→good x→Zck P 0 [.pv x] (laid 0 (X s)) (fun r B=>r=.pv (.bool (step s x).2)∧B=laid 0 (X (step s x).1))
 goes:∀s x,live s→good x→(step s x).2=true→live (step s x).1
def Cons.run {P:Program}(C:Cons P):C.S→List PV→C.S×Bool
 |s,[]=>(s,true)
 |s,x::r=>match(C.step s x).2 with
  |true=>C.run (C.step s x).1 r
  |false=>((C.step s x).1,false)
theorem Cons.Zwt {P:Program}{C:Cons P}:∀(a b:List PV) (s:C.S),C.run s (a++b)=match(C.run s a).2 with
  |true=>C.run (C.run s a).1 b
  |false=>C.run s a
 |[],b,s=>rfl
 |x::a,b,s=>by
  rw[List.cons_append,Cons.run,Cons.run];split
  ·exact Cons.Zwt a b _
  ·rfl
theorem Cons.Zw7 {P:Program}{C:Cons P}(s:C.S)(x:PV):C.run s [x]=C.step s x:=by
 rw[Cons.run];split
 ·rename_i h;rw[Cons.run];exact Prod.ext rfl h.symm
 ·rename_i h;exact Prod.ext rfl h.symm
theorem Zdx {P:Program}{C:Cons P}{c:C.S}{k:Nat}:((laid 0 (C.X c)).filter fun p=>!p.1.Zu1 k).map (fun p=>(p.1,p.2.Zu0 k))=laid 0 (C.X c):=Zev (C.cl c)
theorem ZfI {P:Program}{C:Cons P}{c:C.S}:(laid 0 (C.X c)).filter (fun p=>!p.1.lt C.m)=[]:=Zhw (by rw[C.len];omega)
theorem Zbg {tm:List (Nat×AV)}{X:List Box}:sees ⟨tm,laid 0 X⟩ X:=by
 have:=Zb0 (tm:=tm) (X:=X) (r:=[])
 rwa [Zx9]at this
def badZ (l:List Int):List AV:=(List.range 1000).map fun i:Nat=>.pv (.bool (l.contains (i:Int)))
theorem ZhP {l:List Int}{n:Nat}(h:n<1000):(badZ l)[n]?=some (.pv (.bool (l.contains (n:Int)))):=by
 unfold badZ;rw[ZxM,List.getElem?_range h];rfl
theorem Zbz:bad0=badZ []:=by
 refine List.ext_getElem? (fun n=>?_);unfold bad0 badZ;rw[ZxM];by_cases h:n<1000
 ·rw[List.getElem?_range h,List.getElem?_replicate,if_pos h];rfl
 ·rw[List.getElem?_replicate,if_neg h,List.getElem?_eq_none (by rw[List.length_range];omega)];rfl
theorem Zq4 {l:List Int}{n:Nat}(h:n<1000):(badZ l).set n (.pv (.bool true))=badZ (l++[(n:Int)]):=by
 refine List.ext_getElem? (fun k=>?_);by_cases hk:k<1000
 ·rw[List.getElem?_set,ZhP hk,ZhP hk];by_cases e:n=k
  ·subst e;rw[if_pos rfl,if_pos (by unfold badZ;rw[ZxS,List.length_range];exact h)];simp
  ·rw[if_neg e];congr 3;rw[Zyr,Zx4,Zx4,Zyp];constructor
   ·exact .inl
   ·rintro(h|h)
    ·exact h
    ·simp at h;omega
 ·rw[List.getElem?_eq_none (by unfold badZ;simp;omega),List.getElem?_eq_none (by unfold badZ;simp;omega)]
theorem ZhO {l:List Int}:(badZ l).length=1000:=by unfold badZ;simp
theorem Zfx {α:Type}{f:α→PV}{d:Nat}:∀l:List α,AV.ZvL d (l.map fun x=>.pv (f x))=false
 |[]=>rfl
 |x::l=>by rw[ZxZ];simp only[AV.ZvL,AV.has,Zfx l];rfl
theorem Zfy {α:Type}{f:α→PV}{q:Site→Bool}:∀l:List α,AV.Zu4 q (l.map fun x=>.pv (f x))=true
 |[]=>rfl
 |x::l=>by rw[ZxZ];simp only[AV.Zu4,AV.Zu3,Zfy l];rfl
theorem Zfv {α:Type}{f:α→PV}{d:Nat}(l:List α):(l.map fun x=>AV.pv (f x)).map (AV.Zu0 d)=l.map fun x=>.pv (f x):=by
 rw[List.map_map];rfl
theorem Zfw {α:Type}{f:α→PV}{g:Site→Site}:∀l:List α,AV.Zu9 g (l.map fun x=>.pv (f x))=l.map fun x=>.pv (f x)
 |[]=>rfl
 |x::l=>by rw[ZxZ];simp only[AV.Zu9,AV.map,Zfw l]
theorem Zax {l:List Int}(d:Nat):AV.ZvL d (badZ l)=false:=Zfx _
theorem Zav {l:List Int}(q:Site→Bool):AV.Zu4 q (badZ l)=true:=Zfy _
theorem Zal {l:List Int}(d:Nat):(badZ l).map (AV.Zu0 d)=badZ l:=Zfv _
theorem Zaw {l:List Int}(g:Site→Site):AV.Zu9 g (badZ l)=badZ l:=Zfw _
theorem ZsG {fz outs:List Site}{rs:List LRes}{R:AV→List (Site×Box)→Prop}{σ:AS}(h:retB outs rs R (frzL fz σ)):retWp rs R σ:=by
 obtain⟨l,h1,h2,h3,h4,h5⟩:=h;exact⟨fz,outs,l,h1,h2,h3,fun s hs b hb=>Zek h4 s hs b hb,h5⟩
theorem ZhL {P:Program}(fz outs:List Site){f:FuncId}{F:LFn}{args:List AV}{B:List (Site×Box)}{R:AV→List (Site×Box)→Prop}(hm:P.follows .mixedOrders=true)(hf:litF P f=some F)(hn:args.length≤F.nt)
  (h:awpS P F.code (finQ (fun σ=>retB outs F.res R (frzL fz σ))) ⟨initT 0 args,B⟩):Zai P f args B R:=ZaW hm hf hn (fun _ h=>ZsG h) (ZaZ h)
section
attribute [local simp] Box.Zu0 Site.Zu1
attribute [local simp] retFz frzL AS.frz AV.frz AV.frzL Box.frz AS.tidy AS.ZvF
theorem ZjX (b:Bk)(hi:b.items.length≤1000)(hc:b.certs.length≤1000):Gives Tryz.prog 215 [b.pv] (.int .i64 b.fault):=by
 have hr:=Zib b hi hc;refine cS L215 ?_;simp[-getElem?_pos,L215,Bk.pv];refine cL [.pv b.pv] [] 7 [] rfl hr ?_
 rintro r0 B0 (⟨h0,rfl,rfl⟩|⟨h0,es,hes,rfl,rfl⟩)
 ·refine⟨rfl,by simp,?_⟩;simp[-getElem?_pos,AV.map,AV.Zu9,outG,AS.Zvd,renL,dropL]
 ·refine⟨rfl,by simp[outOk,wkC,Box.Zu3,AV.Zu3,AV.Zu4,Zbz,Zav],?_⟩;simp[-getElem?_pos,AV.map,AV.Zu9,outG,AS.Zvd,renL,dropL,Box.ren,wkC,Zbz,Zaw,h0]
structure WAt (b:Bk)(bad:List Int)(es:List (PV×PV))(X:List Box)(jw jm:Nat):Prop where
 w:X[jw]?=some (.cells (wkC b (.par jm) (badZ bad)))
 m:X[jm]?=some (.map es)
def ofF (s:Site)(item day below:Int):AV:=.fn 124 [] [.ptr s 0,.pv (.ref [.int .i64 below]),.pv (.ref [.int .i64 item]),.pv (.ref [.int .i64 day])]
attribute [local simp] AS.exp expG Box.ren AV.map AV.Zu9 noRet Site.Zu6 Box.Zu3 AV.Zu3 AV.Zu4
theorem ZaQ {l:List Int}{s:Site}{n:Nat}{xs:List PV}:AV.frzL s n xs (badZ l)=badZ l:=by
 have:∀k:List Nat,AV.frzL s n xs (k.map fun i:Nat=>.pv (.bool (l.contains (i:Int))))=k.map fun i:Nat=>.pv (.bool (l.contains (i:Int))):=fun k=>by
  induction k with
  |nil=>rfl
  |cons x k ih=>rw[ZxZ];simp only[AV.frzL,AV.frz,ih]
 exact this _
def wkB (b:Bk)(bad:List Int)(es:List (PV×PV)):List Box:=[.cells (wkC b (.par 1) (badZ bad)),.map es]
theorem of_c (b:Bk)(bad:List Int)(es:List (PV×PV))(item day below:Int):Zai Tryz.prog 78 [.ptr (.par 0) 0,.pv (.int .i64 item),.pv (.int .i64 day),.pv (.int .i64 below)] (laid 0 (wkB b bad es)) (fun r B=>r=ofF (.ret 0) item day below∧B=(.ret 0,.cells [.ptr (.par 0) 0])::laid 0 (wkB b bad es)):=by
 refine ZhL [.loc 5 0,.loc 6 0,.loc 7 0] [.loc 4 0,.par 0,.par 1] mixed L78_ok (ZxK rfl) ?_;generalize hR:(fun(r:AV) (B:List (Site×Box))=>r=ofF (.ret 0) item day below∧B=(.ret 0,.cells [.ptr (.par 0) 0])::laid 0 (wkB b bad es))=R;simp[-getElem?_pos,L78,laid,wkB,wkC,unpvs,fnA,Zax,Zal,ZaQ];simp[retB,Zau,Zax,Zal,ZaQ,Zav,Zaw,Zyc];rw[←hR];refine⟨rfl,?_⟩;simp[laid,wkB,wkC]
end
attribute [local simp] Ziz Ziy Zix Zfm Zie Zif Zgl Zdx
attribute [local simp] AV.map AV.Zu9 noRet Site.Zu6 Box.Zu3 AV.Zu3 AV.Zu4 AS.Zvd
def ctsV (l:List Ct):List PV:=l.map Ct.pv
def Bk.ofK (b:Bk)(item day below:Int)(k:Nat):List Ct:=((b.nums.take k).map b.get).filter (Bk.ofB item day below)
theorem ZpR {b:Bk}{item day below:Int}{k:Nat}{n:Int}(h:b.nums[k]?=some n):b.ofK item day below (k+1)=b.ofK item day below k++(if Bk.ofB item day below (b.get n)=true then[b.get n]else[]):=by
 unfold Bk.ofK;rw[Zx6,h,Zyb,Zyw];congr 1;simp only[Option.toList,ZxZ,List.map_nil,Zyt,List.filter_nil]
theorem ZsU {b:Bk}{item day below:Int}(k:Nat):b.ofL item day below=b.ofK item day below k++((b.nums.drop k).map b.get).filter (Bk.ofB item day below):=by
 unfold Bk.ofK Bk.ofL;rw[←Zyw,←Zyb,List.take_append_drop]
theorem ZpS {b:Bk}{item day below:Int}:b.ofK item day below b.nums.length=b.ofL item day below:=by
 unfold Bk.ofK Bk.ofL;rw[Zye]
theorem Zdd {b:Bk}:b.nums.length≤1000:=by
 unfold Bk.nums;rw[ZxS];exact Zx5 (ZyB _ _) (by rw[List.length_range];exact ZxR _)
theorem ZfJ {X:List Box}{j:Nat}{b:Box}(h:X[j]?=some b):(laid 0 X).lookup (.par j)=some b:=by
 have:=Zhx X 0 j
 rw[Zyj]at this;rw[this,h]
theorem Ziv (C:Cons Tryz.prog)(b:Bk)(hb:b.ok)(bad:List Int)(es:List (PV×PV))(hes:CMap b es)(j0 jw jm:Nat)(hW:∀c,C.live c→WAt b bad es (C.X c) jw jm)(h0:∀c,C.live c→(C.X c)[j0]?=some (.cells [.ptr (.par jw) 0]))
  (item day below:Int) (c:C.S) (hc:C.live c) (hg:∀x∈b.ofL item day below,C.good x.pv):
  Zai Tryz.prog 124 [.yld (.par 0),.ptr (.par j0) 0,.pv (.ref [.int .i64 below]),.pv (.ref [.int .i64 item]),.pv (.ref [.int .i64 day])] (laid 0 (C.X c)) (fun r B=>r=.pv (.tup [])∧B=laid 0 (C.X (C.run c (ctsV (b.ofL item day below))).1)):=by
 have hlen:=Zdd (b:=b);refine Zae (parsN C.m) mixed L124_ok (ZxK rfl) ?_;generalize hR:(fun(r:AV) (B:List (Site×Box))=>r=.pv (.tup [])∧B=laid 0 (C.X (C.run c (ctsV (b.ofL item day below))).1))=R;have k0:=ZfJ (h0 c hc);have kw:=ZfJ (hW c hc).w;simp[-getElem?_pos,L124,k0,kw,wkC];refine Zaf (fun n τ=>∃(k:Nat) (c':C.S),k≤b.nums.length∧n=b.nums.length-k∧C.run c (ctsV (b.ofK item day below k))=(c',true)∧C.live c'∧τ=⟨[(0,.yld (.par 0)),(1,.ptr (.par j0) 0),(2,.pv (.ref [.int .i64 below])),(3,.pv (.ref [.int .i64 item])),(4,.pv (.ref [.int .i64 day])),(12,.pv (.lst false 1 (b.nums.map intP))),(13,.pv (.int .i64 b.nums.length)),(14,.pv (.int .i64 k))],laid 0 (C.X c')⟩)
  ⟨b.nums.length,⟨[(0,.yld (.par 0)),(1,.ptr (.par j0) 0),(2,.pv (.ref [.int .i64 below])),(3,.pv (.ref [.int .i64 item])),(4,.pv (.ref [.int .i64 day])),(12,.pv (.lst false 1 (b.nums.map intP))),(13,.pv (.int .i64 b.nums.length)),(14,.pv (.int .i64 0))],laid 0 (C.X c)⟩,Sub.mk (by simp) (ZcM Zbg),0,c,Zx0 _,rfl,by simp[Bk.ofK,ctsV,Cons.run],hc,rfl⟩ ?_
 rintro J hJ n τ ⟨k,c',hk,rfl,hrun,hlive,rfl⟩;have k0:=ZfJ (h0 c' hlive);have kw:=ZfJ (hW c' hlive).w;have km:=ZfJ (hW c' hlive).m;unfold wkC at kw;by_cases hlt:k<b.nums.length
 ·obtain⟨x,hx⟩:∃x,b.nums[k]?=some x:=⟨b.nums[k],ZxL hlt⟩;have hxm:=ZxQ hx;have hgx:(b.nums.map intP)[k]?=some (.int .i64 x):=by rw[ZxM,hx];rfl
  have hw:=wrapK (k:=k) (by omega);have hmeas:b.nums.length-(k+1)<b.nums.length-k:=by omega
  obtain⟨hcm,hcn⟩:=Zbf hb hxm;have hfx:=hes.f x;rw[if_pos hxm]at hfx;have hko:=hes.k;have hnx:=ZpR (item:=item) (day:=day) (below:=below) hx;have hbd:=Za1 hb hcm;have hon:=con_c (b.get x) day (by rw[wrap64 (by omega)]);have hin:Bk.ofB item day below (b.get x)=true→b.get x∈b.ofL item day below:=fun h=>(ZbG hb).2 ⟨hcm,h⟩
  have hskip:Bk.ofB item day below (b.get x)=false→J (b.nums.length-(k+1)) ⟨[(0,.yld (.par 0)),(1,.ptr (.par j0) 0),(2,.pv (.ref [.int .i64 below])),(3,.pv (.ref [.int .i64 item])),(4,.pv (.ref [.int .i64 day])),(12,.pv (.lst false 1 (b.nums.map intP))),(13,.pv (.int .i64 b.nums.length)),(14,.pv (.int .i64 (k+1:Nat)))],laid 0 (C.X c')⟩:=fun h=>by
   rw[if_neg (by simp[h]),Zx9]at hnx;exact hJ _ _ ⟨k+1,c',hlt,rfl,by rw[hnx];exact hrun,hlive,rfl⟩
  have hB:Bk.ofB item day below (b.get x)=(decide (x<below)&&(decide ((b.get x).it=item)&&(b.get x).on day)):=by unfold Bk.ofB;rw[hcn]
  generalize b.get x=y at *;obtain⟨yn,yi,ys,yd,yv,⟨yl,yh⟩⟩:=y;simp only at hcn;subst hcn;unfold Ct.pv at hfx hon;simp only at hB;cases e1:decide (yn<below)
  ·rw[e1,Bool.false_and]at hB;simp[-getElem?_pos,-List.getElem?_map,-decide_eq_true_eq,-decide_eq_false_iff_not,hlt,hgx,k0,kw,km,hko,hfx,lookA,e1,hw];exact⟨_,_,hmeas,Sub.mk (by simp) (ZcM (by repeat (first|exact Zbg|exact Zb0|refine Zct rfl ?_))),hskip hB⟩
  rw[e1,Bool.true_and]at hB;cases e2:decide (yi=item)
  ·rw[e2,Bool.false_and]at hB;simp[-getElem?_pos,-List.getElem?_map,-decide_eq_true_eq,-decide_eq_false_iff_not,hlt,hgx,k0,kw,km,hko,hfx,lookA,e1,e2,hw];exact⟨_,_,hmeas,Sub.mk (by simp) (ZcM (by repeat (first|exact Zbg|exact Zb0|refine Zct rfl ?_))),hskip hB⟩
  rw[e2,Bool.true_and]at hB;simp[-getElem?_pos,-List.getElem?_map,-decide_eq_true_eq,-decide_eq_false_iff_not,hlt,hgx,k0,kw,km,hko,hfx,lookA,e1,e2,hw];refine cG [.agg [.int .i64 yn,.int .i64 yi,.int .i64 ys,.int .i64 yd,.int .i64 yv,.int .i64 yl,.int .i64 yh],.int .i64 day] hon ?_;cases e3:Ct.on ⟨yn,yi,ys,yd,yv,⟨yl,yh⟩⟩ day
  ·rw[e3]at hB;simp[-getElem?_pos,-List.getElem?_map,-decide_eq_true_eq,-decide_eq_false_iff_not,hw];exact⟨_,_,hmeas,Sub.mk (by simp) (ZcM (by repeat (first|exact Zbg|exact Zb0|refine Zct rfl ?_))),hskip hB⟩
  rw[e3]at hB;have hgood:=hg _ (hin hB);rw[if_pos hB]at hnx;simp[-getElem?_pos,-List.getElem?_map,-decide_eq_true_eq,-decide_eq_false_iff_not];refine ZlB 41 C.m (C.X c') rfl C.m0 (C.len c') (by repeat (first|exact Zbg|exact Zb0|refine Zct rfl ?_)) (C.cl c') rfl (C.yields c' (Ct.pv ⟨yn,yi,ys,yd,yv,⟨yl,yh⟩⟩) hlive hgood) ?_;rintro r B ⟨rfl,rfl⟩;refine⟨C.X (C.step c' (Ct.pv ⟨yn,yi,ys,yd,yv,⟨yl,yh⟩⟩)).1,rfl,C.len _,C.cl _,rfl,?_⟩;have hstep:C.run c (ctsV (b.ofK item day below (k+1)))=C.step c' (Ct.pv ⟨yn,yi,ys,yd,yv,⟨yl,yh⟩⟩):=by
   rw[hnx,ctsV,Zyb,Cons.Zwt];rw[show List.map Ct.pv (b.ofK item day below k)=ctsV (b.ofK item day below k) from rfl,hrun];exact Cons.Zw7 c' _
  cases hs:(C.step c' (Ct.pv ⟨yn,yi,ys,yd,yv,⟨yl,yh⟩⟩)).2
  ·simp[-getElem?_pos,-List.getElem?_map,ZfI];refine Zh7 (L:=C.X (C.step c' (Ct.pv ⟨yn,yi,ys,yd,yv,⟨yl,yh⟩⟩)).1) rfl rfl (C.len _) (by repeat (first|exact Zbg|exact Zb0|refine Zct rfl ?_)) (C.cl _) ?_;rw[←hR];refine⟨rfl,?_⟩;have hall:C.run c (ctsV (b.ofL item day below))=C.step c' (Ct.pv ⟨yn,yi,ys,yd,yv,⟨yl,yh⟩⟩):=by
    rw[ZsU (k+1),ctsV,Zyb,Cons.Zwt];rw[show List.map Ct.pv (b.ofK item day below (k+1))=ctsV (b.ofK item day below (k+1)) from rfl,hstep,hs]
   rw[hall]
  ·have hround:=hJ _ _ ⟨k+1,(C.step c' (Ct.pv ⟨yn,yi,ys,yd,yv,⟨yl,yh⟩⟩)).1,hlt,rfl,by rw[hstep];exact Prod.ext rfl hs,C.goes _ _ hlive hgood hs,rfl⟩;simp[-getElem?_pos,-List.getElem?_map,ZfI,hw];exact⟨_,_,hmeas,Sub.mk (by simp) (ZcM (by repeat (first|exact Zbg|exact Zb0|refine Zct rfl ?_))),hround⟩
 ·have he:k=b.nums.length:=by omega
  subst he;simp[-getElem?_pos,-List.getElem?_map];refine Zh7 (L:=C.X c') rfl rfl (C.len _) Zbg (C.cl _) ?_;rw[←hR];exact⟨rfl,by rw[ZpS]at hrun;rw[hrun]⟩
end
end Go.Proofs.YtfpmaennjlggeaaGreatDoor
