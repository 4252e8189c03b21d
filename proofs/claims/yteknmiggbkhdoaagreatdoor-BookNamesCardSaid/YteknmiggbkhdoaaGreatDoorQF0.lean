/- The registrar's book: what the statement needs, joined and shortened by program. -/
import Derived.Test.YteknmiggbkhdoaaGreatDoorProg
import Derived.Shelf.Strings.Repeat
import Derived.Test.YteknmiggbkhdoaaGreatDoorCards
import Derived.Test.YteknmiggbkhdoaaGreatDoorTie
import Derived.SevenTiedAt
import Derived.Test.YteknmiggbkhdoaaGreatDoorP0
import Derived.Test.YteknmiggbkhdoaaGreatDoorP1
import Derived.Test.YteknmiggbkhdoaaGreatDoorP2
import Derived.Test.YteknmiggbkhdoaaGreatDoorP3
import Derived.Test.YteknmiggbkhdoaaGreatDoorP4
set_option linter.unusedSimpArgs false
set_option linter.unusedVariables false
namespace Go.Proofs.YteknmiggbkhdoaaGreatDoor
section
open Go.RowKit
set_option maxRecDepth 100000
noncomputable section
def L28:LFn :=⟨40,S [O 2 (.mov (.c E0)),OM 3 0] (.seq (S [Om 10 0,Ok 11 31 [.t 10],Om 4 11] (S [Om 12 4,Oc 13 .neq 12 0] (Cd 13 (S [Om 14 4,O 2 (.mov (.c E0)),Om 3 14] .ret) .skip))) (S [Om 16 0,Ok 17 35 [.t 16],Om 15 17,Oe 18 15 0,Oe 19 15 1,Om 5 18,Om 6 19] (S [O 7 (.mov (.c E0))] (.seq (S [Om 20 5,Oz 21 20,Oa 22 0 21,Oa 23 2 22,Ol 24 1 23,On 25 24,OM 26 0] (.block 0 (.loop (S [Ob 27 .lss 26 25] (.seq (Ce 27 0) (.seq (.block 1 (S [Oi 28 4 24 26,Ot 29 4 28,O 9 (.alloc (.agg [Z0,Z0,Z0,.bool false])),Ns 4 9 29] (S [Om 30 5,Ot 31 4 9,Ok 32 54 [.t 30,.t 31]] (Cd 32 (.region [Om 33 7,Oa 34 0 9,Ol 35 1 34,O 36 (.bslice 3 1 [.t 35]),O 37 (.app 3 1 8 (.t 33) (.t 36)),Om 7 37]) .skip)))) (.region [Oc 38 .add 26 1,Om 26 38]))))))) (S [Om 39 7,Om 2 39,OM 3 0] .ret))))),[.tm 2,.tm 3]⟩
end
end
section
open Go.RowKit
set_option maxRecDepth 100000
noncomputable section
def L8:LFn :=⟨160,S [O 0 (.mov Bf)] (S [Ok 16 24 [],Ok 17 23 [.t 16,I 2],Om 15 17,Oe 18 15 0,Oe 19 15 1,Om 1 18,Om 2 19] (S [O 21 (.call (C 26) [.c (.str ⟨#[97]⟩),I 201]),O 22 (.bslice 9 1 [.t 21]),Ok 23 25 [.t 22],Om 20 23,Oe 24 20 0,Oe 25 20 1,Oe 26 20 2,O 3 (.alloc (.agg [E0,E0,E0,E0,E0])),Ns 5 3 24,Om 4 25,Om 5 26] (S [O 28 (.mks 9 1 16 (.str ⟨#[]⟩) (I 51) (I 51)),Ok 29 27 [.t 28],Om 27 29,Oe 30 27 0,Oe 31 27 1,Om 6 30,Om 7 31] (S [Ok 32 24 [],O 33 (.bslice 9 1 [.c (.str ⟨#[116,101,115,116,32,55,32,50,32,50,48,32,54,48,48]⟩),.c (.str ⟨#[116,101,115,116,32,55,32,50,32,50,48,32,54,48,48]⟩),.c (.str ⟨#[112,97,115,115,32,55]⟩)]),O 34 (.app 9 1 16 (.t 32) (.t 33)),Om 8 34] (S [Om 36 8,Ok 37 28 [.t 36],Om 35 37,Oe 38 35 0,Oe 39 35 1,Om 9 38,Om 10 39] (S [Om 41 8,O 42 (.bslice 9 1 [.c (.str ⟨#[98,97,100,32,49]⟩)]),O 43 (.app 9 1 16 (.t 41) (.t 42)),Ok 44 28 [.t 43],Om 40 44,Oe 45 40 0,Oe 46 40 1,Om 11 45,Om 12 46] (S [Om 48 8,O 49 (.bslice 9 1 [.c (.str ⟨#[98,97,100,32,49]⟩),.c (.str ⟨#[114,117,110,32,49,50,32,48,32,49]⟩)]),O 50 (.app 9 1 16 (.t 48) (.t 49)),Ok 51 27 [.t 50],Om 47 51,Oe 52 47 0,Oe 53 47 1,Om 13 52,Om 14 53] (.seq (S [Om 54 2,Oc 55 .neq 54 7,Om 56 55,G 57 56 false (M 5),G 58 56 false (.bin false .neq (.t 57) (I 3)),O 59 (.pick (.t 56) Bt (.t 58)),Om 60 59,G 61 60 false (M 7),G 62 60 false (.bin false .neq (.t 61) (I 3)),O 63 (.pick (.t 60) Bt (.t 62)),Om 64 63,G 65 64 false (M 10),G 66 64 false (.bin false .neq (.t 65) (I 0)),O 67 (.pick (.t 64) Bt (.t 66)),Om 68 67,G 69 68 false (M 9),G 70 68 false (.len none (.t 69)),G 71 68 false (.bin false .neq (.t 70) (I 0)),O 72 (.pick (.t 68) Bt (.t 71)),Om 73 72,G 74 73 false (M 12),G 75 73 false (.bin false .neq (.t 74) (I 0)),O 76 (.pick (.t 73) Bt (.t 75)),Om 77 76,G 78 77 false (M 11),G 79 77 false (.bslice 3 1 [I 7]),G 80 77 false (.call (C 29) [.t 78,.t 79]),G 81 77 false (.not (.t 80)),O 82 (.pick (.t 77) Bt (.t 81)),Om 83 82,G 84 83 false (M 14),G 85 83 false (.bin false .neq (.t 84) (I 0)),O 86 (.pick (.t 83) Bt (.t 85)),Om 87 86,G 88 87 false (M 13),G 89 87 false (.x (.eqv true ⟨false,[.str]⟩ (.t 88) (.c (.str ⟨#[108,111,116,32,55,32,116,101,115,116,115,32,48,32,111,112,101,110,32,112,97,115,115,101,100,32,114,101,99,97,108,108,101,100,10,99,101,114,116,115,32,49,32,104,101,108,100,32,48,32,98,97,100,32,49,10,101,110,100,32,49,54,10]⟩)))),O 90 (.pick (.t 87) Bt (.t 89))] (Cd 90 (S [O 0 (.mov Bf)] .ret) .skip)) (S [O 91 (.call (C 30) [.c (.str ⟨#[112,97,115,115,32,55]⟩)]),Oc 92 .eql 91 8,Om 93 92,G 94 93 true (.call (C 30) [.c (.str ⟨#[112,97,115,115,32,56]⟩)]),G 95 93 true (.bin false .eql (.t 94) (I 7)),O 96 (.pick (.t 93) (.t 95) Bf),Om 97 96,G 98 97 true (.call (C 30) [.c (.str ⟨#[108,111,116,32,55,32,57,32,53,48,48]⟩)]),G 99 97 true (.bin false .eql (.t 98) (I 6)),O 100 (.pick (.t 97) (.t 99) Bf),Om 101 100,G 102 101 true (.call (C 30) [.c (.str ⟨#[108,111,116,32,56,32,51,32,53,48,48]⟩)]),G 103 101 true (.bin false .eql (.t 102) (I 2)),O 104 (.pick (.t 101) (.t 103) Bf),Om 105 104,G 106 105 true (.call (C 30) [.c (.str ⟨#[98,97,100,32,50]⟩)]),G 107 105 true (.bin false .eql (.t 106) (I 7)),O 108 (.pick (.t 105) (.t 107) Bf),Om 109 108,G 110 109 true (.call (C 30) [.c (.str ⟨#[99,101,114,116,32,49,32,50,32,48,32,49,48,32,49,48,48,32,45,49,32,49]⟩)]),G 111 109 true (.bin false .eql (.t 110) (I 6)),O 112 (.pick (.t 109) (.t 111) Bf),Om 113 112,G 114 113 true (.call (C 30) [.c (.str ⟨#[99,101,114,116,32,50,32,48,32,50,32,49,48,32,49,48,48,32,45,49,32,49]⟩)]),G 115 113 true (.bin false .eql (.t 114) (I 1)),O 116 (.pick (.t 113) (.t 115) Bf),Om 117 116,G 118 117 true (.call (C 30) [.c (.str ⟨#[99,101,114,116,32,50,32,51,32,48,32,57,32,49,48,48,32,45,49,32,49]⟩)]),G 119 117 true (.bin false .eql (.t 118) (I 6)),O 120 (.pick (.t 117) (.t 119) Bf),Om 121 120,G 122 121 true (.call (C 30) [.c (.str ⟨#[99,101,114,116,32,50,32,50,32,48,32,49,48,32,49,48,48,32,51,32,52]⟩)]),G 123 121 true (.bin false .eql (.t 122) (I 9)),O 124 (.pick (.t 121) (.t 123) Bf),Om 125 124,G 126 125 true (.call (C 30) [.c (.str ⟨#[116,101,115,116,32,55,32,54,32,50,48,32,54,48,48]⟩)]),G 127 125 true (.bin false .eql (.t 126) (I 2)),O 128 (.pick (.t 125) (.t 127) Bf),Om 129 128,G 130 129 true (.call (C 30) [.c (.str ⟨#[116,101,115,116,32,56,32,50,32,50,48,32,54,48,48]⟩)]),G 131 129 true (.bin false .eql (.t 130) (I 7)),O 132 (.pick (.t 129) (.t 131) Bf),Om 133 132,G 134 133 true (.call (C 30) [.c (.str ⟨#[114,117,110,32,52,49,32,48,32,49]⟩)]),G 135 133 true (.bin false .eql (.t 134) (I 2)),O 136 (.pick (.t 133) (.t 135) Bf),Om 137 136,G 138 137 true (.call (C 30) [.c (.str ⟨#[114,117,110,32,52,48,32,48,32,49]⟩)]),G 139 137 true (.bin false .eql (.t 138) (I 9)),O 140 (.pick (.t 137) (.t 139) Bf),Om 141 140,G 142 141 true (.call (C 30) [.c (.str ⟨#[114,117,110,32,52,48,32,48,32,51]⟩)]),G 143 141 true (.bin false .eql (.t 142) (I 0)),O 144 (.pick (.t 141) (.t 143) Bf),Om 145 144,G 146 145 true (.call (C 30) [.c (.str ⟨#[112,97,115,115,32,48,55]⟩)]),G 147 145 true (.bin false .eql (.t 146) (I 4)),O 148 (.pick (.t 145) (.t 147) Bf),Om 149 148,G 150 149 true (.call (C 30) [.c (.str ⟨#[112,97,115,115]⟩)]),G 151 149 true (.bin false .eql (.t 150) (I 4)),O 152 (.pick (.t 149) (.t 151) Bf),Om 153 152,G 154 153 true (.call (C 30) [.c (.str ⟨#[]⟩)]),G 155 153 true (.bin false .eql (.t 154) (I 4)),O 156 (.pick (.t 153) (.t 155) Bf),Om 157 156,G 158 157 true (.call (C 11) []),O 159 (.pick (.t 157) (.t 158) Bf),Om 0 159] .ret))))))))),[.tm 0]⟩
def L30:LFn :=⟨25,S [OM 2 0] (S [Ok 7 24 [],Om 8 0,O 9 (.bslice 9 1 [.t 8]),O 10 (.app 9 1 16 (.t 7) (.t 9)),Ok 11 25 [.t 10],Om 6 11,Oe 12 6 0,Oe 13 6 1,Oe 14 6 2,O 3 (.alloc (.agg [E0,E0,E0,E0,E0])),Ns 5 3 12,Om 4 13,Om 5 14] (.seq (S [Om 15 5,Oc 16 .neq 15 0,Om 17 16,G 18 17 false (M 4),G 19 17 false (.len none (.t 18)),G 20 17 false (.bin false .neq (.t 19) (I 5)),O 21 (.pick (.t 17) Bt (.t 20))] (Cd 21 (S [OM 2 (-1)] .ret) .skip)) (S [Om 22 4,O 23 (.ia 1 none (.t 22) (I 4)),Ol 24 1 23,Om 2 24] .ret))),[.tm 2]⟩
end
end
section
open Go.RowKit
set_option maxRecDepth 10000
attribute [local simp] AS.exp expG Box.ren AV.map AV.mapL Zau noRet Site.isRet Box.allS AV.allS AV.allSL retB dropL AS.adds renL outG outOk Zas inG fnOf lookA Zuq
attribute [local simp] Box.purge Site.isLoc
attribute [local simp] retFz frzL AS.frz AV.frz AV.frzL Box.frz AS.tidy AS.frzC frzsL retOk renB toLoc
def isRec (w:Wk)(x:Lt):Bool:=x.passed&&!decide (verdL w.certs w.bad w.tests x=1)
def recL (w:Wk)(k:Nat):List Int:=((w.lots.take k).filter (isRec w)).map Lt.num
theorem recL_next {w:Wk}{k:Nat}{x:Lt}(h:w.lots[k]?=some x):recL w (k+1)=recL w k++(if isRec w x=true then[x.num]else[]):=by
 unfold recL;rw[Zuf,h,ZuV,Zuw];congr 1;cases hb:isRec w x<;>simp[hb]
theorem recL_len {w:Wk}{k:Nat}:(recL w k).length≤k:=by
 unfold recL;rw[Zuc];refine Zup (ZuX _ _) ?_;rw[Zt6];omega
def rclS (w:Wk)(l:List Int)(k:Nat):AS:=
 ⟨[(5,.ptr (.loc 17 0) 0),(7,.vec (.loc 37 0) 1 0 l.length),(24,.pv (.lst false 4 (w.lots.map Lt.pv))),(25,.pv (.int .i64 w.lots.length)),(26,.pv (.int .i64 (k:Int)))],
  [(.loc 17 0,w.box),(.loc 37 0,.arr 3 1 (l.map iP))]⟩
theorem sbeq (s t:ByteArray):(s.toList==t.toList)=decide (s=t):=by
 rw[Lib.toList_data,Lib.toList_data,Zuz,beq_iff_eq,decide_eq_true_eq];exact⟨fun h=>ByteArray.ext (ZuG.1 h),fun h=>by rw[h]⟩
end
section
open Go.RowKit
def AV.free (a:AV):Prop:=∀(ρ:Site→Loc) (m m':Mem) (v:Value),RdA ρ m v a→RdA ρ m' v a
def Box.free (b:Box):Prop:=∀(ρ:Site→Loc) (m m':Mem) (w:World) (s:Site),RdB ρ m w s b→RdB ρ m' w s b
theorem lend_c {P:Program}{f:FuncId}{n e:Nat}{xs:List PV}{as':List AV}{R:AV→List (Site×Box)→Prop}(h:Zak P f (.pv (.lst false n xs)::as') [] R)
  (hR:∀r B,R r B→r.free∧∀p∈B,p.2.free∧p.1≠.par 0):Zak P f (.vec (.par 0) n 0 xs.length::as') [(.par 0,.arr e n xs)] (fun r B=>∃B',B=(.par 0,.arr e n xs)::B'∧R r B'):=by
 refine⟨h.1,fun w m ρ vs hB hm hs hv=>?_⟩;obtain⟨hmw,hG,_⟩:=hm;have hb:=hB.bx (.par 0) (.arr e n xs) (by simp[List.lookup]);have le1:Le m (m.with w (ρ (.par 0))):=Mem.le_with hmw _;have le2:Le (m.with w (ρ (.par 0))) w.mem:=Mem.with_le hmw _;have hlt:∀k,blk ρ w (.par 0) (.arr e n xs) k→k<w.heap.size:=fun k hk=>by
  rcases hk with⟨hr,rfl⟩|hk
  ·rcases hb.2 with⟨h1,_⟩|⟨_,cs,h2,_⟩
   ·rw[hr]at h1;cases h1
   ·exact(Zuv.1 h2).1
  ·cases hk
 refine(h.2 w _ ρ vs (Bxs.nil _ _ _) ⟨le2,hG.mono le1,by simp⟩ hs (fun j d c h1 h2=>?_)).mono ?_
 ·match j with
  |0=>
   simp only[List.getElem?_cons_zero,Option.some.injEq]at h2;subst h2;have hr:=hv 0 d (.vec (.par 0) n 0 xs.length) h1 rfl
   have:=Zn2 hb le1 (fun hr o v hc=>by unfold Mem.with;rw[if_pos ⟨hr,rfl⟩];exact hc) (lo:=0) (len:=xs.length) (by omega) hr
   rw[List.drop_zero,Zus]at this;exact .pv _ _ this
  |j+1=>
   simp only[ZuY]at h2;exact(hv (j+1) d c h1 (by simpa using h2)).more le1
 ·rintro e0 w' ⟨v,r,B',ρ',m',k1,k2,k3,k4,k5,k6,k7,k8,k9,k10⟩;obtain⟨f1,f2⟩:=hR r B' k2;have hk0:lentB ρ w []=[]:=rfl;rw[hk0]at k7 k8 k10;have hheap:∀k,k<w.heap.size→w'.heap[k]?=w.heap[k]?:=fun k hk=>k10.block k hk (by simp)
  have hbk:∀s b k,B'.lookup s=some b→blk ρ' w' s b k→w.heap.size≤k:=fun s b k q1 q2=>by
   rcases k7 s b k q1 q2 with h|h
   ·exact h
   ·cases h
  have hp0:ρ' (.par 0)=ρ (.par 0):=k6 0;have hlk:∀s b,B'.lookup s=some b→(s,b)∈B':=fun s b hl=>by
   obtain⟨l1,l2,e,_⟩:=List.lookup_eq_some_iff.1 hl;rw[e];simp
  have hb':RdB ρ' m w' (.par 0) (.arr e n xs):=by
   refine⟨hb.1,?_⟩;rw[hp0];rcases hb.2 with h1|⟨hr,cs,h2,h3⟩
   ·exact .inl h1
   ·exact .inr ⟨hr,cs,by rw[hheap _ (hlt _ (.inl ⟨hr,rfl⟩))];exact h2,h3⟩
  have hblk:∀k,blk ρ' w' (.par 0) (.arr e n xs) k→blk ρ w (.par 0) (.arr e n xs) k:=fun k hk=>by
   rcases hk with⟨hr,rfl⟩|hk
   ·rw[hp0]at hr ⊢;exact .inl ⟨hr,rfl⟩
   ·cases hk
  refine⟨v,r,(.par 0,.arr e n xs)::B',ρ',m,k1,⟨B',rfl,k2⟩,⟨?_,?_,?_⟩,fun b o v hv=>hv,fun b o v hv=>k5 _ _ _ (k4 _ _ _ (le1 _ _ _ hv)),k6,?_,fun b o v hv=>.inl hv,f1 _ _ _ _ k9,?_⟩
  ·intro s b hl;by_cases hs0:s=.par 0
   ·subst hs0;rw[Zai]at hl;cases hl;exact hb'
   ·rw[Zad hs0]at hl;exact(f2 _ (hlk _ _ hl)).1 _ _ _ _ _ (k3.bx s b hl)
  ·intro s s' b b' k q1 q2 q3 q4;by_cases hs0:s=.par 0<;>by_cases hs1:s'=.par 0
   ·rw[hs0,hs1]
   ·subst hs0;rw[Zai]at q1;cases q1;rw[Zad hs1]at q2;have h1:=hlt k (hblk k q3);have h2:=hbk _ _ _ q2 q4;omega
   ·subst hs1;rw[Zai]at q2;cases q2;rw[Zad hs0]at q1;have h1:=hlt k (hblk k q4);have h2:=hbk _ _ _ q1 q3;omega
   ·rw[Zad hs0]at q1;rw[Zad hs1]at q2;exact k3.injk s s' b b' k q1 q2 q3 q4
  ·intro s b k q1 q2 o;by_cases hs0:s=.par 0
   ·subst hs0;rw[Zai]at q1;cases q1;exact hB.offk (.par 0) _ k (by simp[List.lookup]) (hblk k q2) o
   ·rw[Zad hs0]at q1;have h2:=hbk _ _ _ q1 q2;cases hq:m k o with
    |none=>rfl
    |some x=>
     have hc:w.cell? ⟨k,o,none⟩=some x:=hmw _ _ _ hq;unfold World.cell? at hc;rw[Array.getElem?_eq_none h2]at hc;cases hc
  ·intro s b k q1 q2;by_cases hs0:s=.par 0
   ·subst hs0;rw[Zai]at q1;cases q1;exact .inr (ZcL.2 ⟨_,ZuA.2 rfl,hblk k q2⟩)
   ·rw[Zad hs0]at q1;exact .inl (hbk _ _ _ q1 q2)
  ·exact⟨k10.os,k10.tape,k10.output,k10.size,fun k hk hn=>hheap k hk⟩
theorem free_int {k:IntKind}{n:Int}:AV.free (.pv (.int k n)):=fun ρ m m' v h=>by
 cases h with|pv v x h=>cases h;exact .pv _ _ (.int k n)
end
section
open Go.RowKit
set_option maxRecDepth 10000
attribute [local simp] AS.exp expG Box.ren AV.map AV.mapL Zau noRet Site.isRet Box.allS AV.allS AV.allSL retB dropL AS.adds renL outG outOk Zas inG fnOf lookA Zuq
attribute [local simp] Box.purge Site.isLoc
attribute [local simp] retFz frzL AS.frz AV.frz AV.frzL Box.frz AS.tidy AS.frzC frzsL retOk renB toLoc
def rclO (w:Wk)(r:AV)(B:List (Site×Box)):Prop:=r=.tup [.vec (.ret 0) 1 0 (recL w w.lots.length).length,.pv (.int .i64 0)]∧B=[(.ret 0,.arr 3 1 ((recL w w.lots.length).map iP))]
theorem Recalled_r {I:Nat→Wk→Prop}{D:Wk→ByteArray→Wk×Int}(hN:ZgK I D)(h0:I 0 wk0)(hI:∀k w,k≤50→I k w→WkOk w)(L:List ByteArray)(hl:L.length≤1000000)(hc:ZaT L=0):Zak Tryz.prog 28 [.pv (strsP L)] [] (rclO (foldD D wk0 L).1):=by
 have hch:=Zej L hl;refine cB [.loc 37 0] L28 ?_;generalize hR:rclO (foldD D wk0 L).1=R;obtain⟨hl5,hs2⟩:=ZeW hc;rw[hc]at hch;have hpc:=ZmH hN h0 L (by omega) hs2;have hok:=hI _ _ (by omega) (ZbG hN (l:=L) (by omega) h0 hs2);generalize foldD D wk0 L=q at hpc hok hR;obtain⟨w,es⟩:=q;dsimp only at hpc hok hR;have hlo:=hok.l;simp[-getElem?_pos,L28];refine cG [strsP L] hch ?_;simp[-getElem?_pos];refine .inl (Zbr [] (fs:=[]) (xs:=[strsP L]) (cs:=[]) (d:=17) rfl rfl hpc ?_);rintro r B ⟨rfl,rfl⟩;refine⟨by simp[Wk.box,wkX],?_⟩;simp[-getElem?_pos,Wk.box,wkX,lotsP];refine Zae (fun m τ=>∃k:Nat,k≤w.lots.length∧m=w.lots.length-k∧τ=rclS w (recL w k) k) ⟨w.lots.length,rclS w [] 0,Sub.trans' (Sub.mk (by simp[rclS,AS.vecT]) (by simp[rclS,AS.vecT,Wk.box,wkX,lotsP])) (vecT 37 3 1 7 rfl (by decide)),0,Zud _,rfl,rfl⟩ ?_;rintro J hJ m τ ⟨k,hk,rfl,rfl⟩;by_cases hlt:k<w.lots.length
 ·obtain⟨x,hx⟩:∃x,w.lots[k]?=some x:=⟨w.lots[k],Zt3 hlt⟩;have hg:(w.lots.map Lt.pv)[k]?=some x.pv:=by rw[Zt4,hx];rfl
  simp only[Lt.pv]at hg;have hxo:=hok.lt x (Zua hx);have hrc:=Zlj w.certs w.bad (lotsP w.lots) w.tests (runsP w.runs) x hok.c hok.b hok.t hxo.2.2.1 hxo.2.2.2 hok.fit;have hir:(x.passed&&!decide (verdL w.certs w.bad w.tests x=1))=isRec w x:=rfl;rw[hir]at hrc;rw[Lt.pv]at hrc;have hw:=wrapK (k:=k) (by omega);have hrl:=recL_len (w:=w) (k:=k);have h1:(recL w k).length+1≤1000000:=by omega
  have hn:=hJ (w.lots.length-(k+1)) _ ⟨k+1,hlt,rfl,rfl⟩;rw[recL_next hx]at hn;have hmeas:w.lots.length-(k+1)<w.lots.length-k:=by omega
  generalize recL w k=RL at hn h1 ⊢;simp[-getElem?_pos,-List.getElem?_map,rclS,Wk.box,wkX,lotsP,hlt,hg,nblt,nble,setAt];refine cM [.ptr (.par 0) 0,.pv (.agg [.int .i64 x.num,.int .i64 x.pieces,.int .i64 x.limit,.bool x.passed])] [(.par 0,wkX (ctsP w.certs) (bdsP w.bad) (lotsP w.lots) (ttsP w.tests) (runsP w.runs))] 32 [.loc 17 0] (by simp[wkX,lotsP]) hrc (by simp[wkX]) ?_;cases hb:isRec w x with
  |true=>
   rw[hb,if_pos rfl]at hn;simp[-getElem?_pos,wkX,h1,nble,hw];exact⟨_,_,hmeas,Sub.mk (by simp[rclS]) (by simp[rclS,Wk.box,wkX,lotsP,iP]),hn⟩
  |false=>
   rw[hb,if_neg (by simp),Zut]at hn;simp[-getElem?_pos,wkX,nble,hw];exact⟨_,_,hmeas,Sub.mk (by simp[rclS]) (by simp[rclS,Wk.box,wkX,lotsP]),hn⟩
 ·have he:k=w.lots.length:=by omega
  subst he;have hm:List.take (recL w w.lots.length).length ((recL w w.lots.length).map iP)=(recL w w.lots.length).map iP:=Zub (by simp);simp[-getElem?_pos,rclS,Wk.box,wkX,hm];rw[←hR];exact⟨rfl,by simp⟩
end
end Go.Proofs.YteknmiggbkhdoaaGreatDoor
namespace Go.Proofs
section
open Go.Shelf
def Tryz.lays105_ren:Go.Shelf.Ren:=⟨fun|105=>26|212=>41|99=>42|165=>43|166=>44|170=>45|169=>46|263=>71|264=>72|206=>73|240=>74|241=>75|276=>106|277=>107|n=>n,fun|9=>9|3=>3|4=>4|20=>20|0=>0|46=>100|109=>101|5=>5|72=>106|76=>110|51=>144|146=>145|53=>147|148=>148|70=>104|37=>42|75=>109|127=>150|164=>199|80=>113|n=>n,fun|n=>n⟩
theorem Tryz.lays105:Go.Proofs.Lays.n105 Tryz.prog Tryz.lays105_ren:={
 mixed:=by kernel_rfl
 f99:=Tryz.func42.trans (congrArg some (by kernel_rfl))
 f105:=Tryz.func26.trans (congrArg some (by kernel_rfl))
 f165:=Tryz.func43.trans (congrArg some (by kernel_rfl))
 f166:=Tryz.func44.trans (congrArg some (by kernel_rfl))
 f169:=Tryz.func46.trans (congrArg some (by kernel_rfl))
 f170:=Tryz.func45.trans (congrArg some (by kernel_rfl))
 f206:=Tryz.func73.trans (congrArg some (by kernel_rfl))
 f212:=Tryz.func41.trans (congrArg some (by kernel_rfl))
 f240:=Tryz.func74.trans (congrArg some (by kernel_rfl))
 f241:=Tryz.func75.trans (congrArg some (by kernel_rfl))
 f263:=Tryz.func71.trans (congrArg some (by kernel_rfl))
 f264:=Tryz.func72.trans (congrArg some (by kernel_rfl))
 f276:=Tryz.func106.trans (congrArg some (by kernel_rfl))
 f277:=Tryz.func107.trans (congrArg some (by kernel_rfl))
 t0:=Tryz.underlying0
 a0:=Tryz.isAgg0
 z0:=Tryz.sizeOf0
 v0:=Tryz.zeroValue0
 t3:=Tryz.underlying3
 a3:=Tryz.isAgg3
 z3:=Tryz.sizeOf3
 v3:=Tryz.zeroValue3
 t4:=Tryz.underlying4
 a4:=Tryz.isAgg4
 z4:=Tryz.sizeOf4
 v4:=Tryz.zeroValue4
 t5:=Tryz.underlying5
 a5:=Tryz.isAgg5
 z5:=Tryz.sizeOf5
 v5:=Tryz.zeroValue5
 t9:=Tryz.underlying9
 a9:=Tryz.isAgg9
 z9:=Tryz.sizeOf9
 v9:=Tryz.zeroValue9
 t20:=Tryz.underlying20
 a20:=Tryz.isAgg20
 z20:=Tryz.sizeOf20
 v20:=Tryz.zeroValue20
 t37:=Tryz.underlying42
 a37:=Tryz.isAgg42
 z37:=Tryz.sizeOf42
 v37:=Tryz.zeroValue42
 t46:=Tryz.underlying100
 a46:=Tryz.isAgg100
 z46:=Tryz.sizeOf100
 v46:=Tryz.zeroValue100
 t51:=Tryz.underlying144
 a51:=Tryz.isAgg144
 z51:=Tryz.sizeOf144
 v51:=Tryz.zeroValue144
 t53:=Tryz.underlying147
 a53:=Tryz.isAgg147
 z53:=Tryz.sizeOf147
 v53:=Tryz.zeroValue147
 t70:=Tryz.underlying104
 a70:=Tryz.isAgg104
 z70:=Tryz.sizeOf104
 v70:=Tryz.zeroValue104
 t72:=Tryz.underlying106
 a72:=Tryz.isAgg106
 z72:=Tryz.sizeOf106
 v72:=Tryz.zeroValue106
 t75:=Tryz.underlying109
 a75:=Tryz.isAgg109
 z75:=Tryz.sizeOf109
 v75:=Tryz.zeroValue109
 t76:=Tryz.underlying110
 a76:=Tryz.isAgg110
 z76:=Tryz.sizeOf110
 v76:=Tryz.zeroValue110
 t109:=Tryz.underlying101
 a109:=Tryz.isAgg101
 z109:=Tryz.sizeOf101
 v109:=Tryz.zeroValue101
 t127:=Tryz.underlying150
 a127:=Tryz.isAgg150
 z127:=Tryz.sizeOf150
 v127:=Tryz.zeroValue150
 t146:=Tryz.underlying145
 a146:=Tryz.isAgg145
 z146:=Tryz.sizeOf145
 v146:=Tryz.zeroValue145
 t148:=Tryz.underlying148
 a148:=Tryz.isAgg148
 z148:=Tryz.sizeOf148
 v148:=Tryz.zeroValue148
 t164:=Tryz.underlying199
 a164:=Tryz.isAgg199
 z164:=Tryz.sizeOf199
 v164:=Tryz.zeroValue199 }
theorem Tryz.Builder_Extra_105:Builder.Extra Tryz.prog Tryz.lays105_ren:={
 sizeBuilder:=by kernel_rfl
 liesBuilder:=by kernel_rfl
 t5:=Tryz.underlying5
 a5:=Tryz.isAgg5
 z5:=Tryz.sizeOf5
 v5:=Tryz.zeroValue5
 infoByte:=by kernel_rfl
 cellsByte:=by kernel_rfl
 sizeByte:=by kernel_rfl
 neB5:=by decide }
open Go.RowKit Go.Lib in
theorem Tryz.strings_Repeat (s:ByteArray)(c:Nat)(w:World)(hc:c≤9223372036854775807)(hlen:s.size*c≤140737488355328):
  Calls Tryz.prog 26 #[.string s,.int .i64 c] w fun e w'=>e=.returned (.string ⟨(Lib.repeatL s.data.toList c).toArray⟩)∧Below w.heap.size w w':=Any.strings_Repeat Tryz.lays105 Tryz.Builder_Extra_105 s c w hc hlen
end
end Go.Proofs
namespace Go.Proofs.YteknmiggbkhdoaaGreatDoor
section
open Go.RowKit
set_option maxRecDepth 10000
attribute [local simp] AS.exp expG Box.ren AV.map AV.mapL Zau noRet Site.isRet Box.allS AV.allS AV.allSL retB dropL AS.adds renL outG outOk Zas inG fnOf lookA Zuq
attribute [local simp] Box.purge Site.isLoc
attribute [local simp] retFz frzL AS.frz AV.frz AV.frzL Box.frz AS.tidy AS.frzC frzsL retOk renB toLoc
def repA:ByteArray:=⟨(Lib.repeatL [97] 201).toArray⟩
theorem Zow:Gives Tryz.prog 26 [.str ⟨#[97]⟩,.int .i64 201] (.str repA):=by
 refine Zd0 ⟨_,_,Tryz.func26,by kernel_rfl,rfl⟩ fun w m vs hg hm hsz hrd=>?_
 obtain⟨v,u,rfl⟩:=arg2 hsz;obtain rfl:=Zek (hrd 0 v _ rfl rfl);obtain rfl:=ZsL (hrd 1 u _ rfl rfl);exact(Tryz.strings_Repeat ⟨#[97]⟩ 201 w (by decide) (by decide)).mono fun e w' ⟨k1,k2⟩=>⟨_,k1,Znq k2,.str _⟩
theorem errorOf_c (s:ByteArray)(e:Int)(h1:ZaT (Za6++[s])=0)(h2:(foldD (doB 408) wk0 (Za6++[s])).2=[0,0,0,0,e]):Gives Tryz.prog 30 [.str s] (.int .i64 e):=by
 have c1:=Zn9 (by decide:407<408) (Za6++[s]) (by simp[Za6]);unfold plyE at c1;rw[if_pos h1,h2]at c1;generalize(foldD (doB 408) wk0 (Za6++[s])).1=w at c1;refine cSR L30 ?_;intro R hR;simp[-getElem?_pos,L30];refine .inl (Zbr [] (fs:=[]) (xs:=[]) (cs:=[]) (d:=7) rfl rfl ZjM ?_);rintro r B ⟨rfl,rfl⟩;refine⟨by simp,?_⟩;simp[-getElem?_pos,Za6,nble];refine .inl (cP [.loc 10 0] [strsP (Za6++[s])] (by simp) (by simp[strsP,Za6]) c1 ?_);simp[-getElem?_pos,Wk.pv,iE];rw[←hR];exact⟨rfl,by simp⟩
def evS (l:List ByteArray)(s:ByteArray)(e:Int):Bool:=decide (ZaT (l++[s])=0)&&decide ((foldD (doB 408) wk0 (l++[s])).2=[0,0,0,0,e])
theorem errorOf_ev {s:ByteArray}{e:Int}(h:evS Za6 s e=true):Gives Tryz.prog 30 [.str s] (.int .i64 e):=by
 unfold evS at h;rw[Zt7,decide_eq_true_eq,decide_eq_true_eq]at h;exact errorOf_c s e h.1 h.2
theorem ev0:Gives Tryz.prog 30 [.str ⟨#[112,97,115,115,32,55]⟩] (.int .i64 8):=errorOf_ev (by decide +kernel)
theorem ev1:Gives Tryz.prog 30 [.str ⟨#[112,97,115,115,32,56]⟩] (.int .i64 7):=errorOf_ev (by decide +kernel)
theorem ev2:Gives Tryz.prog 30 [.str ⟨#[108,111,116,32,55,32,57,32,53,48,48]⟩] (.int .i64 6):=errorOf_ev (by decide +kernel)
theorem ev3:Gives Tryz.prog 30 [.str ⟨#[108,111,116,32,56,32,51,32,53,48,48]⟩] (.int .i64 2):=errorOf_ev (by decide +kernel)
theorem ev4:Gives Tryz.prog 30 [.str ⟨#[98,97,100,32,50]⟩] (.int .i64 7):=errorOf_ev (by decide +kernel)
theorem ev5:Gives Tryz.prog 30 [.str ⟨#[99,101,114,116,32,49,32,50,32,48,32,49,48,32,49,48,48,32,45,49,32,49]⟩] (.int .i64 6):=errorOf_ev (by decide +kernel)
theorem ev6:Gives Tryz.prog 30 [.str ⟨#[99,101,114,116,32,50,32,48,32,50,32,49,48,32,49,48,48,32,45,49,32,49]⟩] (.int .i64 1):=errorOf_ev (by decide +kernel)
theorem ev7:Gives Tryz.prog 30 [.str ⟨#[99,101,114,116,32,50,32,51,32,48,32,57,32,49,48,48,32,45,49,32,49]⟩] (.int .i64 6):=errorOf_ev (by decide +kernel)
theorem ev8:Gives Tryz.prog 30 [.str ⟨#[99,101,114,116,32,50,32,50,32,48,32,49,48,32,49,48,48,32,51,32,52]⟩] (.int .i64 9):=errorOf_ev (by decide +kernel)
theorem ev9:Gives Tryz.prog 30 [.str ⟨#[116,101,115,116,32,55,32,54,32,50,48,32,54,48,48]⟩] (.int .i64 2):=errorOf_ev (by decide +kernel)
theorem ev10:Gives Tryz.prog 30 [.str ⟨#[116,101,115,116,32,56,32,50,32,50,48,32,54,48,48]⟩] (.int .i64 7):=errorOf_ev (by decide +kernel)
theorem ev11:Gives Tryz.prog 30 [.str ⟨#[114,117,110,32,52,49,32,48,32,49]⟩] (.int .i64 2):=errorOf_ev (by decide +kernel)
theorem ev12:Gives Tryz.prog 30 [.str ⟨#[114,117,110,32,52,48,32,48,32,49]⟩] (.int .i64 9):=errorOf_ev (by decide +kernel)
theorem ev13:Gives Tryz.prog 30 [.str ⟨#[114,117,110,32,52,48,32,48,32,51]⟩] (.int .i64 0):=errorOf_ev (by decide +kernel)
theorem ev14:Gives Tryz.prog 30 [.str ⟨#[112,97,115,115,32,48,55]⟩] (.int .i64 4):=errorOf_ev (by decide +kernel)
theorem ev15:Gives Tryz.prog 30 [.str ⟨#[112,97,115,115]⟩] (.int .i64 4):=errorOf_ev (by decide +kernel)
theorem ev16:Gives Tryz.prog 30 [.str ⟨#[]⟩] (.int .i64 4):=errorOf_ev (by decide +kernel)
def passL:List ByteArray:=Za6++[⟨#[116,101,115,116,32,55,32,50,32,50,48,32,54,48,48]⟩,⟨#[116,101,115,116,32,55,32,50,32,50,48,32,54,48,48]⟩,⟨#[112,97,115,115,32,55]⟩]
def badL:List ByteArray:=[⟨#[98,97,100,32,49]⟩]
def endL:List ByteArray:=[⟨#[98,97,100,32,49]⟩,⟨#[114,117,110,32,49,50,32,48,32,49]⟩]
def rep2B:ByteArray:=⟨#[108,111,116,32,55,32,116,101,115,116,115,32,48,32,111,112,101,110,32,112,97,115,115,101,100,32,114,101,99,97,108,108,101,100,10,99,101,114,116,115,32,49,32,104,101,108,100,32,48,32,98,97,100,32,49,10,101,110,100,32,49,54,10]⟩
theorem nm_with:wdrE (doB 408) Za6 2=.tup [.lst false 1 [],.int .i64 7]:=by
 unfold wdrE;have h1:ZaT Za6=0:=by decide +kernel
 have h2:¬kn (foldD (doB 408) wk0 Za6).1 2=true:=by decide +kernel
 rw[if_pos h1,if_neg h2]
theorem nm_play:plyE (doB 408) [repA]=.tup [wk0.pv,.lst false 1 [],.int .i64 3]:=by
 unfold plyE;have h1:¬ZaT [repA]=0:=by decide +kernel
 rw[if_neg h1]
theorem nm_rep:rptE 408 (List.replicate 51 ⟨#[]⟩)=.tup [.str ⟨#[]⟩,.int .i64 3]:=by
 unfold rptE;have h1:¬ZaT (List.replicate 51 ⟨#[]⟩)=0:=by decide +kernel
 rw[if_neg h1]
theorem nm_rep2:rptE 408 (passL++endL)=.tup [.str rep2B,.int .i64 0]:=by
 unfold rptE;have h1:ZaT (passL++endL)=0:=by decide +kernel
 have h2:repL 408 (foldD (doB 408) wk0 (passL++endL)).1=rep2B.data.toList:=by decide +kernel
 rw[if_pos h1,h2]
theorem nm_rec:recL (foldD (doB 408) wk0 passL).1 (foldD (doB 408) wk0 passL).1.lots.length=[]:=by decide +kernel
theorem nm_rec2:recL (foldD (doB 408) wk0 (passL++badL)).1 (foldD (doB 408) wk0 (passL++badL)).1.lots.length=[7]:=by decide +kernel
theorem nm_c1:ZaT passL=0:=by decide +kernel
theorem nm_c2:ZaT (passL++badL)=0:=by decide +kernel
theorem opsWp_mid {P:Program}{o:LO}{post:List LO}{K:AS→Prop}:∀{pre:List LO} {σ:AS},opsWp P pre (fun τ=>loWp P o (fun τ'=>opsS P post K τ') τ) σ→opsWp P (pre++o::post) K σ
 |[],σ,h=>Zb4 (fun _ h=>ZhO h) h
 |p::pre,σ,h=>Zb4 (fun _ h=>opsWp_mid (pre:=pre) h) h
theorem awpX_mid {P:Program}{Q:AEx→AS→Prop}{Qp:PV→AS→Prop}{σ:AS}{o:LO}{post:List LO}{c:LCode}(pre:List LO)(h:opsS P pre (fun τ=>loWp P o (fun τ'=>opsS P post (fun τ2=>awpX P c Q Qp τ2) τ') τ) σ):awpX P (.seq (.region (pre++o::post)) c) Q Qp σ:=
 ZrH (opsWp_mid (ZhO h))
theorem lo_keep {P:Program}{d e n bytes lo len:Nat}{x y:Opd}{lt:Bool}{s:Site}{xs ys:List PV}{K:AS→Prop}{σ:AS}(h0:σ.cont (σ.o y) n=some ys)(h1:σ.o x=.vec s n lo len)(h2:σ.b s=some (.arr e n xs))(h3:lo+len≤xs.length)
  (h4:(len+ys.length)*bytes≤140737488355328) (h5:len+ys.length≤9223372036854775807) (hA:K (((σ.purge d).add (.loc d 0) (.arr e n ((xs.drop lo).take len++ys))).putO (some d) (.vec (.loc d 0) n 0 (len+ys.length))))
  (hB:K ((σ.set s (.arr e n (xs.take (lo+len)++ys))).putO (some d) (.vec s n lo (len+ys.length)))):loWp P ⟨some d,none,.app e n bytes x y,lt⟩ K σ:=by
 show opWp (.app e n bytes x y) d (fun a τ=>K (τ.putO (some d) a)) σ;unfold opWp;dsimp only;rw[h0,h1];dsimp only;rw[h2];exact .inr ⟨⟨rfl,rfl,rfl,h3⟩,h4,h5,hA,hB⟩
theorem free_vec {s:Site}{n lo len:Nat}:AV.free (.vec s n lo len):=fun ρ m m' v h=>by
 cases h with
 |vec _ _ _ _ cap h0 h1 h2=>exact .vec _ _ _ _ cap h0 h1 h2
 |vec0 _ _ _ a h=>exact .vec0 _ _ _ a h
theorem rcl_free {w:Wk}:∀r B,rclO w r B→r.free∧∀p∈B,p.2.free∧p.1≠.par 0:=by
 rintro r B ⟨rfl,rfl⟩;refine⟨fun ρ m m' v h=>?_,fun p hp=>?_⟩
 ·cases h with
  |tup vs cs h0 h2=>
   refine .tup vs _ h0 (fun j d c q1 q2=>?_)
   have:=h2 j d c q1 q2
   match j with
   |0=>simp at q2;subst q2;exact free_vec _ _ _ _ this
   |1=>simp at q2;subst q2;exact free_int _ _ _ _ this
   |j+2=>simp at q2
 ·obtain rfl:=ZuA.1 hp;refine⟨fun ρ m m' w s h=>?_,by simp⟩;obtain⟨h0,h1⟩:=h;refine⟨h0,?_⟩;rcases h1 with h1|⟨hr,cs,g1,g2,g3,g4,g5⟩
  ·exact .inl h1
  ·refine .inr ⟨hr,cs,g1,g2,g3,g4,fun i x hx=>⟨(g5 i x hx).1,fun j c hc=>?_⟩⟩;obtain⟨d,e1,e2,e3⟩:=(g5 i x hx).2 j c hc;obtain⟨n,hn,rfl⟩:=Zug.1 (Zua hx)
   have:c=iP n:=by
    match j with
    |0=>simpa[PV.cells,iP,eq_comm]using hc
    |j+1=>simp[PV.cells,iP]at hc
   subst this;refine⟨d,e1,e2,?_⟩;cases e3;exact .int _ _
theorem rcl_lent (L:List ByteArray)(hl:L.length≤1000000)(hc:ZaT L=0):Zak Tryz.prog 28 [.vec (.par 0) 1 0 L.length] [(.par 0,.arr 9 1 (L.map .str))] (fun r B=>∃B',B=(.par 0,.arr 9 1 (L.map .str))::B'∧rclO (foldD (doB 408) wk0 L).1 r B'):=by
 have h:=lend_c (e:=9) (as':=[]) (n:=1) (xs:=L.map .str) (Recalled_r (ZdZ (by decide:407<408)) wk0_I Zka L hl hc) (fun r B h=>rcl_free r B h);rw[Zuc]at h;exact h
set_option maxHeartbeats 4000000 in
theorem names_c:Gives Tryz.prog 8 [] (.bool true):=by
 have hF:407<408:=by decide
 have c1:=Zj9 hF Za6 (by decide) 2;rw[nm_with]at c1;have c2:=Zn9 hF [repA] (by decide);rw[nm_play]at c2;have c3:=Zqs hF (List.replicate 51 ⟨#[]⟩) (by decide);rw[nm_rep]at c3;have c4:=rcl_lent passL (by decide) nm_c1;unfold rclO at c4;rw[nm_rec]at c4;have c5:=rcl_lent (passL++badL) (by decide) nm_c2;unfold rclO at c5;rw[nm_rec2]at c5;have c6:=Zqs hF (passL++endL) (by decide);rw[nm_rep2]at c6;have c7:=ZnQ [7] [7] (by decide);refine Za8.ret (Rp:=fun _ _=>False) (cX L8 ?_) (fun _ _ h=>h);generalize hR:(fun(r:AV) (B:List (Site×Box))=>r=AV.pv (.bool true)∧B=[])=R;show awpX _ (.seq _ (.seq _ (.seq _ (.seq _ (.seq _ (.seq _ (.seq _ (.seq _ _)))))))) _ _ _;refine Zao ?_;simp[-getElem?_pos];refine Zao ?_;simp[-getElem?_pos];refine .inl (Zbr [] (fs:=[]) (xs:=[]) (cs:=[]) (d:=16) rfl rfl ZjM ?_);rintro r B ⟨rfl,rfl⟩;refine⟨by simp,?_⟩;simp[-getElem?_pos,Za6,nble];refine .inl (cP [.loc 16 0] [strsP Za6,.int .i64 2] (by simp) (by simp[strsP,Za6]) c1 ?_);simp[-getElem?_pos];refine Zao ?_;simp[-getElem?_pos];refine cG [.str ⟨#[97]⟩,.int .i64 201] Zow ?_;simp[-getElem?_pos,nble];refine .inl (cP [.loc 22 0] [strsP [repA]] (by simp) (by simp[strsP]) c2 ?_);simp[-getElem?_pos,Wk.pv];have n51:natI 51=some 51:=rfl;refine Zao ?_;simp[-getElem?_pos,nble,n51];refine .inl (cP [.loc 28 0] [strsP (List.replicate 51 ⟨#[]⟩)] (by simp) (by simp[strsP]) c3 ?_);simp[-getElem?_pos];refine Zao ?_;simp[-getElem?_pos];refine .inl (Zbr [] (fs:=[]) (xs:=[]) (cs:=[]) (d:=32) rfl rfl ZjM ?_);rintro r B ⟨rfl,rfl⟩;refine⟨by simp,?_⟩;simp[-getElem?_pos,Za6,nble];refine Zao ?_;simp[-getElem?_pos,nble];refine cL [.vec (.par 0) 1 0 passL.length] [(.par 0,.arr 9 1 (passL.map .str))] 37 [.loc 34 0] (by simp[passL,Za6]) c4 ?_
 rintro r0 B0 ⟨B1,rfl,rfl,rfl⟩;refine⟨rfl,by simp,?_⟩;simp[-getElem?_pos,passL,Za6];refine awpX_mid [_,_] ?_;simp[-getElem?_pos];refine lo_keep (s:=.loc 34 0) (lo:=0) (len:=7) (xs:=passL.map .str) (ys:=badL.map .str) ?h0 rfl ?h2 (by simp[passL,Za6]) (by simp[badL]) (by simp[badL]) ?hA ?hB
 case' h0=>simp[badL,AS.cont]
 case' h2=>simp[passL,Za6]
 case' hA=>
  simp[-getElem?_pos,passL,badL,Za6];refine cL [.vec (.par 0) 1 0 (passL++badL).length] [(.par 0,.arr 9 1 ((passL++badL).map .str))] 44 [.loc 43 0] (by simp[passL,badL,Za6]) c5 ?_
  rintro r0 B0 ⟨B1,rfl,rfl,rfl⟩;refine⟨rfl,by simp,?_⟩;simp[-getElem?_pos,passL,badL,Za6];refine Zao ?_;simp[-getElem?_pos,nble];refine .inl (cP [.loc 50 0] [strsP (passL++endL)] (by simp) (by simp[strsP,passL,endL,Za6]) c6 ?_);simp[-getElem?_pos]
 case' hB=>
  simp[-getElem?_pos,passL,badL,Za6];refine cL [.vec (.par 0) 1 0 (passL++badL).length] [(.par 0,.arr 9 1 ((passL++badL).map .str))] 44 [.loc 34 0] (by simp[passL,badL,Za6]) c5 ?_
  rintro r0 B0 ⟨B1,rfl,rfl,rfl⟩;refine⟨rfl,by simp,?_⟩;simp[-getElem?_pos,passL,badL,Za6];refine awpX_mid [_,_] ?_;simp[-getElem?_pos];refine lo_keep (s:=.loc 34 0) (lo:=0) (len:=7) (xs:=(passL++badL).map .str) (ys:=endL.map .str) ?g0 rfl ?g2 (by simp[passL,Za6]) (by simp[endL]) (by simp[endL]) ?gA ?gB
  case' g0=>simp[endL,AS.cont]
  case' g2=>simp[passL,badL,Za6]
  case' gA=>
   simp[-getElem?_pos,passL,badL,Za6,endL];refine .inl (cP [.loc 50 0] [strsP (passL++endL)] (by simp) (by simp[strsP,passL,endL,Za6]) c6 ?_);simp[-getElem?_pos]
  case' gB=>
   simp[-getElem?_pos,passL,badL,Za6,endL];refine .inl (cP [.loc 34 0] [strsP (passL++endL)] (by simp) (by simp[strsP,passL,endL,Za6]) c6 ?_);simp[-getElem?_pos]
 all_goals
  refine Zao ?_;simp[-getElem?_pos,nble];refine .inl (cP [.loc 44 0,.loc 79 0] [.lst false 1 ([7].map iP),.lst false 1 ([7].map iP)] (by simp) (by simp[iP]) c7 ?_);simp[-getElem?_pos,sbeq,rep2B];refine Zao ?_;simp[-getElem?_pos];refine cG [_] ev0 ?_;simp[-getElem?_pos];refine cG [_] ev1 ?_;simp[-getElem?_pos];refine cG [_] ev2 ?_;simp[-getElem?_pos];refine cG [_] ev3 ?_;simp[-getElem?_pos];refine cG [_] ev4 ?_;simp[-getElem?_pos];refine cG [_] ev5 ?_;simp[-getElem?_pos];refine cG [_] ev6 ?_;simp[-getElem?_pos];refine cG [_] ev7 ?_;simp[-getElem?_pos];refine cG [_] ev8 ?_;simp[-getElem?_pos];refine cG [_] ev9 ?_;simp[-getElem?_pos];refine cG [_] ev10 ?_;simp[-getElem?_pos];refine cG [_] ev11 ?_;simp[-getElem?_pos];refine cG [_] ev12 ?_;simp[-getElem?_pos];refine cG [_] ev13 ?_;simp[-getElem?_pos];refine cG [_] ev14 ?_;simp[-getElem?_pos];refine cG [_] ev15 ?_;simp[-getElem?_pos];refine cG [_] ev16 ?_;simp[-getElem?_pos];refine cG [] Zbf ?_;simp[-getElem?_pos];refine Zrz ?_;simp[retF];rw[←hR];exact⟨rfl,by simp⟩
end
section
open Go.ChangeShapes Go.WideShapes Go.ChangeAt Go.RowKit
set_option maxRecDepth 100000
theorem walkBookNames (W:World)(hg:Glob W.mem W):
  Calls Tryz.prog 8 #[] W fun e w'=>e=.returned (.bool true)∧Keep [] W w':=by
 refine Zdi (xs:=[]) (b:=true) ((names_c).mono (fun _ _ h=>h.1)) rfl (fun j v x e1 e2=>?_) hg
 match j with
 |j=>simp at e1
theorem liftedBookNames (os:Os)(started:os.Started)(H:Type)(enc:TypeId×Value→H):
  ReturnsInHanded {} Tryz.checked os 8 .any (fun w args=>(Rows.bookNamesSpec.pre enc Tryz.prog Tryz.f8 Rows.bookNamesRow.domain false w args∧laidMetH Tryz.prog Rows.bookNamesRow.laid w)∧sizedMet enc Tryz.prog Tryz.f8 (OpenSpec.ofChange Rows.bookNamesSpec) false w args)
   (Rows.bookNamesSpec.post enc Tryz.prog Tryz.f8 false true false false):=by
 refine ZcE (C:=Tryz.checked) (X:=fun w _=>laidMetH Tryz.prog Rows.bookNamesRow.laid w) (fun _ _ _ hh h=>h.of_heap hh) own started (by kernel_rfl) Tryz.func8
  (ChangeSpec.witness_shaped (enc:=enc) (C:=Tryz.checked) (os:=os) (X:=fun w _=>laidMetH Tryz.prog Rows.bookNamesRow.laid w) false (World.laidAll Tryz.prog os Rows.bookNamesRow.laid) #[] 8 (World.laidAll_os _ _ _)
   (World.shaped_of_ZipB (by kernel_rfl) (by kernel_rfl)) (by kernel_rfl) (by kernel_rfl) (by kernel_rfl)
   (by rw[MakeChecks.laidMetH_plain _ _ _ (by kernel_rfl)];exact laidMet_laidAll _ (by kernel_rfl) (by kernel_rfl))) ?_
 intro W base args ds gs before hval0 hW hL hsh;have hval:∀(j:Nat) t v,Tryz.f8.params[j]?=some t→args[j]?=some v→Value.okWide Tryz.prog W .any base t v:=hval0;rw[MakeChecks.laidMetH_plain _ _ _ (by kernel_rfl)]at hL;have hg:=Zgx hsh (Lib.laidMet.reads hL (by simp[Rows.bookNamesRow])) (Lib.laidMet.reads hL (by simp[Rows.bookNamesRow])) (Lib.laidMet.reads hL (by simp[Rows.bookNamesRow]));have hW':=hW;obtain⟨p,q,hA0,hV,rfl,hfz,hnd⟩:=hW;have hA:DataW.TrodAll enc Tryz.prog W 0 (fun _=>true) true Tryz.f8.params.toList args.toList ds p:=hA0;rw[Tryz.params8]at hA hval;obtain⟨rfl,rfl,rfl⟩:=trodAll_none hA;obtain⟨rfl,rfl⟩:=trodVars_none hV;refine(walkBookNames W hg).mono fun e W' ⟨he,hk⟩=>?_
 subst he;exact⟨_,rfl,Zex (tb:=4) laidP Zd5 fullP (by decide +kernel) rfl rfl rfl Tryz.underlying4 hW' hk⟩
end
section
open Go.RowKit
set_option maxRecDepth 100000
theorem bF0:(Rows.bookNamesRow.wf (OpenSpec.ofChange Rows.bookNamesSpec))=true:=by kernel_rfl
theorem bF1:(laidOutB Tryz.prog)=true:=laidP
theorem bF2:(mapsRowed Tryz.prog)=true:=Zd5
theorem bF3:(Tryz.f8.params.all (Tryz.prog.readableRec ·))=true:=by kernel_rfl
theorem bF4:(namedTie Tryz.prog Rows.bookNamesRow.named Rows.bookNamesSpec.vars)=true:=by kernel_rfl
theorem bF5:((Rows.bookNamesRow.stops==[]))=true:=by kernel_rfl
theorem bF6:((Tryz.prog.stops==[]))=true:=by kernel_rfl
theorem bF7:((Rows.bookNamesRow.knobs==[]))=true:=by kernel_rfl
theorem bF8:((Tryz.prog.stopKnobs==[]))=true:=by kernel_rfl
theorem bF9:((Rows.bookNamesRow.inPlace==Tryz.prog.inPlace 8))=true:=by kernel_rfl
theorem bF10:((Rows.bookNamesRow.unfollowed==Tryz.prog.unfollowed 8))=true:=by kernel_rfl
theorem bF11:((Rows.bookNamesRow.recurses==Tryz.prog.recurses 8))=true:=by kernel_rfl
theorem bF12:((Rows.bookNamesRow.named==Tryz.prog.varsNamed 8))=true:=by kernel_rfl
theorem bF13:((Rows.bookNamesRow.maps==(Tryz.f8.params.toList++Rows.bookNamesSpec.plain.varTypes Tryz.prog).any (Tryz.prog.mapsRec ·)))=true:=by kernel_rfl
theorem bF14:((Rows.bookNamesRow.ifaces==(Tryz.f8.params.toList++Rows.bookNamesSpec.plain.varTypes Tryz.prog).any (Tryz.prog.ifacesRec ·)))=true:=by kernel_rfl
theorem bF15:((Rows.bookNamesRow.mapsOut==Tryz.prog.mapsAmong Tryz.f8.resultTypes.toList))=true:=by kernel_rfl
theorem bF16:((Rows.bookNamesRow.loops==(Tryz.f8.params.toList++Rows.bookNamesSpec.plain.varTypes Tryz.prog).any (Tryz.prog.loopsFrom ·)))=true:=by kernel_rfl
theorem bF17:((Rows.bookNamesRow.wideKeys==(Tryz.f8.params.toList++Rows.bookNamesSpec.plain.varTypes Tryz.prog++Tryz.f8.resultTypes.toList).any (Tryz.prog.wideKeysFrom ·)))=true:=by kernel_rfl
theorem bF18:(Rows.bookNamesSpec.vars.all (Tryz.prog.varReadable ·))=true:=by kernel_rfl
theorem bF19:(Tryz.f8.resultTypes.all (fun t=>Tryz.prog.readableRec t&&decide (t<Tryz.prog.types.size)))=true:=by kernel_rfl
theorem bF20:((Rows.bookNamesRow.ifacesOut==Tryz.f8.resultTypes.toList.any (Tryz.prog.ifacesRec ·)))=true:=by kernel_rfl
theorem bF21:((Rows.bookNamesRow.loopsOut==Tryz.f8.resultTypes.toList.any (Tryz.prog.loopsFrom ·)))=true:=by kernel_rfl
theorem bF22:((Rows.bookNamesRow.plainKeys==Tryz.prog.plainKeys))=true:=by kernel_rfl
theorem bF23:(Rows.bookNamesRow.shortTexts.isNone)=true:=by kernel_rfl
theorem bF24:(Tryz.prog.stopsHeard)=true:=by kernel_rfl
theorem bF25:(Tryz.prog.mayEnter)=true:=by kernel_rfl
theorem bF26:((Rows.bookNamesRow.lifted==Tryz.prog.liftsFinal))=true:=by kernel_rfl
theorem bF27:((Tryz.prog.make==some Rows.bookNamesRow.make))=true:=by kernel_rfl
theorem bF28:((Rows.bookNamesRow.kinds==(if Rows.bookNamesRow.domain.isEmpty then[]else Tryz.f8.params.toList.map fun t=>match Tryz.prog.underlying t with|some (.int k)=>some k|_=>none)))=true:=by kernel_rfl
theorem bF29:((Rows.bookNamesRow.pinned==Rows.bookNamesRow.pinnedBy))=true:=by kernel_rfl
theorem bF30:((Rows.bookNamesRow.veiled==(Tryz.f8.params.toList++Rows.bookNamesSpec.plain.varTypes Tryz.prog++Tryz.f8.resultTypes.toList).any (Tryz.prog.veiledRec ·)))=true:=by kernel_rfl
theorem bF31:(Rows.bookNamesRow.veiledFits Tryz.prog Tryz.f8.params.toList (Tryz.f8.params.toList++Rows.bookNamesSpec.plain.varTypes Tryz.prog++Tryz.f8.resultTypes.toList))=true:=by kernel_rfl
theorem bFJoined:joinedFacts Tryz.pinned.checked.prog 8 Tryz.f8 Rows.bookNamesSpec Rows.bookNamesRow=true:=
 Zb7 bF0 bF1 bF2 bF3 bF4 bF5 bF6 bF7 bF8 bF9 bF10 bF11 bF12 bF13 bF14 bF15 bF16 bF17 bF18 bF19 bF20 bF21 bF22 bF23 bF24 bF25 bF26 bF27 bF28 bF29 bF30 bF31
end
section
open Go.ChangeShapes Go.WideShapes Go.ChangeAt Go.RowKit
set_option maxRecDepth 100000
theorem bFHanded (os:Os)(started:os.Started)(H:Type)(enc:TypeId×Value→H):ReturnsInHanded Rows.bookNamesRow.assume Tryz.pinned.checked os 8 .any (Rows.bookNamesRow.pre enc Tryz.pinned.checked.prog Tryz.f8 (OpenSpec.ofChange Rows.bookNamesSpec)) (Rows.bookNamesSpec.post enc Tryz.pinned.checked.prog Tryz.f8 Rows.bookNamesRow.apart Rows.bookNamesRow.fresh Rows.bookNamesRow.handsOn Rows.bookNamesRow.again):=liftedBookNames os started H enc
theorem overBookNames:Rows.bookNamesRow.holds Tryz.pinned (OpenSpec.ofChange Rows.bookNamesSpec):=
 OpenClaim.holds_of_wide 8 Tryz.f8 rfl rfl rfl rfl rfl rfl rfl ⟨rfl,rfl,rfl,rfl,rfl⟩ rfl rfl rfl rfl rfl (by kernel_rfl) Tryz.func8 bFJoined
  (of_decide_eq_true (by kernel_rfl)) (by unfold Func.isWrapper;first|(rw[if_pos (by decide +kernel)];kernel_rfl)|(rw[if_neg (by decide +kernel)];exact⟨rfl,rfl⟩))
  (fun os started H enc _=>bFHanded os started H enc)
theorem bFWf:Rows.bookNamesRow.wfByText (OpenSpec.ofChange Rows.bookNamesSpec)=true:=by kernel_rfl
theorem bFMain : Tryz.pinned.checked.prog.mainIs = some (true, "429b1301e4e9e14836810d17c619d588cb37bbf0a235cc417304b7271646d6e2".toList) := by kernel_rfl
theorem bFLooks:true=Tryz.pinned.checked.prog.looks []:=by kernel_rfl
theorem bFBy:false=Rows.bookNamesRow.goesBy Tryz.pinned.checked.prog:=by kernel_rfl
theorem bFNamed : Tryz.prog.funcNamed "tensile/tensilelaw12.BookNames" = some 8 := by kernel_rfl
theorem bFStand:([].all fun u=>!Tryz.prog.wantsStandIn u)=true:=by kernel_rfl
theorem cardBookNames:Rows.BookNamesCardSaid:=
 Claim7.holds_tied_plain_at .later [] [.data, .data, .data, .data, .sentinel, .sentinel, .pinned] true (true, "429b1301e4e9e14836810d17c619d588cb37bbf0a235cc417304b7271646d6e2") true
  overBookNames (fun _ h=>by cases h) bFWf (fun _ h=>by cases h) bookNames_row_tie rfl ⟨rfl,rfl⟩ bFMain rfl
  (fun f fn hf hfn=>by
   obtain rfl:f=8:=Option.some.inj (bFNamed.symm.trans hf) |>.symm;obtain rfl:fn=Tryz.f8:=(Option.some.inj (Tryz.func8.symm.trans hfn)).symm;exact⟨bFLooks,fun j t ht=>by
    rw[Tryz.params8]at ht;have hm:t∈([]:List TypeId):=by simpa using Array.mem_of_getElem? ht
    exact(show Tryz.prog.wantsStandIn t=false by simpa using Zuo.1 bFStand t hm)⟩)
  bFBy
end
end Go.Proofs.YteknmiggbkhdoaaGreatDoor
