/- The registrar's book: what the statement needs, joined and shortened by program. -/
import Derived.Test.YtfpmaennjlggeaaGreatDoorP2
import Derived.Test.YtfpmaennjlggeaaGreatDoorP3
import Derived.Test.YtfpmaennjlggeaaGreatDoorP1
import Derived.Test.YtfpmaennjlggeaaGreatDoorProg
import Derived.Test.YtfpmaennjlggeaaGreatDoorRows
import Derived.WalkKit
import Derived.ProofKit
import Derived.OpenShut
import Derived.Handed
import Derived.Lay
import Derived.MakeChecks
import Derived.LaidLaws
import Derived.Lib.LaidTab
import Derived.Lib.LaidU8
import Derived.Shelf.Vars
import Derived.Test.YtfpmaennjlggeaaGreatDoorP0
import Derived.Shelf.Spec.SlicesInsertGrow
import Derived.StillTailTactics
import Derived.Deep.QuietTactic
import Derived.BigQuiet
import Derived.Lib.Builder
import Derived.Shelf.Strings.BuilderX
import Derived.Shelf.RegionOpenPlain
import Derived.Lib.Strings
import Derived.Lib.Walk
import Derived.Lib.AppendStr
import Derived.Lib.AppendZeros
import Derived.Lib.UnsafeStr
import Derived.Laws.Externs
import Derived.Lib.ItoaLen
import Derived.JoinedOf
import Derived.Test.YtfpmaennjlggeaaGreatDoorCards
import Derived.Test.YtfpmaennjlggeaaGreatDoorTie
import Derived.SevenTiedAt
import Derived.Lib.AtoiTie
set_option linter.unusedSimpArgs false
set_option linter.unusedVariables false
namespace Go.Proofs.YtfpmaennjlggeaaGreatDoor
section
open Go.RowKit
theorem Sub.cut {σ:AS}{s:Site}{e n:Nat}{xs:List PV}(k:Nat)(hb:σ.b s=some (.arr e n xs)):Sub (σ.set s (.arr e n (xs.take k))) σ:=fun _ _ _ _ ρ m act w hS=>by
 refine⟨ρ,m,hS.rebox hb ?_ (fun j hj=>?_)⟩
 ·obtain⟨hn,h|⟨hr,cs,g1,g2,g3,g4,g5⟩⟩:=hS.bx s _ hb
  ·exact⟨hn,.inl ⟨h.1,by rw[h.2.1];simp,h.2.2⟩⟩
  ·refine⟨hn,.inr ⟨hr,cs,g1,g2,by rw[Zv8];omega,g4,fun i x hi=>?_⟩⟩;rw[Zwi]at hi;split at hi
   ·exact g5 i x hi
   ·cases hi
 ·obtain⟨r1,r2⟩:=Zbp rfl hj;exact .inl ⟨r1,r2⟩
theorem cutW {σ:AS}(s:Site){e n:Nat}{xs:List PV}(k:Nat)(ys:List PV)(hb:σ.b s=some (.arr e n xs))(hy:xs.take k=ys):Sub (σ.set s (.arr e n ys)) σ:=by
 subst hy;exact Sub.cut k hb
end
end Go.Proofs.YtfpmaennjlggeaaGreatDoor
namespace Go.Proofs.YtfpmaennjlggeaaGreatDoor.Qn
section
open Go.RowKit
set_option maxRecDepth 10000
theorem PW.set {q:Qu}{p:List (List Int)}(hp:PW q p){h m:Nat}{x:Int}(hh:h<p.length)(hx:x = -1∨(0≤x∧x<q.rs.length)):PW q (setP p h m x):=by
 refine⟨Zji hp.f hh,fun l hl y hy=>?_,by rw[ZcH];exact hp.l⟩;rcases List.mem_or_eq_of_mem_set hl with h1|h1
 ·exact hp.ok l h1 y hy
 ·subst h1;have e:p[h]?=some p[h]:=ZvZ hh;rw[e]at hy;simp only[ZwG]at hy;rcases List.mem_or_eq_of_mem_set hy with h2|h2
  ·exact hp.ok _ (ZwA hh) y h2
  ·subst h2;exact hx
theorem PW.chg1 {q:Qu}{p:List (List Int)}(hp:PW q p){n b:Nd}(hn:n.ok q p)(hb:b.ok q p):PW q (chg1 n b p):=by
 cases n with
 |ru r=>cases b<;>exact hp
 |rh r h=>
  cases b with
  |mh m h'=>exact hp.set hn.2 (.inl rfl)
  |ru r'=>exact hp
  |rh r' h'=>exact hp
 |mh m h=>
  refine hp.set hn.2 ?_;cases b with
  |ru r=>right;have:r<q.rs.length:=hb;show 0≤(r:Int)∧(r:Int)<_;omega
  |rh r h'=>right;have:r<q.rs.length:=hb.1;show 0≤(r:Int)∧(r:Int)<_;omega
  |mh m' h'=>exact .inl rfl
theorem PW.chg {q:Qu}{p0:List (List Int)}{by':By}(hb:ByOk q p0 by'):∀(f:Nat) (n:Nd) (p:List (List Int)),PW q p→p.length=p0.length→PW q (chg by' f n p)∧(Go.Proofs.YtfpmaennjlggeaaGreatDoor.Qn.chg by' f n p).length=p0.length
 |0,n,p,hp,hl=>⟨hp,hl⟩
 |f+1,n,p,hp,hl=>by
  unfold Go.Proofs.YtfpmaennjlggeaaGreatDoor.Qn.chg;cases hpn:par by' n with
  |none=>exact⟨hp,hl⟩
  |some b=>
   simp only;split
   ·exact⟨hp,hl⟩
   ·have hmem:(n,b)∈by':=by
     unfold par at hpn;obtain⟨e,he,rfl⟩:=Zv4.1 hpn;have h1:=List.find?_some he;simp only[decide_eq_true_eq]at h1;subst h1;exact List.mem_of_find?_eq_some he
    obtain⟨h1,h2⟩:=hb.ok _ hmem;exact PW.chg hb f b _ (hp.chg1 (Nd.ok_len hl h1) (Nd.ok_len hl h2)) (by rw[Zmx];exact hl)
theorem ZsK {q:Qu}(hq:q.ok){p:List (List Int)}(hp:PW q p):∀(f:Nat) (by':By) (todo:List Nd),BW q p (by',todo)→∀p',bfs q p f by' todo=some p'→PW q p'∧p'.length=p.length
 |0,by',todo,_,p',h=>by cases h
 |f+1,by',[],_,p',h=>by cases h
 |f+1,by',n::rest,hB,p',h=>by
  obtain⟨i0,b0,hi0⟩:=hB.t n (by simp);have okn:=(hB.b.ok _ (Zv3 hi0)).1;rw[bfs]at h;by_cases hf:Za6 p n=true
  ·rw[if_pos hf]at h;cases h;exact PW.chg hB.b _ _ _ hp rfl
  ·rw[if_neg hf]at h;have hff:Za6 p n=false:=by simpa using hf
   exact ZsK hq hp f _ _ (BW.pushes _ hB.tail ⟨i0,b0,hi0⟩ (nx_ok hq hp okn hff)).1 p' h
theorem ZiO {F:Nat}{q:Qu}(hq:q.ok){p:List (List Int)}(hp:PW q p){run:Nat}(hr:run<q.rs.length){p':List (List Int)}(h:giveP F q p run=some p'):PW q p'∧p'.length=p.length:=
 ZsK hq hp F _ _ (BW.start hr) p' h
def delM (F:Nat)(q:Qu):List (List Int)→List Nat→List (List Int)×List Nat
 |p,[]=>(p,[])
 |p,r::l=>match giveP F q p r with
  |some p'=>delM F q p' l
  |none=>((delM F q p l).1,r::(delM F q p l).2)
def ixM (F:Nat)(q:Qu)(p:List (List Int)):List Nat→Option (Nat×List (List Int))
 |[]=>none
 |r::l=>match giveP F q p r with
  |some p'=>some (0,p')
  |none=>(ixM F q p l).map fun s=>(s.1+1,s.2)
theorem Zpw {F:Nat}{q:Qu}{p:List (List Int)}:∀l:List Nat,delM F q p l=match ixM F q p l with
  |none=>(p,l)
  |some (i,p')=>((delM F q p' (l.drop (i+1))).1,l.take i++(delM F q p' (l.drop (i+1))).2)
 |[]=>rfl
 |r::l=>by
  have ih:=Zpw (F:=F) (q:=q) (p:=p) l;have e1:delM F q p (r::l)=match giveP F q p r with
   |some p'=>delM F q p' l
   |none=>((delM F q p l).1,r::(delM F q p l).2):=rfl
  have e2:ixM F q p (r::l)=match giveP F q p r with
   |some p'=>some (0,p')
   |none=>(ixM F q p l).map fun s=>(s.1+1,s.2):=rfl
  rw[e1,e2];cases hg:giveP F q p r with
  |some p'=>simp
  |none=>
   simp only;rw[ih];cases hx:ixM F q p l with
   |none=>rfl
   |some s=>obtain⟨i,p'⟩:=s;simp
theorem ZiT {F:Nat}{q:Qu}(hq:q.ok):∀(l:List Nat) (p:List (List Int)),PW q p→(∀r∈l,r<q.rs.length)→PW q (delM F q p l).1∧(delM F q p l).1.length=p.length∧(∀r∈(delM F q p l).2,r∈l)∧(delM F q p l).2.length≤l.length
 |[],p,hp,_=>⟨hp,rfl,fun r h=>h,Zv5 _⟩
 |r::l,p,hp,hl=>by
  unfold delM;cases hg:giveP F q p r with
  |some p'=>
   obtain⟨h1,h2⟩:=ZiO hq hp (hl r (by simp)) hg;obtain⟨k1,k2,k3,k4⟩:=ZiT hq l p' h1 (fun r h=>hl r (by simp[h]));exact⟨k1,k2.trans h2,fun r h=>by simp[k3 r h],by rw[Zws];exact Nat.le_succ_of_le k4⟩
  |none=>
   obtain⟨k1,k2,k3,k4⟩:=ZiT hq l p hp (fun r h=>hl r (by simp[h]));refine⟨k1,k2,fun r' h=>?_,by simpa using k4⟩;rcases Zwg.1 h with h|h
   ·simp[h]
   ·simp[k3 r' h]
def layM (F:Nat)(q:Qu):Nat→List (List Int)→List Nat→Option (List (List Int))
 |_,p,[]=>some p
 |0,_,_::_=>none
 |n+1,p,r::l=>if p.length=40 then none else layM F q n (delM F q (p++[idle4]) (r::l)).1 (delM F q (p++[idle4]) (r::l)).2
def Qu.units (q:Qu):List Nat:=(List.range q.rs.length).flatMap fun i=>List.replicate (q.run i).hours.toNat i
def Qu.layP (F:Nat)(q:Qu):Option (List (List Int)):=layM F q 41 [] q.units
theorem PW.more {q:Qu}{p:List (List Int)}(hp:PW q p)(hl:p.length<40):PW q (p++[idle4]):=
 ⟨fun l h=>by
  rcases Zwv.1 h with h|h
  ·exact hp.f l h
  ·simp at h;subst h;rfl,fun l h x hx=>by
  rcases Zwv.1 h with h|h
  ·exact hp.ok l h x hx
  ·simp at h;subst h;simp[idle4]at hx;exact .inl hx,by simp;omega⟩
theorem PW.nil {q:Qu}:PW q []:=⟨fun l h=>(by simp at h),fun l h=>(by simp at h),by simp⟩
theorem layM_PW {F:Nat}{q:Qu}(hq:q.ok):∀(n:Nat) (p:List (List Int)) (l:List Nat),PW q p→(∀r∈l,r<q.rs.length)→∀p',layM F q n p l=some p'→PW q p'
 |n,p,[],hp,_,p',h=>by cases n<;>(simp only[layM]at h;cases h;exact hp)
 |0,p,r::l,_,_,p',h=>by cases h
 |n+1,p,r::l,hp,hl,p',h=>by
  unfold layM at h;split at h
  ·cases h
  ·rename_i h40;have h1:=hp.l;obtain⟨k1,k2,k3,k4⟩:=ZiT (F:=F) hq (r::l) _ (hp.more (by omega)) hl;exact layM_PW hq n _ _ k1 (fun x hx=>hl x (k3 x hx)) p' h
theorem units_lt {q:Qu}:∀r∈q.units,r<q.rs.length:=fun r hr=>by
 unfold Qu.units at hr;obtain⟨i,hi,h⟩:=List.mem_flatMap.1 hr;rw[List.mem_replicate]at h;rw[h.2];simpa using hi
end
end Go.Proofs.YtfpmaennjlggeaaGreatDoor.Qn
namespace Go.Proofs.YtfpmaennjlggeaaGreatDoor
section
open Go.RowKit
set_option maxRecDepth 100000
noncomputable section
def L155:LFn:=⟨51,(.seq (.region [⟨(some 4),none,(.mov (.c (.int .u64 (0)))),true⟩,⟨(some 5),none,(.mov (.c (.int .u64 (0)))),true⟩]) (.seq (.region [⟨(some 14),none,(.mov (.t 0)),true⟩,⟨(some 15),none,(.bin false .and (.t 14) (.c (.int .u64 (4294967295)))),true⟩,⟨(some 6),none,(.mov (.t 15)),true⟩]) (.seq (.region [⟨(some 16),none,(.mov (.t 0)),true⟩,⟨(some 17),none,(.bin false .shr (.t 16) (.c (.int .u64 (32)))),true⟩,⟨(some 7),none,(.mov (.t 17)),true⟩]) (.seq (.region [⟨(some 18),none,(.mov (.t 1)),true⟩,⟨(some 19),none,(.bin false .and (.t 18) (.c (.int .u64 (4294967295)))),true⟩,⟨(some 8),none,(.mov (.t 19)),true⟩]) (.seq (.region [⟨(some 20),none,(.mov (.t 1)),true⟩,⟨(some 21),none,(.bin false .shr (.t 20) (.c (.int .u64 (32)))),true⟩,⟨(some 9),none,(.mov (.t 21)),true⟩]) (.seq (.region [⟨(some 22),none,(.mov (.t 6)),true⟩,⟨(some 23),none,(.mov (.t 8)),true⟩,⟨(some 24),none,(.bin false .mul (.t 22) (.t 23)),true⟩,⟨(some 10),none,(.mov (.t 24)),true⟩]) (.seq (.region [⟨(some 25),none,(.mov (.t 7)),true⟩,⟨(some 26),none,(.mov (.t 8)),true⟩,⟨(some 27),none,(.bin false .mul (.t 25) (.t 26)),true⟩,⟨(some 28),none,(.mov (.t 10)),true⟩,⟨(some 29),none,(.bin false .shr (.t 28) (.c (.int .u64 (32)))),true⟩,⟨(some 30),none,(.bin false .add (.t 27) (.t 29)),true⟩,⟨(some 11),none,(.mov (.t 30)),true⟩]) (.seq (.region [⟨(some 31),none,(.mov (.t 11)),true⟩,⟨(some 32),none,(.bin false .and (.t 31) (.c (.int .u64 (4294967295)))),true⟩,⟨(some 12),none,(.mov (.t 32)),true⟩]) (.seq (.region [⟨(some 33),none,(.mov (.t 11)),true⟩,⟨(some 34),none,(.bin false .shr (.t 33) (.c (.int .u64 (32)))),true⟩,⟨(some 13),none,(.mov (.t 34)),true⟩]) (.seq (.region [⟨(some 35),none,(.mov (.t 12)),true⟩,⟨(some 36),none,(.mov (.t 6)),true⟩,⟨(some 37),none,(.mov (.t 9)),true⟩,⟨(some 38),none,(.bin false .mul (.t 36) (.t 37)),true⟩,⟨(some 39),none,(.bin false .add (.t 35) (.t 38)),true⟩,⟨(some 12),none,(.mov (.t 39)),true⟩]) (.seq (.region [⟨(some 40),none,(.mov (.t 7)),true⟩,⟨(some 41),none,(.mov (.t 9)),true⟩,⟨(some 42),none,(.bin false .mul (.t 40) (.t 41)),true⟩,⟨(some 43),none,(.mov (.t 13)),true⟩,⟨(some 44),none,(.bin false .add (.t 42) (.t 43)),true⟩,⟨(some 45),none,(.mov (.t 12)),true⟩,⟨(some 46),none,(.bin false .shr (.t 45) (.c (.int .u64 (32)))),true⟩,⟨(some 47),none,(.bin false .add (.t 44) (.t 46)),true⟩,⟨(some 4),none,(.mov (.t 47)),true⟩]) (.seq (.region [⟨(some 48),none,(.mov (.t 0)),true⟩,⟨(some 49),none,(.mov (.t 1)),true⟩,⟨(some 50),none,(.bin false .mul (.t 48) (.t 49)),true⟩,⟨(some 5),none,(.mov (.t 50)),true⟩]) .ret)))))))))))),[(.tm 4),(.tm 5)]⟩
theorem L155_ok:litF Tryz.prog 155=some L155:=by kernel_rfl
def L113:LFn:=⟨30,(.seq (.region [⟨(some 4),none,(.mov (.c (.int .u64 (0)))),true⟩,⟨(some 5),none,(.mov (.c (.int .u64 (0)))),true⟩]) (.seq (.cond (.c (.bool false)) (.seq (.region [⟨(some 11),none,(.mov (.t 0)),true⟩,⟨(some 12),none,(.conv .u32 (.t 11)),true⟩,⟨(some 13),none,(.mov (.t 1)),true⟩,⟨(some 14),none,(.conv .u32 (.t 13)),true⟩,⟨(some 15),none,(.call (.c (.fn 154 [] [])) [(.t 12),(.t 14)]),true⟩,⟨(some 10),none,(.mov (.t 15)),true⟩,⟨(some 16),none,(.ext (.t 10) 0),true⟩,⟨(some 17),none,(.ext (.t 10) 1),true⟩,⟨(some 6),none,(.mov (.t 16)),true⟩,⟨(some 7),none,(.mov (.t 17)),true⟩]) (.seq (.region [⟨(some 18),none,(.mov (.t 6)),true⟩,⟨(some 19),none,(.conv .u64 (.t 18)),true⟩,⟨(some 20),none,(.mov (.t 7)),true⟩,⟨(some 21),none,(.conv .u64 (.t 20)),true⟩,⟨(some 4),none,(.mov (.t 19)),true⟩,⟨(some 5),none,(.mov (.t 21)),true⟩]) .ret)) .skip) (.seq (.region [⟨(some 23),none,(.mov (.t 0)),true⟩,⟨(some 24),none,(.mov (.t 1)),true⟩,⟨(some 25),none,(.call (.c (.fn 155 [] [])) [(.t 23),(.t 24)]),true⟩,⟨(some 22),none,(.mov (.t 25)),true⟩,⟨(some 26),none,(.ext (.t 22) 0),true⟩,⟨(some 27),none,(.ext (.t 22) 1),true⟩,⟨(some 8),none,(.mov (.t 26)),true⟩,⟨(some 9),none,(.mov (.t 27)),true⟩]) (.seq (.region [⟨(some 28),none,(.mov (.t 8)),true⟩,⟨(some 29),none,(.mov (.t 9)),true⟩,⟨(some 4),none,(.mov (.t 28)),true⟩,⟨(some 5),none,(.mov (.t 29)),true⟩]) .ret)))),[(.tm 4),(.tm 5)]⟩
theorem L113_ok:litF Tryz.prog 113=some L113:=by kernel_rfl
end
end
end Go.Proofs.YtfpmaennjlggeaaGreatDoor
namespace Go.Proofs.YtfpmaennjlggeaaGreatDoor.Qn
section
open Go.RowKit
attribute [local simp] Box.purge Site.isLoc
set_option maxRecDepth 10000
attribute [local simp] retFz frzL AS.frz AV.frz AV.frzL Box.frz AS.tidy AS.frzC
theorem and32 (c:Fin 41):(BitVec.ofNat 64 c.1&&& 4294967295#64).toNat=c.1:=by revert c;decide
theorem ZtT (c:Nat)(hc:c≤40):Gives Tryz.prog 155 [.int .u64 1,.int .u64 c] (.tup [.int .u64 0,.int .u64 c]):=by
 have h1:=and32 ⟨c,by omega⟩;simp only at h1;have w0:IntKind.u64.wrap 0=0:=rfl;have w1:IntKind.u64.wrap 1=1:=rfl;have hw:∀n:Nat,n≤40→IntKind.u64.wrap (n:Int)=n:=fun n hn=>by rw[show IntKind.u64.wrap (n:Int)=(n:Int)%18446744073709551616 from rfl];omega
 have hd:∀n:Nat,n≤40→(n:Int).fdiv 4294967296=0:=fun n hn=>by rw[Int.fdiv_eq_ediv_of_nonneg _ (by omega)];omega
 refine cS L155 ?_;simp[-getElem?_pos,L155,IntKind.bits,h1,w0,w1,hw c hc,hd c hc];exact(by decide +kernel:∀c:Fin 41,IntKind.u64.wrap
   (IntKind.u64.wrap
     ((IntKind.u64.wrap
        ((IntKind.u64.wrap (IntKind.u64.wrap ((BitVec.ofNat 64 c.1&&& 4294967295#64).toNat:Int))).fdiv
         4294967296)).fdiv
      4294967296) +
    (IntKind.u64.wrap
       (IntKind.u64.wrap
        ((BitVec.ofInt 64
            (IntKind.u64.wrap
             ((IntKind.u64.wrap (IntKind.u64.wrap ((BitVec.ofNat 64 c.1&&& 4294967295#64).toNat:Int))).fdiv
              4294967296))&&&
           4294967295#64).toNat:Int))).fdiv
     4294967296) =
  0) ⟨c,by omega⟩
theorem mul_c (c:Nat)(hc:c≤40):Gives Tryz.prog 113 [.int .u64 1,.int .u64 c] (.tup [.int .u64 0,.int .u64 c]):=by
 refine cS L113 ?_;simp[-getElem?_pos,L113];refine Zaa (k:=0) (fs:=[]) (cs:=[]) rfl rfl (ZtT c hc) rfl ?_;simp[-getElem?_pos]
def repV (v:Int)(c n:Nat):List PV:=List.replicate n (.int .i64 v)++List.replicate (c-n) (.int .i64 0)
theorem Zqu {v:Int}{c n:Nat}(h:n≤c):(repV v c n).length=c:=by simp[repV];omega
theorem Zjn {v:Int}{c n:Nat}:(repV v c n).take n=List.replicate n (.int .i64 v):=by simp[repV]
theorem Zn9 {v:Int}{c n:Nat}(h:n≤c):splice (repV v c n) n ((List.replicate n (PV.int .i64 v)).take (c-n))=repV v c (n+min n (c-n)):=by
 unfold splice repV;rw[List.take_replicate,List.length_replicate,List.take_append_of_le_length (by simp),Zv9 (by simp),List.drop_append,List.length_replicate,List.drop_replicate,List.drop_replicate,←ZwQ];rw[show n-(n+min (c-n) n)=0 by omega,List.replicate_zero,Zwn,List.replicate_append_replicate];congr 2<;>omega
set_option maxHeartbeats 4000000 in
theorem Zqt (v:Int)(c:Nat)(hc:c≤40):Gives Tryz.prog 64 [.lst false 1 [.int .i64 v],.int .i64 c] (.lst false 1 (List.replicate c (.int .i64 v))):=by
 have hw:∀n:Nat,n≤40→IntKind.u64.wrap (n:Int)=n:=fun n hn=>by rw[show IntKind.u64.wrap (n:Int)=(n:Int)%18446744073709551616 from rfl];omega
 have hi:∀n:Nat,n≤1000→IntKind.i64.wrap (n:Int)=n:=fun n hn=>wrap64 (by omega)
 have w1:IntKind.u64.wrap 1=1:=rfl;have hc0:¬((c:Int)<0):=by omega
 have hcb:¬((9223372036854775807:Int)<(c:Int)):=by omega
 have hc6:c≤1000000:=by omega
 refine cF [.loc 30 0] L64 ?_;simp[-getElem?_pos,L64,hw c hc,w1,hc0];refine Zaa (k:=0) (fs:=[]) (cs:=[]) rfl rfl (mul_c c hc) rfl ?_;simp[-getElem?_pos,-splice,hcb,hi c (by omega),nble,hc6];refine Zae (fun k τ=>∃n:Nat,n≤c∧(0<n∨c=0)∧k=c-n∧τ=⟨[(7,.vec (.loc 30 0) 1 0 c),(8,.pv (.int .i64 n))],[(.loc 30 0,.arr 3 1 (repV v c n))]⟩)
  ⟨c-min c 1,⟨[(7,.vec (.loc 30 0) 1 0 c),(8,.pv (.int .i64 (min c 1:Nat)))],[(.loc 30 0,.arr 3 1 (repV v c (min c 1)))]⟩,Sub.mk ?_ ?_,min c 1,by omega,by omega,rfl,rfl⟩ ?_
 ·simp
 ·cases c with
  |zero=>simp[-splice,repV,splice]
  |succ c=>simp[-splice,repV,splice]
 rintro J hJ k τ ⟨n,hn,hn0,rfl,rfl⟩;have hln:=Zqu (v:=v) hn;by_cases hlt:n<c
 ·have hround:=hJ _ _ ⟨n+min n (c-n),by omega,by omega,rfl,rfl⟩;have htk:=Zjn (v:=v) (c:=c) (n:=n);have hnx:=Zn9 (v:=v) hn;have hlt':(n:Int)<(c:Int):=by omega
  have hmeas:c-(n+min n (c-n))<c-n:=by omega
  have hwn:IntKind.i64.wrap ((n:Int)+(min (c-n) n:Nat))=((n+min n (c-n):Nat):Int):=by rw[wrap64 (by omega)];omega
  have hnc:n+(c-n)=c:=by omega
  clear hJ;simp[-getElem?_pos,-splice,-List.take_replicate,hlt,hlt',nble,nblt,hn,hln,htk,hnx,hnc,hwn];refine⟨_,_,hmeas,Sub.mk ?_ ?_,hround⟩
  ·simp
  ·simp
 ·have he:n=c:=by omega
  subst he;have htk:=Zjn (v:=v) (c:=n) (n:=n);simp[-getElem?_pos,-splice,htk,hln]
end
section
open Go.RowKit
set_option maxRecDepth 10000
attribute [local simp] AS.exp expG Box.ren AV.map AV.mapL Zaw noRet Site.isRet Box.allS AV.allS AV.allSL retB dropL AS.adds renL outG outOk Zau inG fnOf lookA Zww
attribute [local simp] Box.purge Site.isLoc
def natV (l:List Nat):List PV:=l.map fun r:Nat=>.int .i64 r
theorem Ziy {l:List Nat}{i r:Nat}(h:l[i]?=some r):(natV l)[i]?=some (.int .i64 r):=by rw[natV,Zv0,h];rfl
theorem Zix {l:List Nat}:(natV l).length=l.length:=by simp[natV]
def delB (q:Qu)(p:List (List Int))(l:List Nat):List Box:=.arr 3 1 (natV l)::layB q p 2
def ixI:Option (Nat×List (List Int))→Int
 |some s=>s.1
 |none=>-1
def ixQ (p:List (List Int)):Option (Nat×List (List Int))→List (List Int)
 |some s=>s.2
 |none=>p
def delF:AV:=.fn 67 [.ptr (.par 1) 0] []
set_option maxHeartbeats 4000000 in
theorem ix_c {F:Nat}(hF:407<F)(q:Qu)(hq:q.ok)(p:List (List Int))(hp:PW q p)(l:List Nat)(hl:l.length≤1000)(hin:∀r∈l,r<q.rs.length):
  Zak Tryz.prog 114 [.vec (.par 0) 1 0 l.length,delF] (laid 0 (delB q p l)) (fun x B=>x=.pv (.int .i64 (ixI (ixM F q p l)))∧B=laid 0 (delB q (ixQ p (ixM F q p l)) l)):=by
 refine cB [.par 0,.par 1,.par 2] L114 ?_;obtain⟨RES,hRES⟩:∃z,z=ixM F q p l:=⟨_,rfl⟩;rw[←hRES];generalize hR:(fun(x:AV) (B:List (Site×Box))=>x=.pv (.int .i64 (ixI RES))∧B=laid 0 (delB q (ixQ p RES) l))=R;simp[-getElem?_pos,L114,delB,delF,layB,laid];refine Zae (fun n τ=>∃k:Nat,k≤l.length∧n=l.length-k∧(ixM F q p (l.drop k)).map (fun s=>(s.1+k,s.2))=RES∧τ=⟨[(0,.vec (.par 0) 1 0 l.length),(1,delF),(7,.pv (.int .i64 l.length)),(8,.pv (.int .i64 k))],laid 0 (delB q p l)⟩)
  ⟨l.length,⟨[(0,.vec (.par 0) 1 0 l.length),(1,delF),(7,.pv (.int .i64 l.length)),(8,.pv (.int .i64 0))],laid 0 (delB q p l)⟩,Sub.mk (by simp[delF]) (by simp[delB,layB,laid]),0,Zwb _,rfl,by rw[hRES];simp,rfl⟩ ?_
 clear hRES;rintro J hJ n τ ⟨k,hk,rfl,hres,rfl⟩;by_cases hlt:k<l.length
 ·obtain⟨r,hx⟩:∃x,l[k]?=some x:=⟨l[k],ZvZ hlt⟩;have hg:=Ziy hx;have hln:=Zix (l:=l);have hw:=wrapS (k:=k) (by omega);have hmeas:l.length-(k+1)<l.length-k:=by omega
  have hdr:l.drop k=r::l.drop (k+1):=by
   rw[ZwZ hlt]
   have:l[k]=r:=by rw[ZvZ hlt]at hx;exact Option.some.inj hx
   rw[this]
  have hC:=ZoS hF q hq p hp r (hin r (Zv3 hx));rw[hdr]at hres;have e2:ixM F q p (r::l.drop (k+1))=match giveP F q p r with
   |some p'=>some (0,p')
   |none=>(ixM F q p (l.drop (k+1))).map fun s=>(s.1+1,s.2):=rfl
  rw[e2]at hres;clear e2 hdr;have hnext:giveP F q p r=none→J (l.length-(k+1)) _:=fun hn=>hJ _ _ ⟨k+1,hlt,rfl,by
   rw[hn]at hres;rw[←hres];cases ixM F q p (l.drop (k+1))with
   |none=>rfl
   |some s=>simp;omega,rfl⟩
  clear hJ;simp[-getElem?_pos,-List.getElem?_map,delB,delF,layB,laid,hlt,hg,hln,nblt,nble];refine Zac (as':=[.ptr (.par 0) 0,.pv (.int .i64 r)]) (B:=laid 0 (layB q p 1)) (fs:=[.ptr (.par 1) 0]) (cs:=[]) 16 [.par 1,.par 2] ?_ rfl rfl ?_ ?_ ?_ hC ?_
  ·rfl
  ·simp[layB,laid]
  ·rfl
  ·rfl
  rintro r0 B0 ⟨rfl,rfl⟩;refine⟨rfl,by simp[layB,laid],?_⟩;cases hgv:giveP F q p r with
  |none=>
   have hround:=hnext hgv;simp[-getElem?_pos,-List.getElem?_map,layB,laid,hw];refine⟨_,_,hmeas,Sub.mk ?_ ?_,hround⟩
   ·simp[delF]
   ·simp[delB,layB,laid]
  |some p'=>
   rw[hgv]at hres;simp only[Zwu,ZwC]at hres;subst hres;simp[-getElem?_pos,-List.getElem?_map,layB,laid];rw[←hR];simp[delB,layB,laid,ixI,ixQ]
 ·have he:k=l.length:=by omega
  subst he;rw[List.drop_length]at hres;have hno:RES=none:=by rw[←hres];rfl
  subst hno;simp[-getElem?_pos,-List.getElem?_map,delB,delF,layB,laid];rw[←hR];simp[delB,layB,laid,ixI,ixQ]
theorem ZsB {F:Nat}{q:Qu}(hq:q.ok){p:List (List Int)}(hp:PW q p):∀(l:List Nat),(∀r∈l,r<q.rs.length)→∀i p',ixM F q p l=some (i,p')→i<l.length∧PW q p'∧p'.length=p.length
 |[],_,i,p',h=>by cases h
 |r::l,hl,i,p',h=>by
  have e2:ixM F q p (r::l)=match giveP F q p r with
   |some p'=>some (0,p')
   |none=>(ixM F q p l).map fun s=>(s.1+1,s.2):=rfl
  rw[e2]at h;cases hg:giveP F q p r with
  |some p2=>
   rw[hg]at h;simp only[Option.some.injEq,Prod.mk.injEq]at h;obtain⟨rfl,rfl⟩:=h;obtain⟨h1,h2⟩:=ZiO hq hp (hl r (by simp)) hg;exact⟨by simp,h1,h2⟩
  |none=>
   rw[hg]at h;obtain⟨s,hs,he⟩:=Zv4.1 h;obtain⟨k,p3⟩:=s;simp only[Prod.mk.injEq]at he;obtain⟨rfl,rfl⟩:=he;obtain⟨h1,h2⟩:=ZsB hq hp l (fun x hx=>hl x (by simp[hx])) k p3 hs;exact⟨by simp;omega,h2⟩
def dlH (q:Qu)(p:List (List Int))(X:List Nat)(w j n:Nat):AS:=⟨[(0,.vec (.par 0) 1 0 n),(1,delF),(5,.pv (.int .i64 w)),(6,.pv (.int .i64 j))],laid 0 (delB q p X)⟩
theorem ZqO {X:List Nat}{w r:Nat}:(natV X).set w (.int .i64 r)=natV (X.set w r):=by rw[natV,natV,List.map_set]
set_option maxHeartbeats 4000000 in
theorem Zrr {F:Nat}(hF:407<F)(q:Qu)(hq:q.ok)(p:List (List Int))(hp:PW q p)(l:List Nat)(hl:l.length≤1000)(hin:∀r∈l,r<q.rs.length):
  Zak Tryz.prog 66 [.vec (.par 0) 1 0 l.length,delF] (laid 0 (delB q p l)) (fun x B=>x=.vec (.par 0) 1 0 (delM F q p l).2.length∧∃X:List Nat,X.take (delM F q p l).2.length=(delM F q p l).2∧B=laid 0 (delB q (delM F q p l).1 X)):=by
 obtain⟨RES,hRES⟩:∃z,z=delM F q p l:=⟨_,rfl⟩;rw[←hRES];have hC:=ix_c hF q hq p hp l hl hin;rw[Zpw]at hRES;refine cBR [.par 0,.par 1,.par 2] L66 ?_;intro R hR;have hixl:=ZsB (F:=F) hq hp l hin;simp[-getElem?_pos,L66,delB,layB,laid];refine Zac (as':=[.vec (.par 0) 1 0 l.length,delF]) (B:=laid 0 (delB q p l)) (fs:=[]) (cs:=[]) 10 [.par 0,.par 1,.par 2] ?_ rfl rfl ?_ ?_ ?_ hC ?_
 ·rfl
 ·simp[delB,layB,laid]
 ·simp[delF]
 ·simp[delF]
 rintro r0 B0 ⟨rfl,rfl⟩;refine⟨rfl,by simp[delB,layB,laid],?_⟩;cases hx:ixM F q p l with
 |none=>
  rw[hx]at hRES;simp only at hRES;subst hRES;simp[-getElem?_pos,delB,layB,laid,ixI,ixQ,delF];rw[←hR];exact⟨rfl,l,by simp,by simp[delB,layB,laid]⟩
 |some s=>
  obtain⟨i,p1⟩:=s;obtain⟨hi,hp1,_⟩:=hixl i p1 hx;rw[hx]at hRES;simp only at hRES;have hw1:=wrapS (k:=i) (by omega);have hni:¬((i:Int) = -1):=by omega
  clear hixl hC;simp[-getElem?_pos,delB,layB,laid,ixI,ixQ,delF,hw1,hni];refine Zae (fun n τ=>∃(j:Nat) (X K:List Nat) (p2:List (List Int)),j≤l.length∧n=l.length-j∧X.length=l.length∧X.take K.length=K∧X.drop j=l.drop j∧K.length<j∧PW q p2∧(delM F q p2 (l.drop j)).1=RES.1∧K++(delM F q p2 (l.drop j)).2=RES.2∧τ=dlH q p2 X K.length j l.length)
   ⟨l.length-(i+1),dlH q p1 l i (i+1) l.length,Sub.mk (by simp[delF]) (by simp[delB,layB,laid]),i+1,l,l.take i,p1,by omega,rfl,rfl,by simp,rfl,by rw[Zv8];omega,hp1,by rw[hRES],by rw[hRES],by rw[Zv8,Nat.min_eq_left (by omega)]⟩ ?_
  clear hRES hp1 hx hw1 hni;rintro J hJ n τ ⟨j,X,K,p2,hj,rfl,hXl,hXt,hXd,hKj,hp2,hr1,hr2,rfl⟩;have hln:=Zix (l:=X);by_cases hlt:j<l.length
  ·obtain⟨r,hxr⟩:∃x,l[j]?=some x:=⟨l[j],ZvZ hlt⟩;have hXr:X[j]?=some r:=by
    have h1:(X.drop j)[0]?=(l.drop j)[0]?:=by rw[hXd]
    rw[Zwj,Zwj,Nat.add_zero]at h1;rw[h1];exact hxr
   have hg:=Ziy hXr;have hw:=wrapS (k:=j) (by omega);have hw2:=wrapS (k:=K.length) (by omega);have hmeas:l.length-(j+1)<l.length-j:=by omega
   have hdr:l.drop j=r::l.drop (j+1):=by
    rw[ZwZ hlt]
    have:l[j]=r:=by rw[ZvZ hlt]at hxr;exact Option.some.inj hxr
    rw[this]
   have hC:=ZoS hF q hq p2 hp2 r (hin r (Zv3 hxr));have hdn:X.drop (j+1)=l.drop (j+1):=by
    have:=congrArg List.tail hXd
    simpa[List.tail_drop]using this
   rw[hdr]at hr1 hr2;have e2:delM F q p2 (r::l.drop (j+1))=match giveP F q p2 r with
    |some p'=>delM F q p' (l.drop (j+1))
    |none=>((delM F q p2 (l.drop (j+1))).1,r::(delM F q p2 (l.drop (j+1))).2):=rfl
   rw[e2]at hr1 hr2;clear e2 hdr;have hKl:K.length<X.length:=by omega
   have hset:∀Y,Y=X.set K.length r→giveP F q p2 r=none→J (l.length-(j+1)) (dlH q p2 Y (K.length+1) (j+1) l.length):=fun Y hY hn=>hJ _ _ ⟨j+1,Y,K++[r],p2,hlt,rfl,by rw[hY,List.length_set];exact hXl,by
    rw[hY,Zv7];show List.take (K.length+1) _=_;rw[Zwf,ZwX hKl,List.take_set_of_le (Zv5 _),hXt];rfl,by rw[hY,List.drop_set_of_lt (by omega)];exact hdn,by simp;omega,hp2,by rw[hn]at hr1;exact hr1,by rw[hn]at hr2;rw[ZwQ];exact hr2,by simp⟩
   have hgot:∀p3,giveP F q p2 r=some p3→J (l.length-(j+1)) (dlH q p3 X K.length (j+1) l.length):=fun p3 hn=>hJ _ _ ⟨j+1,X,K,p3,hlt,rfl,hXl,hXt,hdn,by omega,(ZiO hq hp2 (hin r (Zv3 hxr)) hn).1,by rw[hn]at hr1;exact hr1,by rw[hn]at hr2;exact hr2,rfl⟩
   clear hJ;have hlt2:j<X.length:=by omega
   have hKn:K.length<l.length:=by omega
   have hKx:(natV X)[K.length]?=some (.int .i64 (X[K.length]:Nat)):=Ziy (ZvZ hKl);have hst:=ZqO (X:=X) (w:=K.length) (r:=r);simp[-getElem?_pos,-List.getElem?_map,dlH,delB,delF,layB,laid,hlt,hg,hln,nblt,nble];refine Zac (as':=[.ptr (.par 0) 0,.pv (.int .i64 r)]) (B:=laid 0 (layB q p2 1)) (fs:=[.ptr (.par 1) 0]) (cs:=[]) 28 [.par 1,.par 2] ?_ rfl rfl ?_ ?_ ?_ hC ?_
   ·rfl
   ·simp[layB,laid]
   ·rfl
   ·rfl
   rintro r0 B0 ⟨rfl,rfl⟩;refine⟨rfl,by simp[layB,laid],?_⟩;cases hgv:giveP F q p2 r with
   |none=>
    have hround:=hset _ rfl hgv;simp[-getElem?_pos,-List.getElem?_map,layB,laid,hw,hw2,hKn,hKx,hst,nblt,nble,setAt];refine⟨_,_,hmeas,Sub.mk ?_ ?_,hround⟩
    ·simp[delF]
    ·simp[delB,layB,laid]
   |some p3=>
    have hround:=hgot p3 hgv;simp[-getElem?_pos,-List.getElem?_map,layB,laid,hw];refine⟨_,_,hmeas,Sub.mk ?_ ?_,hround⟩
    ·simp[delF]
    ·simp[delB,layB,laid]
  ·have he:j=l.length:=by omega
   subst he;rw[List.drop_length]at hr1 hr2;have hr1':p2=RES.1:=hr1;have hr2':K=RES.2:=by rw[←hr2];simp[delM]
   clear hJ hr1 hr2;have hK2:K.length≤l.length:=by omega
   have hKs:K.length+(l.length-K.length)=l.length:=by omega
   have hsp:splice (natV X) K.length (List.replicate (l.length-K.length) (PV.int .i64 0))=natV (K++List.replicate (l.length-K.length) 0):=by
    unfold splice natV;rw[List.length_replicate,hKs,List.drop_eq_nil_of_le (by simp;omega),Zwn,←List.map_take,hXt,Zwp,List.map_replicate];rfl
   simp[-getElem?_pos,-List.getElem?_map,-splice,dlH,delB,delF,layB,laid,nblt,nble,hK2,hKs,hln,hXl,hsp];rw[←hR,←hr1',←hr2'];exact⟨rfl,K++List.replicate (l.length-K.length) 0,by simp,by simp[delB,layB,laid]⟩
end
section
open Go.RowKit
set_option maxRecDepth 10000
attribute [local simp] AS.exp expG Box.ren AV.map AV.mapL Zaw noRet Site.isRet Box.allS AV.allS AV.allSL retB dropL AS.adds renL outG outOk Zau inG fnOf lookA Zww
attribute [local simp] Box.purge Site.isLoc
attribute [local simp] frzL AS.frz AV.frz AV.frzL Box.frz AS.tidy AS.frzC
def Qu.unitK (q:Qu)(k:Nat):List Nat:=((List.range q.rs.length).take k).flatMap fun i=>List.replicate (q.run i).hours.toNat i
theorem Qu.unitK_next {q:Qu}{k:Nat}(hk:k<q.rs.length):q.unitK (k+1)=q.unitK k++List.replicate (q.run k).hours.toNat k:=by
 have:(List.range q.rs.length)[k]?=some k:=by rw[List.getElem?_range hk]
 unfold Qu.unitK;rw[Zcs this,List.flatMap_append];simp
theorem Qu.unitK_len {q:Qu}(hq:q.ok):∀k,k≤q.rs.length→(q.unitK k).length≤40*k
 |0,_=>by simp[Qu.unitK]
 |k+1,hk=>by
  have h1:=Qu.unitK_len hq k (by omega);obtain⟨r,hr⟩:∃r,q.rs[k]?=some r:=⟨q.rs[k],ZvZ (by omega)⟩;have h2:=hq.h r (Zv3 hr);have h3:q.run k=r:=by simp[Qu.run,hr]
  rw[Qu.unitK_next (by omega),Zv7,List.length_replicate,h3];omega
theorem Qu.unitK_all {q:Qu}:q.unitK q.rs.length=q.units:=by
 unfold Qu.unitK Qu.units;rw[Zv9 (by simp)]
def Zk1 (q:Qu):Option (List (List Int))→AV→List (Site×Box)→Prop
 |none,x,B=>x=.pv (.tup [.nilp,.bool false])∧B=[]
 |some p,x,B=>x=.tup [.ptr (.ret 0) 0,.pv (.bool true)]∧B=[(.ret 0,.cells [.pv (.lst false 1 (q.ms.map rgsP)),.pv (.lst false 3 (q.rs.map Rq.pv)),.vec (.ret 1) 4 0 p.length]),(.ret 1,.arr 88 4 (plP p))]
def layS (q:Qu)(p:List (List Int))(left:List Nat):AS:=⟨[(4,.ptr (.loc 10 0) 0),(5,.vec (.loc 25 0) 1 0 left.length)],[(.loc 25 0,.arr 3 1 (natV left)),(.loc 10 0,.cells [.pv (.lst false 1 (q.ms.map rgsP)),.pv (.lst false 3 (q.rs.map Rq.pv)),.vec (.loc 43 0) 4 0 p.length]),(.loc 43 0,.arr 88 4 (plP p))]⟩
set_option maxHeartbeats 8000000 in
theorem lay_c {F:Nat}(hF:407<F)(q:Qu)(hq:q.ok):Zak Tryz.prog 28 [.pv q.pv] [] (Zk1 q (q.layP F)):=by
 have hqr:=hq.r;refine cE L28 ?_;obtain⟨RES,hRES⟩:∃z,z=q.layP F:=⟨_,rfl⟩;rw[←hRES];generalize hR:Zk1 q RES=R;simp[-getElem?_pos,L28,Qu.pv];refine Zae (fun n τ=>∃k:Nat,k≤q.rs.length∧n=q.rs.length-k∧τ=⟨[(4,.ptr (.loc 10 0) 0),(5,.vec (.loc 25 0) 1 0 (q.unitK k).length),(12,.pv (.lst false 3 (q.rs.map Rq.pv))),(13,.pv (.int .i64 q.rs.length)),(14,.pv (.int .i64 k))],[(.loc 25 0,.arr 3 1 (natV (q.unitK k))),(.loc 10 0,.cells [.pv (.lst false 1 (q.ms.map rgsP)),.pv (.lst false 3 (q.rs.map Rq.pv)),.pv (.emp (some true))])]⟩)
  ⟨q.rs.length,⟨[(4,.ptr (.loc 10 0) 0),(5,.vec (.loc 25 0) 1 0 0),(12,.pv (.lst false 3 (q.rs.map Rq.pv))),(13,.pv (.int .i64 q.rs.length)),(14,.pv (.int .i64 0))],[(.loc 25 0,.arr 3 1 []),(.loc 10 0,.cells [.pv (.lst false 1 (q.ms.map rgsP)),.pv (.lst false 3 (q.rs.map Rq.pv)),.pv (.emp (some true))])]⟩,Sub.trans' (Sub.mk (by simp[AS.vecT]) (by simp[AS.vecT])) (vecT 25 3 1 5 rfl (by decide)),0,Zwb _,rfl,by simp[Qu.unitK,natV]⟩ ?_
 rintro J hJ n τ ⟨k,hk,rfl,rfl⟩;have hul:=Qu.unitK_len hq k hk;by_cases hlt:k<q.rs.length
 ·obtain⟨r,hr⟩:∃r,q.rs[k]?=some r:=⟨q.rs[k],ZvZ hlt⟩;have hrun:q.run k=r:=by simp[Qu.run,hr]
  have hh:=hq.h r (Zv3 hr);have hg:(q.rs.map Rq.pv)[k]?=some (.agg [.int .i64 r.hours,.int .i64 r.ready,.lst false 1 (r.on.map PV.bool)]):=by rw[Zv0,hr];rfl
  have hw:=wrapS (k:=k) (by omega);have hmeas:q.rs.length-(k+1)<q.rs.length-k:=by omega
  have hround:=hJ _ _ ⟨k+1,hlt,rfl,rfl⟩;have hnx:=Qu.unitK_next hlt;rw[hrun]at hnx;obtain⟨c,hc⟩:∃c:Nat,r.hours=c:=⟨r.hours.toNat,by omega⟩;rw[hc]at hnx hg;rw[ZwS]at hnx;have hrep:=Zqt k c (by omega);have hln:(natV (q.unitK k)).length=(q.unitK k).length:=Zix;have hs6:(q.unitK k).length+c≤1000000:=by omega
  have hnv:natV (q.unitK k++List.replicate c k)=natV (q.unitK k)++List.replicate c (.int .i64 k):=by simp[natV]
  clear hJ hRES;generalize q.unitK (k+1)=U2 at *;subst hnx;generalize q.unitK k=U1 at *;generalize hTV:natV U1=TV at *;simp[-getElem?_pos,-List.getElem?_map,hlt,hg];refine .inl (cP [.loc 21 0] [.lst false 1 [.int .i64 k],.int .i64 c] rfl ?_ hrep ?_)
  ·simp[frzsL]
  simp[-getElem?_pos,-List.getElem?_map,frzsL,nble,nblt,hs6,hln,hw,hTV];refine⟨_,_,hmeas,Sub.mk ?_ ?_,hround⟩
  ·simp
  ·simp[hnv,hTV]
 ·have he:k=q.rs.length:=by omega
  subst he;rw[Qu.unitK_all]at hul ⊢;clear hJ;have hu:=units_lt (q:=q);have hRES':layM F q 41 [] q.units=RES:=hRES.symm;clear hRES;generalize q.units=U at *;simp[-getElem?_pos,-List.getElem?_map];refine Zae (fun n τ=>∃(p:List (List Int)) (left:List Nat),PW q p∧left.length≤1000∧(∀r∈left,r<q.rs.length)∧n+p.length=41∧layM F q n p left=RES∧τ=layS q p left)
   ⟨41,layS q [] U,Sub.trans' (Sub.mk (by simp[AS.vecC]) (by simp[AS.vecC,plP])) (vecC 43 88 4 (s:=.loc 10 0) (cs:=[.pv (.lst false 1 (q.ms.map rgsP)),.pv (.lst false 3 (q.rs.map Rq.pv)),.pv (.emp (some true))]) 2 rfl rfl (by decide)),[],U,PW.nil,by omega,hu,rfl,hRES',rfl⟩ ?_
  clear hRES' hu hul;rintro J hJ n τ ⟨p,left,hp,hll,hin,hn,hres,rfl⟩;have hpl:=hp.l;cases left with
  |nil=>
   have hres':RES=some p:=by rw[←hres];cases n<;>rfl
   subst hres';simp[-getElem?_pos,-List.getElem?_map,layS];refine⟨[.loc 10 0,.loc 43 0],?_⟩;simp;rw[←hR];simp[Zk1]
  |cons r0 rest=>
   obtain⟨n',rfl⟩:∃n',n=n'+1:=⟨n-1,by omega⟩;have hL:layM F q (n'+1) p (r0::rest)=if p.length=40 then none else layM F q n' (delM F q (p++[idle4]) (r0::rest)).1 (delM F q (p++[idle4]) (r0::rest)).2:=rfl;rw[hL]at hres;clear hL;by_cases h40:p.length=40
   ·rw[if_pos h40]at hres;subst hres;simp[-getElem?_pos,-List.getElem?_map,layS,h40];refine⟨[],?_⟩;simp;rw[←hR];exact⟨rfl,rfl⟩
   ·rw[if_neg h40]at hres;have h40':¬((p.length:Int)=40):=by omega
    have hp1:=hp.more (q:=q) (by omega);have hdel:=Zrr hF q hq (p++[idle4]) hp1 (r0::rest) hll hin;obtain⟨k1,k2,k3,k4⟩:=ZiT (F:=F) hq (r0::rest) (p++[idle4]) hp1 hin;have hp6:p.length+1≤1000000:=by omega
    have hpv:plP (p++[idle4])=plP p++[.agg [.int .i64 (-1),.int .i64 (-1),.int .i64 (-1),.int .i64 (-1)]]:=by simp[plP,rowP,idle4]
    have hpln:(plP p).length=p.length:=by simp[plP]
    have hround:=hJ n' _ ⟨(delM F q (p++[idle4]) (r0::rest)).1,(delM F q (p++[idle4]) (r0::rest)).2,k1,by omega,fun r h=>hin r (k3 r h),by rw[k2];simp;omega,hres,rfl⟩;clear hJ hres k1 k2 k3 k4;generalize delM F q (p++[idle4]) (r0::rest)=D at *;obtain⟨p2,K⟩:=D;simp only at hround hdel;simp[-getElem?_pos,-List.getElem?_map,layS,h40,h40'];refine cQ [] [] Zvt ?_;simp[-getElem?_pos,-List.getElem?_map,frzsL,nble,nblt,hp6,hpln];refine Zac (as':=[.vec (.par 0) 1 0 (r0::rest).length,delF]) (B:=laid 0 (delB q (p++[idle4]) (r0::rest))) (fs:=[]) (cs:=[]) 49 [.loc 25 0,.loc 10 0,.loc 43 0] ?_ rfl rfl ?_ ?_ ?_ hdel ?_
    ·rfl
    ·simp[delB,layB,laid,hpv]
    ·rfl
    ·simp[delF]
    rintro x B0 ⟨rfl,X,hX,rfl⟩;refine⟨rfl,by simp[delB,layB,laid],?_⟩;have hXK:(natV X).take K.length=natV K:=by rw[natV,natV,←List.map_take,hX]
    simp[-getElem?_pos,-List.getElem?_map,delB,layB,laid];refine⟨_,_,Nat.lt_succ_self n',Sub.trans' (Sub.mk ?_ ?_) (cutW (.loc 25 0) (e:=3) (n:=1) (xs:=natV X) K.length (natV K) rfl hXK),hround⟩
    ·simp
    ·simp
end
section
open Go.RowKit
set_option maxRecDepth 10000
attribute [local simp] AS.exp expG Box.ren AV.map AV.mapL Zaw noRet Site.isRet Box.allS AV.allS AV.allSL retB dropL AS.adds renL outG outOk Zau inG fnOf lookA Zww
attribute [local simp] Box.purge Site.isLoc
attribute [local simp] retFz frzL AS.frz AV.frz AV.frzL Box.frz AS.tidy AS.frzC
def Qu.cutP (q:Qu)(p:List (List Int)):List (List Int):=p.map (·.take q.ms.length)
def Qu.earlP (F:Nat)(q:Qu):PV:=if q.check≠0 then .tup [planP [],.int .i64 0,.int .i64 q.check]else match q.layP F with
 |none=>.tup [planP [],.int .i64 0,.int .i64 9]
 |some p=>.tup [planP (q.cutP p),.int .i64 p.length,.int .i64 0]
theorem Zmu {m:Mem}{v:Value}{a b:PV}(h:RdP m v (.tup [.emp (some true),a,b])):RdP m v (.tup [planP [],a,b]):=by
 refine ZnE ?_ ?_ h
 ·rfl
 intro j c c' d h1 h2 hd
 match j with
 |0=>simp at h1 h2;subst h1 h2;exact ZbM hd
 |1=>simp at h1 h2;subst h1 h2;exact hd
 |2=>simp at h1 h2;subst h1 h2;exact hd
 |j+3=>simp at h1
set_option maxHeartbeats 8000000 in
theorem earliest_c {F:Nat}(hF:407<F)(q:Qu)(h1:q.ms.length≤1000000)(h2:q.rs.length≤1000000)(h3:∀l∈q.ms,l.length≤1000000):Gives Tryz.prog 12 [q.pv] (q.earlP F):=by
 refine Zak.weak2 ?_;obtain⟨OUT,hOUT⟩:∃z,z=q.earlP F:=⟨_,rfl⟩;rw[←hOUT];refine cFR [.loc 38 0] L12 ?_;intro R hR;simp[-getElem?_pos,L12,Qu.pv];refine cG [q.pv] (Zep q h1 h2 h3) ?_;by_cases hc:q.check=0
 ·have hq:=Qu.ok_of hc;have hqm:=hq.m;have hlay:=lay_c hF q hq;have hO:OUT=match q.layP F with
   |none=>.tup [planP [],.int .i64 0,.int .i64 9]
   |some p=>.tup [planP (q.cutP p),.int .i64 p.length,.int .i64 0]:=by rw[hOUT];unfold Qu.earlP;rw[if_neg (by simpa using hc)]
  have hPW:∀p,q.layP F=some p→PW q p:=fun p hp=>layM_PW hq _ _ _ PW.nil (units_lt (q:=q)) p hp
  clear hOUT;generalize q.layP F=LAY at *;simp[-getElem?_pos,hc];refine cL [.pv q.pv] [] 17 [] rfl hlay ?_
  intro x B hx;cases LAY with
  |none=>
   obtain⟨rfl,rfl⟩:=hx;refine⟨rfl,by simp,?_⟩;simp[-getElem?_pos];rw[←hR];refine⟨_,rfl,rfl,fun m v h=>?_⟩;rw[hO];exact Zmu h
  |some p=>
   obtain⟨rfl,rfl⟩:=hx;refine⟨rfl,by simp,?_⟩;have hpw:=hPW p rfl;have hpl:=hpw.l;simp[-getElem?_pos];refine Zae (fun n τ=>∃k:Nat,k≤p.length∧n=p.length-k∧τ=⟨[(1,.ptr (.loc 1 0) 0),(2,.vec (.loc 38 0) 1 0 k),(25,.vec (.loc 17 1) 4 0 p.length),(26,.pv (.int .i64 p.length)),(27,.pv (.int .i64 k))],[(.loc 38 0,.arr 26 1 ((q.cutP p).take k |>.map intsP)),(.loc 1 0,.cells q.cells),(.loc 17 1,.arr 88 4 (plP p))]⟩)
    ⟨p.length,⟨[(1,.ptr (.loc 1 0) 0),(2,.vec (.loc 38 0) 1 0 0),(25,.vec (.loc 17 1) 4 0 p.length),(26,.pv (.int .i64 p.length)),(27,.pv (.int .i64 0))],[(.loc 38 0,.arr 26 1 []),(.loc 1 0,.cells q.cells),(.loc 17 1,.arr 88 4 (plP p))]⟩,Sub.trans' (Sub.mk (by simp[AS.vecT]) (by simp[AS.vecT,Qu.cells])) (vecT 38 26 1 2 rfl (by decide)),0,Zwb _,rfl,by simp⟩ ?_
   rintro J hJ n τ ⟨k,hk,rfl,rfl⟩;by_cases hlt:k<p.length
   ·obtain⟨l,hl⟩:∃l,p[k]?=some l:=⟨p[k],ZvZ hlt⟩;have h4:=hpw.f l (Zv3 hl);have hg:(plP p)[k]?=some (.agg (l.map (PV.int .i64))):=by rw[plP,Zv0,hl];rfl
    have hcl:(q.cutP p)[k]?=some (l.take q.ms.length):=by rw[Qu.cutP,Zv0,hl];rfl
    have hw:=wrapS (k:=k) (by omega);have hmeas:p.length-(k+1)<p.length-k:=by omega
    have hround:=hJ _ _ ⟨k+1,hlt,rfl,rfl⟩;have htk:((q.cutP p).take (k+1)).map intsP=((q.cutP p).take k).map intsP++[intsP (l.take q.ms.length)]:=by rw[Zcs hcl];simp
    have hk6:k+1≤1000000:=by omega
    have hk5:k≤999999:=by omega
    have htl:(((q.cutP p).take k).map intsP).length=k:=by simp[Qu.cutP];omega
    have hcn:=ZrB (l.take q.ms.length) (by rw[Zv8];omega);have hpn:(plP p).length=p.length:=by simp[plP]
    match l,h4 with
    |[a,b,c,d],_=>
    have hri:(([a,b,c,d]:List Int).map (PV.int .i64)).take q.ms.length=(([a,b,c,d]:List Int).take q.ms.length).map intP:=by rw[←List.map_take];rfl
    simp only[Zwd,List.map_nil]at hri hg;clear hJ hPW hlay;generalize hTL:((q.cutP p).take k).map intsP=TL at *;generalize hRW:([a,b,c,d]:List Int).take q.ms.length=RW at *;simp[-getElem?_pos,-List.getElem?_map,-List.map_take,Qu.cells,hlt,hg,nblt,nble,hqm,hri,hTL];refine .inl (cP [] [intsP RW] rfl ?_ hcn ?_)
    ·simp[frzsL,intsP]
    simp[-getElem?_pos,-List.getElem?_map,-List.map_take,frzsL,nblt,nble,hk6,hk5,htl,hw,intsP];refine⟨_,_,hmeas,Sub.mk ?_ ?_,hround⟩
    ·simp
    ·simp[-List.map_take,htk,Qu.cells,intsP]
   ·have he:k=p.length:=by omega
    subst he;have hmm:((q.cutP p).take p.length).map intsP=(q.cutP p).map intsP:=by rw[Zv9 (by simp[Qu.cutP])]
    have hm2:((q.cutP p).map intsP).take p.length=(q.cutP p).map intsP:=Zv9 (by simp[Qu.cutP]);have hcpl:(q.cutP p).length=p.length:=by simp[Qu.cutP]
    simp[-getElem?_pos,-List.getElem?_map,-List.map_take,hmm,hm2,hcpl];rw[←hR];refine⟨_,rfl,rfl,fun m v h=>?_⟩;rw[hO];exact h
 ·have hO:OUT=.tup [planP [],.int .i64 0,.int .i64 q.check]:=by rw[hOUT];unfold Qu.earlP;rw[if_pos (by simpa using hc)]
  simp[-getElem?_pos,hc];rw[←hR];refine⟨_,rfl,rfl,fun m v h=>?_⟩;rw[hO];exact Zmu h
end
end Go.Proofs.YtfpmaennjlggeaaGreatDoor.Qn
namespace Go.Proofs.YtfpmaennjlggeaaGreatDoor
section
open Go.RowKit
set_option maxRecDepth 10000
attribute [local simp] AS.exp expG Box.ren AV.map AV.mapL Zaw noRet Site.isRet Box.allS AV.allS AV.allSL retB dropL AS.adds renL outG outOk Zau inG fnOf lookA Zww
attribute [local simp] Box.purge Site.isLoc
attribute [local simp] frzsL retOk renB toLoc
def ZaV (rs:List Qn.Rq):Qn.Qu:=⟨[[⟨10,13⟩],[]],rs⟩
def runsP (rs:List Qn.Rq):PV:=.lst false 3 (rs.map Qn.Rq.pv)
def earlE (F:Nat)(q:Qn.Qu):Int:=if q.check≠0 then q.check else match q.layP F with
 |none=>9
 |some _=>0
theorem Zpp (F:Nat)(q:Qn.Qu):∃x y,q.earlP F=.tup [x,.int .i64 y,.int .i64 (earlE F q)]:=by
 unfold Qn.Qu.earlP earlE;split
 ·exact⟨_,_,rfl⟩
 ·cases q.layP F with
  |none=>exact⟨_,_,rfl⟩
  |some p=>exact⟨_,_,rfl⟩
def newR (h r o:Int):Qn.Rq:=⟨h,r,[!decide (o=2),!decide (o=1)]⟩
def runM (F:Nat)(rs:List Qn.Rq)(h r o:Int):Except Int (List Qn.Rq):=
 if(decide (1≤h)&&decide (h≤40))=true∧(decide (0≤r)&&decide (r≤40))=true∧(decide (1≤o)&&decide (o≤3))=true then
  (if rs.length<6 then(if earlE F (ZaV (rs++[newR h r o]))=0 then .ok (rs++[newR h r o])else .error 9)else .error 3)
 else .error 2
def rnQ (r:Except Int (List Qn.Rq))(ct bd ls ts:PV)(a b c d e:PV):Prop:=∃rs',r=.ok rs'∧a=ct∧b=bd∧c=ls∧d=ts∧e=runsP rs'
theorem run_x {F:Nat}(hF:407<F)(rs:List Qn.Rq)(ct bd ls ts:PV)(h r o:Int)(hr:rs.length≤900):
  Za7 Tryz.prog 192 [.ptr (.par 0) 0,.pv (.lst false 1 [iP h,iP r,iP o])] [(.par 0,wkX ct bd ls ts (runsP rs))] (okR (rnQ (runM F rs h r o) ct bd ls ts)) (noR (fun e=>runM F rs h r o=.error e)):=by
 have w1:=ZbQ h 1 40;have w2:=ZbQ r 0 40;have w3:=ZbQ o 1 3;refine cX L192 ?_;generalize hE:(fun e=>runM F rs h r o=.error e)=E;generalize hQ:rnQ (runM F rs h r o) ct bd ls ts=Q;unfold runM at hE hQ;generalize(decide (1≤h)&&decide (h≤40))=c1 at w1 hE hQ;generalize(decide (0≤r)&&decide (r≤40))=c2 at w2 hE hQ;generalize(decide (1≤o)&&decide (o≤3))=c3 at w3 hE hQ;show awpX _ (.seq _ (.seq _ (.seq _ _))) _ _ _;by_cases hc:¬(c1=true∧c2=true∧c3=true)
 ·have hE2:E 2:=by rw[←hE,if_neg hc]
  refine Zaq [_,_,_,_,_,_,_,_,_,_,_,_,_,_,_,_] ?_;simp[-getElem?_pos,hold,iP];refine cG [.int .i64 h,.int .i64 1,.int .i64 40] w1 ?_;cases c1 with
  |false=>
   simp[-getElem?_pos,hold];exact Zas (d:=99) [] (xs:=[.bool false,.int .i64 2]) (cs:=[]) rfl rfl (ask_f 2) rfl (fun x hx=>by rw[hx.1];exact panW hE2 rfl) (fun x B hx=>hx.2)
  |true=>
  simp[-getElem?_pos,hold];refine cG [.int .i64 r,.int .i64 0,.int .i64 40] w2 ?_;cases c2 with
  |false=>
   simp[-getElem?_pos,hold];exact Zas (d:=99) [] (xs:=[.bool false,.int .i64 2]) (cs:=[]) rfl rfl (ask_f 2) rfl (fun x hx=>by rw[hx.1];exact panW hE2 rfl) (fun x B hx=>hx.2)
  |true=>
  simp[-getElem?_pos,hold];refine cG [.int .i64 o,.int .i64 1,.int .i64 3] w3 ?_;cases c3 with
  |false=>
   simp[-getElem?_pos,hold];exact Zas (d:=99) [] (xs:=[.bool false,.int .i64 2]) (cs:=[]) rfl rfl (ask_f 2) rfl (fun x hx=>by rw[hx.1];exact panW hE2 rfl) (fun x B hx=>hx.2)
  |true=>exact absurd ⟨rfl,rfl,rfl⟩ hc
 have hc:=Decidable.not_not.1 hc;rw[if_pos hc]at hE hQ;obtain⟨rfl,rfl,rfl⟩:=hc;refine Zao ?_;simp[-getElem?_pos,hold,iP];refine cG [.int .i64 h,.int .i64 1,.int .i64 40] w1 ?_;simp[-getElem?_pos,hold];refine cG [.int .i64 r,.int .i64 0,.int .i64 40] w2 ?_;simp[-getElem?_pos,hold];refine cG [.int .i64 o,.int .i64 1,.int .i64 3] w3 ?_;simp[-getElem?_pos,hold];refine cG [.bool true,.int .i64 2] (ask_t 2) ?_;simp[-getElem?_pos,hold];by_cases h6:¬rs.length<6
 ·rw[if_neg h6]at hE;have hE3:E 3:=by rw[←hE]
  have h6i:¬(rs.length:Int)<6:=by omega
  refine Zaq [_,_,_,_,_,_,_] ?_;simp[-getElem?_pos,hold,wkX,runsP,h6i];exact Zas (d:=99) [] (xs:=[.bool false,.int .i64 3]) (cs:=[]) rfl rfl (ask_f 3) rfl (fun x hx=>by rw[hx.1];exact panW hE3 rfl) (fun x B hx=>hx.2)
 have h6:=Decidable.not_not.1 h6;rw[if_pos h6]at hE hQ;have h6i:(rs.length:Int)<6:=by omega
 refine Zao ?_;simp[-getElem?_pos,hold,wkX,runsP,h6i];refine cG [.bool true,.int .i64 3] (ask_t 3) ?_;simp[-getElem?_pos,hold];refine Zao ?_;simp[-getElem?_pos,hold,setAt,nble];have hwr:=ZpK (rs.map Qn.Rq.pv) h r [.bool (!decide (o=2)),.bool (!decide (o=1))] (.lst false 1 [.bool (!decide (o=2)),.bool (!decide (o=1))]) rfl (by rw[Zv6];omega);refine .inl (cP [.loc 52 0] [.lst false 3 (rs.map Qn.Rq.pv),.agg [.int .i64 h,.int .i64 r,.lst false 1 [.bool (!decide (o=2)),.bool (!decide (o=1))]]] (by simp[AS.frz,AV.frz,AV.frzL,Box.frz,AS.tidy,AS.frzC]) (by simp[AS.frz,AV.frz,AV.frzL,Box.frz,AS.tidy,AS.frzC]) hwr ?_);have hap:rs.map Qn.Rq.pv++[.agg [.int .i64 h,.int .i64 r,.lst false 1 [.bool (!decide (o=2)),.bool (!decide (o=1))]]]=(rs++[newR h r o]).map Qn.Rq.pv:=by rw[Zwp];rfl
 rw[hap];have hLl:(rs++[newR h r o]).length≤7:=by rw[Zv7];simp;omega
 generalize rs++[newR h r o]=L at hE hQ hLl ⊢;clear hap hwr;simp[-getElem?_pos,hold,AS.frz,AV.frz,AV.frzL,Box.frz,AS.tidy,AS.frzC];have hqc:=Zoj (L.map Qn.Rq.pv) ct bd ls ts;have hec:=Qn.earliest_c hF (ZaV L) (show(2:Nat)≤1000000 by decide) (show L.length≤1000000 by omega) (fun l hl=>by
  simp[ZaV]at hl;rcases hl with rfl|rfl<;>decide)
 obtain⟨ex,ey,hee⟩:=Zpp F (ZaV L);rw[hee]at hec;generalize earlE F (ZaV L)=er at hE hQ hec;clear hee;refine Zao ?_;simp[-getElem?_pos,hold];refine cM [.ptr (.par 0) 0] [(.par 0,wkX ct bd ls ts (.lst false 3 (L.map Qn.Rq.pv)))] 60 [.par 0] (by simp[wkX]) hqc (by simp[wkX,ZhB]) ?_;simp[-getElem?_pos,hold,wkX];refine .inl (cQ [] [(ZaV L).pv] hec ?_);simp[-getElem?_pos,hold];by_cases h0:¬er=0
 ·rw[if_neg h0]at hE;have hE9:E 9:=by rw[←hE]
  refine Zfa [_,_] ?_;simp[-getElem?_pos,hold,h0];exact Zas (d:=99) [] (xs:=[.bool false,.int .i64 9]) (cs:=[]) rfl rfl (ask_f 9) rfl (fun x hx=>by rw[hx.1];exact panW hE9 rfl) (fun x B hx=>hx.2)
 have h0:=Decidable.not_not.1 h0;rw[if_pos h0]at hQ;refine Zb1 ?_;simp[-getElem?_pos,hold,h0];refine cG [.bool true,.int .i64 9] (ask_t 9) ?_;simp[-getElem?_pos,hold];refine retW (a:=ct) (b:=bd) (c:=ls) (d:=ts) (e:=runsP L) [] ?_ ?_
 ·simp[frzL,wkX,runsP]
 ·rw[←hQ];exact⟨_,rfl,rfl,rfl,rfl,rfl,rfl⟩
end
section
open Go.RowKit
set_option maxRecDepth 10000
section
attribute [local simp] Box.purge Site.isLoc
theorem Zo4 (l:List PV)(g:FuncId)(fs cs:List PV)(q:PV→Bool)(hq:∀x∈l,Gives Tryz.prog g (fs++[x]++cs) (.bool (q x)))(hl:l.length≤1000000)(hc:∀x∈l,∃s,x=.str s):
  Gives Tryz.prog 159 [.lst false 1 l,.fn g fs cs] (.int .i64 (match l.findIdx? q with|some i=>i|none=>-1)):=by
 refine cS L159 ?_;simp[L159];refine Zae (fun n τ=>∃k:Nat,k≤l.length∧n=l.length-k∧(∀j x,j<k→l[j]?=some x→q x=false)∧τ=⟨[(0,.pv (.lst false 1 l)),(1,.pv (.fn g fs cs)),(7,.pv (.int .i64 l.length)),(8,.pv (.int .i64 k))],[]⟩)
  ⟨l.length,_,Sub.mk (by simp) (by simp),0,by omega,rfl,(fun j x hj=>by omega),rfl⟩ ?_
 rintro J hJ n τ ⟨k,hk,rfl,hinv,rfl⟩;by_cases hlt:k<l.length
 ·have hx:l[k]?=some l[k]:=ZvZ hlt;have hm:=ZwA hlt;generalize l[k]=x at hx hm;obtain⟨s,rfl⟩:=hc x hm;have hg:=hq _ hm;have hw:IntKind.i64.wrap ((k:Int)+1)=((k+1:Nat):Int):=by rw[wrap64 (by omega)];omega
  simp[-getElem?_pos,hlt,hx,nblt];refine Zaa (k:=0) rfl rfl hg rfl ?_;cases hb:q _
  ·simp[hw];exact⟨_,_,(by omega:l.length-(k+1)<l.length-k),Sub.mk (by simp) (by simp),hJ _ _ ⟨k+1,by omega,rfl,fun j x hj hjx=>by
    rcases Zw1.1 hj with h|h
    ·exact hinv j x h hjx
    ·subst h;rw[hx]at hjx;cases hjx;exact hb,rfl⟩⟩
  ·simp[ZdD hx hb hinv]
 ·have he:k=l.length:=by omega
  subst he;simp[Zb7 hinv]
theorem ZuN (l:List PV)(g:FuncId)(fs cs:List PV)(q:PV→Bool)(hq:∀x∈l,Gives Tryz.prog g (fs++[x]++cs) (.bool (q x)))(hl:l.length≤1000000)(hc:∀x∈l,∃s,x=.str s):
  Gives Tryz.prog 118 [.lst false 1 l,.fn g fs cs] (.bool (l.any q)):=by
 refine cS L118 ?_;simp[L118];refine Zaa (k:=0) rfl rfl (Zo4 l g fs cs q hq hl hc) rfl ?_;cases hf:l.findIdx? q with
 |none=>
  have:l.any q=false:=by rw[List.any_eq_false];intro x hx;simpa using ZwV.1 hf x hx
  simp[this]
 |some i=>
  have:l.any q=true:=by
   obtain⟨hi,h1,_⟩:=ZwU.1 hf;exact Zwq.2 ⟨_,ZwA hi,h1⟩
  simp[this]
theorem Zsg (x:PV)(g:FuncId)(fs cs:List PV)(b:Bool)(hx:∃s,x=.str s)(hq:Gives Tryz.prog g (fs++[x]++cs) (.bool b)):
  Gives Tryz.prog 119 [x,.ref [.fn g fs cs]] (.bool (!b)):=by
 obtain⟨s,rfl⟩:=hx;refine cS L119 ?_;simp[L119];refine Zaa (k:=0) rfl rfl hq rfl ?_;simp
theorem ZuR (l:List PV)(g:FuncId)(fs cs:List PV)(q:PV→Bool)(hq:∀x∈l,Gives Tryz.prog g (fs++[x]++cs) (.bool (q x)))(hl:l.length≤1000000)(hc:∀x∈l,∃s,x=.str s):
  Gives Tryz.prog 69 [.lst false 1 l,.fn g fs cs] (.bool (l.all q)):=by
 refine cS L69 ?_;simp[L69];refine Zaa (k:=4) rfl rfl (ZuN l 119 [] [.ref [.fn g fs cs]] (fun x=>!q x) (fun x hx=>Zsg x g fs cs (q x) (hc x hx) (hq x hx)) hl hc) rfl ?_;simp[List.not_any_eq_all_not]
end
attribute [local simp] AS.exp expG Box.ren AV.map AV.mapL Zaw noRet Site.isRet Box.allS AV.allS AV.allSL retB dropL AS.adds renL outG outOk Zau inG fnOf lookA Zww
attribute [local simp] Box.purge Site.isLoc
attribute [local simp] frzsL retOk renB toLoc
theorem Zhi (l:List Ct)(bad:List Int)(ls:PV)(ts:List Tt)(rn:PV)(x:Lt)(hl:l.length≤1000)(hb:bad.length≤1000)(ht:ts.length≤900)(h4:4≤x.pieces)(h30:x.pieces≤30)(hfit:spFit l bad ts):
  Zak Tryz.prog 46 [.ptr (.par 0) 0,.pv x.pv] [(.par 0,wkX (ctsP l) (bdsP bad) ls (ttsP ts) rn)] (fun r B=>r=.pv (.bool (x.passed&&!decide (verdL l bad ts x=1)))∧B=[(.par 0,wkX (ctsP l) (bdsP bad) ls (ttsP ts) rn)]):=by
 have hvc:=Zet l bad ls ts rn x hl hb ht h4 h30 hfit;have hvd:verdM (stM l bad) (gdM l bad x.limit) x.num ts []=verdL l bad ts x:=rfl;rw[hvd]at hvc;generalize verdL l bad ts x=v at hvc ⊢;rw[Lt.pv]at hvc;refine cB [.par 0] L46 ?_;cases hp:x.passed with
 |false=>simp[-getElem?_pos,L46,wkX,Lt.pv,hp]
 |true=>
  rw[hp]at hvc;simp[-getElem?_pos,L46,wkX,Lt.pv,hp];refine cM [.ptr (.par 0) 0,.pv (.agg [.int .i64 x.num,.int .i64 x.pieces,.int .i64 x.limit,.bool true])] [(.par 0,wkX (ctsP l) (bdsP bad) ls (ttsP ts) rn)] 10 [.par 0] (by simp[wkX]) hvc (by simp[wkX]) ?_;simp[-getElem?_pos,wkX,bdsP]
def saidB (v:Int):ByteArray:=if v=1 then⟨#[97,99,99,101,112,116,101,100]⟩else if v=2 then⟨#[114,101,106,101,99,116,101,100]⟩else⟨#[111,112,101,110]⟩
theorem Zss (v:Int):Gives Tryz.prog 95 [.int .u8 v] (.str (saidB v)):=by
 refine cS L95 ?_;unfold saidB;by_cases h1:v=1
 ·simp[-getElem?_pos,L95,h1]
 ·by_cases h2:v=2
  ·simp[-getElem?_pos,L95,h2]
  ·simp[-getElem?_pos,L95,h1,h2]
theorem Ztu (s:ByteArray):Gives Tryz.prog 68 [.str s] (.bool (decide (s.size≤200))):=by
 refine cS L68 ?_;by_cases h:s.size≤200
 ·have h':(s.size:Int)≤200:=by omega
  simp[-getElem?_pos,L68,h,h']
 ·have h':¬(s.size:Int)≤200:=by omega
  simp[-getElem?_pos,L68,h,h']
def strsP (l:List ByteArray):PV:=.lst false 1 (l.map .str)
def fitB (l:List ByteArray):Bool:=l.all fun s=>decide (s.size≤200)
def Zbn (l:List ByteArray):Int:=if 50<l.length then 3 else if fitB l=true then 0 else 3
theorem Zsk (l:List ByteArray)(hl:l.length≤1000000):Gives Tryz.prog 69 [strsP l,.fn 68 [] []] (.bool (fitB l)):=by
 have h:=ZuR (l.map .str) 68 [] [] (fun x=>match x with
  |.str s=>decide (s.size≤200)
  |_=>false) (fun x hx=>by
   obtain⟨s,_,rfl⟩:=Zwc.1 hx;exact Ztu s) (by rw[Zv6];exact hl) (fun x hx=>by
   obtain⟨s,_,rfl⟩:=Zwc.1 hx;exact⟨s,rfl⟩)
 rw[List.all_map]at h;exact h
theorem Zep (l:List ByteArray)(hl:l.length≤1000000):Gives Tryz.prog 30 [strsP l] (.int .i64 (Zbn l)):=by
 have ha:=Zsk l hl;refine cS L30 ?_;unfold Zbn;by_cases h:50<l.length
 ·have h':(50:Int)<(l.length:Int):=by omega
  simp[-getElem?_pos,L30,strsP,h,h']
 ·have h':¬(50:Int)<(l.length:Int):=by omega
  unfold strsP at ha;cases hf:fitB l with
  |true=>
   rw[hf]at ha;simp[-getElem?_pos,L30,strsP,h,h'];refine Zaa (k:=4) (fs:=[]) (xs:=[.lst false 1 (l.map .str),.fn 68 [] []]) (cs:=[]) rfl rfl ha rfl ?_;simp[-getElem?_pos]
  |false=>
   rw[hf]at ha;simp[-getElem?_pos,L30,strsP,h,h'];refine Zaa (k:=4) (fs:=[]) (xs:=[.lst false 1 (l.map .str),.fn 68 [] []]) (cs:=[]) rfl rfl ha rfl ?_;simp[-getElem?_pos]
end
section
open Go.RowKit
set_option maxRecDepth 10000
attribute [local simp] AS.exp expG Box.ren AV.map AV.mapL Zaw noRet Site.isRet Box.allS AV.allS AV.allSL retB dropL AS.adds renL outG outOk Zau inG fnOf lookA Zww
attribute [local simp] Box.purge Site.isLoc
def dg (n:Nat):Nat:=48+n%10
def dgS (many i:Int)(n:Nat)(c0 c1 c2 c3 c4:Nat):AS:=
 ⟨[(0,.pv (.int .i64 n)),(1,.pv (.int .i64 many)),(5,.ptr (.loc 5 0) 0),(6,.pv (.int .i64 i))],[(.loc 5 0,.cells [.pv (.int .u8 c0),.pv (.int .u8 c1),.pv (.int .u8 c2),.pv (.int .u8 c3),.pv (.int .u8 c4)])]⟩
attribute [local simp] wr0 wr1 wr2 wr3 wr4 wr5
theorem wrm1:IntKind.i64.wrap (-1) = -1:=by decide
theorem dq (n:Nat)(hn:n<1000000000000):IntKind.i64.wrap ((n:Int) / 10)=((n / 10:Nat):Int):=by rw[wrap64 (by omega)];omega
theorem dr (n:Nat):IntKind.u8.wrap (IntKind.i64.wrap (48+(n:Int).tmod 10))=((dg n:Nat):Int):=by
 have h:(n:Int).tmod 10=((n%10:Nat):Int):=by rw[Int.tmod_eq_emod_of_nonneg (by omega)];rfl
 rw[h,wrap64 (by omega),show IntKind.u8.wrap (48+((n%10:Nat):Int))=(48+((n%10:Nat):Int))%256 from rfl];unfold dg;omega
theorem Zkb (n:Nat)(hn:n<1000000):Gives Tryz.prog 150 [.int .i64 n,.int .i64 3] (.str ⟨#[.ofNat (dg (n / 10 / 10)),.ofNat (dg (n / 10)),.ofNat (dg n)]⟩):=by
 refine cS L150 ?_;simp[-getElem?_pos,L150];refine Zae (fun m τ=>(m=3∧τ=dgS 3 2 n 0 0 0 0 0)∨(m=2∧τ=dgS 3 1 (n / 10) 0 0 (dg n) 0 0)∨(m=1∧τ=dgS 3 0 (n / 10 / 10) 0 (dg (n / 10)) (dg n) 0 0)∨(m=0∧τ=dgS 3 (-1) (n / 10 / 10 / 10) (dg (n / 10 / 10)) (dg (n / 10)) (dg n) 0 0)) ⟨3,dgS 3 2 n 0 0 0 0 0,Sub.mk (by simp[dgS]) (by simp[dgS]),.inl ⟨rfl,rfl⟩⟩ ?_;rintro J hJ m τ (⟨rfl,rfl⟩|⟨rfl,rfl⟩|⟨rfl,rfl⟩|⟨rfl,rfl⟩)
 ·have hj:=hJ 2 _ (.inr (.inl ⟨rfl,rfl⟩));have h1:=dq n (by omega);have h2:=dr n;simp[-getElem?_pos,dgS,setAt,nblt,nble,h1,h2];exact⟨_,_,by decide,Sub.mk (by simp[dgS]) (by simp[dgS]),hj⟩
 ·have hj:=hJ 1 _ (.inr (.inr (.inl ⟨rfl,rfl⟩)));have h1:=dq (n / 10) (by omega);have h2:=dr (n / 10);generalize n / 10=k at hj h1 h2 ⊢;simp[-getElem?_pos,dgS,setAt,nblt,nble,h1,h2];exact⟨_,_,by decide,Sub.mk (by simp[dgS]) (by simp[dgS]),hj⟩
 ·have hj:=hJ 0 _ (.inr (.inr (.inr ⟨rfl,rfl⟩)));have h1:=dq (n / 10 / 10) (by omega);have h2:=dr (n / 10 / 10);generalize n / 10 / 10=k at hj h1 h2 ⊢;simp[-getElem?_pos,dgS,setAt,nblt,nble,h1,h2,wrm1];exact⟨_,_,by decide,Sub.mk (by simp[dgS]) (by simp[dgS]),hj⟩
 ·simp[-getElem?_pos,dgS,setAt,nblt,nble,nI3,AS.frz,AV.frz,AV.frzL,Box.frz,Zdf,Zec]
theorem Zpv (n:Nat)(hn:n<1000000):Gives Tryz.prog 150 [.int .i64 n,.int .i64 5] (.str ⟨#[.ofNat (dg (n / 10 / 10 / 10 / 10)),.ofNat (dg (n / 10 / 10 / 10)),.ofNat (dg (n / 10 / 10)),.ofNat (dg (n / 10)),.ofNat (dg n)]⟩):=by
 refine cS L150 ?_;simp[-getElem?_pos,L150];refine Zae (fun m τ=>(m=5∧τ=dgS 5 4 n 0 0 0 0 0)∨(m=4∧τ=dgS 5 3 (n / 10) 0 0 0 0 (dg n))∨(m=3∧τ=dgS 5 2 (n / 10 / 10) 0 0 0 (dg (n / 10)) (dg n))∨(m=2∧τ=dgS 5 1 (n / 10 / 10 / 10) 0 0 (dg (n / 10 / 10)) (dg (n / 10)) (dg n))∨(m=1∧τ=dgS 5 0 (n / 10 / 10 / 10 / 10) 0 (dg (n / 10 / 10 / 10)) (dg (n / 10 / 10)) (dg (n / 10)) (dg n))∨(m=0∧τ=dgS 5 (-1) (n / 10 / 10 / 10 / 10 / 10) (dg (n / 10 / 10 / 10 / 10)) (dg (n / 10 / 10 / 10)) (dg (n / 10 / 10)) (dg (n / 10)) (dg n))) ⟨5,dgS 5 4 n 0 0 0 0 0,Sub.mk (by simp[dgS]) (by simp[dgS]),.inl ⟨rfl,rfl⟩⟩ ?_;rintro J hJ m τ (⟨rfl,rfl⟩|⟨rfl,rfl⟩|⟨rfl,rfl⟩|⟨rfl,rfl⟩|⟨rfl,rfl⟩|⟨rfl,rfl⟩)
 ·have hj:=hJ 4 _ (.inr (.inl ⟨rfl,rfl⟩));have h1:=dq (n) (by omega);have h2:=dr (n);simp[-getElem?_pos,dgS,setAt,nblt,nble,h1,h2,nI3,nI4,wrm1];exact⟨_,_,by decide,Sub.mk (by simp[dgS]) (by simp[dgS]),hj⟩
 ·have hj:=hJ 3 _ (.inr (.inr (.inl ⟨rfl,rfl⟩)));have h1:=dq (n / 10) (by omega);have h2:=dr (n / 10);generalize n / 10=k at hj h1 h2 ⊢;simp[-getElem?_pos,dgS,setAt,nblt,nble,h1,h2,nI3,nI4,wrm1];exact⟨_,_,by decide,Sub.mk (by simp[dgS]) (by simp[dgS]),hj⟩
 ·have hj:=hJ 2 _ (.inr (.inr (.inr (.inl ⟨rfl,rfl⟩))));have h1:=dq (n / 10 / 10) (by omega);have h2:=dr (n / 10 / 10);generalize n / 10 / 10=k at hj h1 h2 ⊢;simp[-getElem?_pos,dgS,setAt,nblt,nble,h1,h2,nI3,nI4,wrm1];exact⟨_,_,by decide,Sub.mk (by simp[dgS]) (by simp[dgS]),hj⟩
 ·have hj:=hJ 1 _ (.inr (.inr (.inr (.inr (.inl ⟨rfl,rfl⟩)))));have h1:=dq (n / 10 / 10 / 10) (by omega);have h2:=dr (n / 10 / 10 / 10);generalize n / 10 / 10 / 10=k at hj h1 h2 ⊢;simp[-getElem?_pos,dgS,setAt,nblt,nble,h1,h2,nI3,nI4,wrm1];exact⟨_,_,by decide,Sub.mk (by simp[dgS]) (by simp[dgS]),hj⟩
 ·have hj:=hJ 0 _ (.inr (.inr (.inr (.inr (.inr (⟨rfl,rfl⟩))))));have h1:=dq (n / 10 / 10 / 10 / 10) (by omega);have h2:=dr (n / 10 / 10 / 10 / 10);generalize n / 10 / 10 / 10 / 10=k at hj h1 h2 ⊢;simp[-getElem?_pos,dgS,setAt,nblt,nble,h1,h2,nI3,nI4,wrm1];exact⟨_,_,by decide,Sub.mk (by simp[dgS]) (by simp[dgS]),hj⟩
 ·simp[-getElem?_pos,dgS,setAt,nblt,nble,nI5,AS.frz,AV.frz,AV.frzL,Box.frz,Zdf,Zec]
end
section
open Go.RowKit
set_option maxRecDepth 10000
attribute [local simp] AS.exp expG Box.ren AV.map AV.mapL Zaw noRet Site.isRet Box.allS AV.allS AV.allSL retB dropL AS.adds renL outG outOk Zau inG fnOf lookA Zww
attribute [local simp] Box.purge Site.isLoc
def chkL:List UInt8→Nat→Nat
 |[],_=>0
 |b::r,j=>(j+1)*(b.toNat+1)+chkL r (j+1)
theorem Zki {b:UInt8}:∀{l:List UInt8} {j:Nat},chkL (l++[b]) j=chkL l j+(j+l.length+1)*(b.toNat+1)
 |[],j=>by simp[chkL]
 |x::l,j=>by
  simp only[ZwI,chkL,Zws];rw[Zki (l:=l),show j+1+l.length+1=j+(l.length+1)+1 by omega];omega
theorem Zlm:∀{l:List UInt8} {j:Nat},chkL l j≤l.length*((j+l.length)*256)
 |[],j=>by simp[chkL]
 |x::l,j=>by
  have ih:=Zlm (l:=l) (j:=j+1);have hx:x.toNat+1≤256:=x.toNat_lt;simp only[chkL,Zws];have h1:(j+1)*(x.toNat+1)≤(j+(l.length+1))*256:=Nat.mul_le_mul (by omega) hx;have h2:l.length*((j+1+l.length)*256)=l.length*((j+(l.length+1))*256):=by rw[show j+1+l.length=j+(l.length+1) by omega]
  have e:(l.length+1)*((j+(l.length+1))*256)=(j+(l.length+1))*256+l.length*((j+(l.length+1))*256):=by rw[Nat.succ_mul,Nat.add_comm]
  rw[e];exact Nat.add_le_add h1 (Zwh ih (Nat.le_of_eq h2))
def chkB (s:ByteArray)(i:Nat):Nat:=11*(i+1)+chkL s.data.toList 0
def dig3 (n:Nat):ByteArray:=⟨#[.ofNat (dg (n / 10 / 10)),.ofNat (dg (n / 10)),.ofNat (dg n)]⟩
def dig5 (n:Nat):ByteArray:=⟨#[.ofNat (dg (n / 10 / 10 / 10 / 10)),.ofNat (dg (n / 10 / 10 / 10)),.ofNat (dg (n / 10 / 10)),.ofNat (dg (n / 10)),.ofNat (dg n)]⟩
def recB (s:ByteArray)(i:Nat):ByteArray:=⟨#[123]⟩++dig3 s.size++⟨#[58]⟩++dig3 (999-s.size)++⟨#[58]⟩++dig5 (chkB s i%99991)++⟨#[125]⟩++s++⟨#[10]⟩
def rcS (s:ByteArray)(i k:Nat):AS:=⟨[(0,.pv (.str s)),(5,.pv (.int .i64 ((11*(i+1)+chkL (s.data.toList.take k) 0:Nat):Int))),(12,.pv (.lst false 1 (ZaQ s))),(13,.pv (.int .i64 s.size)),(14,.pv (.int .i64 (k:Int)))],[]⟩
theorem Zqv (s:ByteArray)(i:Nat)(hs:s.size≤999)(hi:i≤1000):Gives Tryz.prog 104 [.str s,.int .i64 i] (.str (recB s i)):=by
 refine cSR L104 ?_;intro R hR;have hsz:s.data.toList.length=s.size:=rfl;have hbl:(ZaQ s).length=s.size:=by simp[ZaQ]
 have hw0:IntKind.i64.wrap ((i:Int)+1)=(i:Int)+1:=wrap64 (by omega);have hw1:IntKind.i64.wrap (11*((i:Int)+1))=11*((i:Int)+1):=wrap64 (by omega);have hs6:s.size≤1000000:=by omega
 simp[-getElem?_pos,L104,hw0,hw1,hs6,hbl,nble];refine Zae (fun m τ=>∃k:Nat,k≤s.size∧m=s.size-k∧τ=rcS s i k) ⟨s.size,rcS s i 0,Sub.mk (by simp[rcS,chkL]) (by simp[rcS]),0,Zwb _,rfl,rfl⟩ ?_;rintro J hJ m τ ⟨k,hk,rfl,rfl⟩;by_cases hlt:k<s.size
 ·obtain⟨b,hx⟩:∃b,s.data.toList[k]?=some b:=⟨s.data.toList[k]'(by omega),ZvZ _⟩;have hg:(ZaQ s)[k]?=some (.int .u8 b.toNat):=by
   unfold ZaQ;rw[Zv0,hx];rfl
  have hn:=hJ (s.size-(k+1)) _ ⟨k+1,hlt,rfl,rfl⟩;unfold rcS at hn;have htk:s.data.toList.take (k+1)=s.data.toList.take k++[b]:=by rw[Zwf,hx];rfl
  rw[htk,Zki,Zv8,Nat.min_eq_left (by omega)]at hn;have hcl:=Zlm (l:=s.data.toList.take k) (j:=0);rw[Zv8,Nat.min_eq_left (by omega)]at hcl;have hb1:b.toNat+1≤256:=b.toNat_lt;have hkk:k*((0+k)*256)≤999*(999*256):=Nat.mul_le_mul (by omega) (by omega);have hpr:(0+k+1)*(b.toNat+1)≤1000*256:=Nat.mul_le_mul (by omega) hb1;unfold rcS;generalize chkL (s.data.toList.take k) 0=C at hn hcl ⊢;have hw2:=wrapK (k:=k) (by omega);have hw3:IntKind.i64.wrap ((b.toNat:Int)+1)=(b.toNat:Int)+1:=wrap64 (by omega);have hpe:((k:Int)+1)*((b.toNat:Int)+1)=(((0+k+1)*(b.toNat+1):Nat):Int):=by rw[ZwC];rfl
  have hwb:IntKind.i64.wrap (b.toNat:Int)=b.toNat:=wrap64 (by omega);generalize(0+k+1)*(b.toNat+1)=P at hn hpr hpe;have hw4:IntKind.i64.wrap (((k:Int)+1)*((b.toNat:Int)+1))=P:=by rw[hpe];exact wrap64 (by omega)
  have hw5:IntKind.i64.wrap (11*((i:Int)+1)+(C:Int)+(P:Int))=11*((i:Int)+1)+((C:Int)+(P:Int)):=by rw[wrap64 (by omega)];omega
  simp[-getElem?_pos,hlt,hg,nble,hw2,hw3,hw4,hw5,hwb];exact⟨_,_,(by omega:s.size-(k+1)<s.size-k),Sub.mk (by simp) (by simp),hn⟩
 ·have he:k=s.size:=by omega
  subst he;have hcl:=Zlm (l:=s.data.toList) (j:=0);rw[hsz]at hcl;have hkk:s.size*((0+s.size)*256)≤999*(999*256):=Nat.mul_le_mul (by omega) (by omega);unfold rcS;rw[Zv9 (by omega)];have h1:Gives Tryz.prog 150 [.int .i64 s.size,.int .i64 3] (.str (dig3 s.size)):=Zkb s.size (by omega);have h2:Gives Tryz.prog 150 [.int .i64 ((999-s.size:Nat):Int),.int .i64 3] (.str (dig3 (999-s.size))):=Zkb (999-s.size) (by omega);have h3:Gives Tryz.prog 150 [.int .i64 ((chkB s i%99991:Nat):Int),.int .i64 5] (.str (dig5 (chkB s i%99991))):=Zpv (chkB s i%99991) (by omega);have z1:(dig3 s.size).size=3:=rfl;have z2:(dig3 (999-s.size)).size=3:=rfl;have z3:(dig5 (chkB s i%99991)).size=5:=rfl;have hrec:recB s i=⟨#[123]⟩++dig3 s.size++⟨#[58]⟩++dig3 (999-s.size)++⟨#[58]⟩++dig5 (chkB s i%99991)++⟨#[125]⟩++s++⟨#[10]⟩:=rfl;have q1:(⟨#[123]⟩:ByteArray).size=1:=rfl;have q2:(⟨#[58]⟩:ByteArray).size=1:=rfl;have q3:(⟨#[125]⟩:ByteArray).size=1:=rfl;have q4:(⟨#[10]⟩:ByteArray).size=1:=rfl;rw[hrec]at hR;have hw6:IntKind.i64.wrap (999-(s.size:Int))=((999-s.size:Nat):Int):=by rw[wrap64 (by omega)];omega
  have hfold:(11*(i+1)+chkL s.data.toList 0:Nat)=chkB s i:=rfl;rw[hfold];have hcb:chkB s i≤1000000000:=by unfold chkB;omega
  have hmod:(chkB s i:Int).tmod 99991=((chkB s i%99991:Nat):Int):=by rw[Int.tmod_eq_emod_of_nonneg (by omega)];rfl
  clear hrec hfold;generalize dig5 (chkB s i%99991)=D5 at h3 z3 hR;generalize dig3 s.size=D1 at h1 z1 hR;generalize dig3 (999-s.size)=D2 at h2 z2 hR;generalize chkB s i=C at h3 hmod;simp[-getElem?_pos];refine cG [.int .i64 s.size,.int .i64 3] h1 ?_;simp[-getElem?_pos,ByteArray.size_append,z1,q1,q2,hw6,nble];refine cG [.int .i64 ((999-s.size:Nat):Int),.int .i64 3] h2 ?_;simp[-getElem?_pos,ByteArray.size_append,z1,z2,q1,q2,hmod,nble];refine cG [.int .i64 ((C%99991:Nat):Int),.int .i64 5] h3 ?_;have hbig:15+s.size≤9223372036854775807:=by omega
  have hbig1:15+s.size+1≤9223372036854775807:=by omega
  simp[-getElem?_pos,ByteArray.size_append,z1,z2,z3,q1,q2,q3,q4,nble,hbig,hbig1];rw[←hR];exact⟨rfl,rfl⟩
end
section
open Go.RowKit
theorem ZfJ (a b:ByteArray):(a++b).data.toList=a.data.toList++b.data.toList:=by
 rw[ByteArray.data_append,Array.toList_append]
def rcdL (s:ByteArray)(i:Nat):List UInt8:=(recB s i).data.toList
def hdL (s:ByteArray)(i:Nat):List UInt8:=58::((dig3 (999-s.size)).data.toList++58::((dig5 (chkB s i%99991)).data.toList++[125]))
theorem ZtA (s:ByteArray)(i:Nat):rcdL s i=123::((dig3 s.size).data.toList++(hdL s i++(s.data.toList++[10]))):=by
 unfold rcdL recB hdL;simp only[ZfJ,ZwQ];rfl
theorem Zt9 (s:ByteArray)(i:Nat):(hdL s i).length=11:=rfl
theorem ZlU (s:ByteArray)(i:Nat):(rcdL s i).length=16+s.size:=by
 rw[ZtA,Zws,Zv7,Zv7,Zt9,Zv7];show 3+(11+(s.size+1))+1=16+s.size;omega
def fileL:List ByteArray→Nat→List UInt8
 |[],_=>[]
 |s::r,i=>rcdL s i++fileL r (i+1)
theorem ZhG {s:ByteArray}:∀{l:List ByteArray} {i:Nat},fileL (l++[s]) i=fileL l i++rcdL s (i+l.length)
 |[],i=>by simp[fileL]
 |x::l,i=>by
  simp only[ZwI,fileL,Zws];rw[ZhG (l:=l),ZwQ,show i+1+l.length=i+(l.length+1) by omega]
end
section
open Go.RowKit
set_option maxRecDepth 10000
attribute [local simp] AS.exp expG Box.ren AV.map AV.mapL Zaw noRet Site.isRet Box.allS AV.allS AV.allSL retB dropL AS.adds renL outG outOk Zau inG fnOf lookA Zww
attribute [local simp] Box.purge Site.isLoc
structure Wk where
 certs:List Ct
 bad:List Int
 lots:List Lt
 tests:List Tt
 runs:List Qn.Rq
def Wk.box (w:Wk):Box:=wkX (ctsP w.certs) (bdsP w.bad) (lotsP w.lots) (ttsP w.tests) (runsP w.runs)
def wk0:Wk:=⟨[],[],[],[],[]⟩
def ZhV (I:Nat→Wk→Prop)(D:Wk→ByteArray→Wk×Int):Prop:=∀k st s,k<150→I k st→s.size≤200→I (k+1) (D st s).1∧Zak Tryz.prog 70 [.ptr (.par 0) 0,.pv (.str s)] [(.par 0,st.box)] (fun r B=>r=.pv (.int .i64 (D st s).2)∧B=[(.par 0,(D st s).1.box)])
def foldD (D:Wk→ByteArray→Wk×Int):Wk→List ByteArray→Wk×List Int
 |st,[]=>(st,[])
 |st,s::l=>((foldD D (D st s).1 l).1,(D st s).2::(foldD D (D st s).1 l).2)
theorem Zcq {D:Wk→ByteArray→Wk×Int}{s:ByteArray}:∀{l:List ByteArray} {st:Wk},foldD D st (l++[s])=((D (foldD D st l).1 s).1,(foldD D st l).2++[(D (foldD D st l).1 s).2])
 |[],st=>rfl
 |x::l,st=>by
  simp only[ZwI,foldD];rw[Zcq (l:=l)]
theorem Zbl {D:Wk→ByteArray→Wk×Int}:∀{l:List ByteArray} {st:Wk},(foldD D st l).2.length=l.length
 |[],st=>rfl
 |x::l,st=>by simp only[foldD,Zws,Zbl (l:=l)]
theorem Zda {D:Wk→ByteArray→Wk×Int}{I:Nat→Wk→Prop}(hN:ZhV I D):∀{l:List ByteArray} {k:Nat} {st:Wk},k+l.length≤150→I k st→(∀s∈l,s.size≤200)→I (k+l.length) (foldD D st l).1
 |[],k,st,_,h,_=>h
 |x::l,k,st,hk,h,hl=>by
  rw[Zws]at hk
  have:=Zda hN (l:=l) (k:=k+1) (by omega) (hN k st x (by omega) h (hl x (Zwz ..))).1 (fun s hs=>hl s (ZwR _ hs))
  rw[show k+1+l.length=k+(x::l).length by rw[Zws];omega]at this;exact this
def iE (n:Int):PV:=.int .i64 n
def plyS (L:List ByteArray)(W:Box)(es:List Int)(k:Nat):AS:=
 ⟨[(4,.ptr (.loc 9 0) 0),(5,.vec (.loc 21 0) 1 0 es.length),(10,.pv (.lst false 1 (L.map .str))),(11,.pv (.int .i64 L.length)),(12,.pv (.int .i64 (k:Int)))],
  [(.loc 9 0,W),(.loc 21 0,.arr 39 1 (es.map iE))]⟩
theorem Zi7 (k:Nat):AV.Wk (.pv (.emp (some true))) (.pv (.lst false k [])):=wk_pv fun m v h=>ZbM h
theorem ZlX {I:Nat→Wk→Prop}{D:Wk→ByteArray→Wk×Int}(hN:ZhV I D)(h0:I 0 wk0)(L:List ByteArray)(hl:L.length≤150)(hs:∀s∈L,s.size≤200):
  Zak Tryz.prog 31 [.pv (strsP L)] [] (fun r B=>r=.tup [.ptr (.ret 0) 0,.vec (.ret 1) 1 0 L.length]∧B=[(.ret 0,(foldD D wk0 L).1.box),(.ret 1,.arr 39 1 ((foldD D wk0 L).2.map iE))]):=by
 refine cBR [.loc 9 0,.loc 21 0] L31 ?_;intro R hR;simp[-getElem?_pos,L31,strsP];refine Zae (fun m τ=>∃k:Nat,k≤L.length∧m=L.length-k∧τ=plyS L (foldD D wk0 (L.take k)).1.box (foldD D wk0 (L.take k)).2 k) ⟨L.length,plyS L wk0.box [] 0,?_,0,Zwb _,rfl,rfl⟩ ?_
 ·refine Sub.trans' ?_ (vecT 21 39 1 5 rfl (by decide));refine Sub.trans' ?_ (Sub.wkC (s:=.loc 9 0) (i:=0) _ rfl rfl (Zi7 7));refine Sub.trans' ?_ (Sub.wkC (s:=.loc 9 0) (i:=1) _ rfl rfl (Zi7 1));refine Sub.trans' ?_ (Sub.wkC (s:=.loc 9 0) (i:=2) _ rfl rfl (Zi7 4));refine Sub.trans' ?_ (Sub.wkC (s:=.loc 9 0) (i:=3) _ rfl rfl (Zi7 4));refine Sub.trans' ?_ (Sub.wkC (s:=.loc 9 0) (i:=4) _ rfl rfl (Zi7 3));exact Sub.mk (by simp[plyS,AS.vecT]) (by simp[plyS,AS.vecT,Wk.box,wk0,wkX,ctsP,bdsP,lotsP,ttsP,runsP])
 rintro J hJ m τ ⟨k,hk,rfl,rfl⟩;have hfl:=Zbl (D:=D) (l:=L.take k) (st:=wk0);rw[Zv8,Nat.min_eq_left hk]at hfl;by_cases hlt:k<L.length
 ·obtain⟨s,hx⟩:∃s,L[k]?=some s:=⟨L[k],ZvZ hlt⟩;have hmem:s∈L:=Zv3 hx;have hg:(L.map PV.str)[k]?=some (.str s):=by rw[Zv0,hx];rfl
  have htk:L.take (k+1)=L.take k++[s]:=by rw[Zwf,hx];rfl
  have hinv:=Zda hN (l:=L.take k) (st:=wk0) (by rw[Zv8];omega) h0 (fun s hs'=>hs s (List.mem_of_mem_take hs'));have hn:=hJ (L.length-(k+1)) _ ⟨k+1,hlt,rfl,rfl⟩;rw[htk,Zcq]at hn;have hc:=(hN _ _ s (by rw[Zv8];omega) hinv (hs s hmem)).2;have hw:=wrapK (k:=k) (by omega);have h1:(foldD D wk0 (L.take k)).2.length+1≤1000000:=by omega
  have hmeas:L.length-(k+1)<L.length-k:=by omega
  generalize foldD D wk0 (L.take k)=q at hn hc h1 ⊢;obtain⟨st,es⟩:=q;dsimp only at hn hc h1 ⊢;generalize D st s=q' at hn hc;obtain⟨st',e⟩:=q';dsimp only at hn hc;simp[-getElem?_pos,-List.getElem?_map,plyS,hlt,hg,Wk.box,wkX];refine cM [.ptr (.par 0) 0,.pv (.str s)] [(.par 0,st.box)] 19 [.loc 9 0] (by simp[Wk.box,wkX]) hc (by simp[Wk.box,wkX]) ?_;simp[-getElem?_pos,Wk.box,wkX,h1,nble,hw];exact⟨_,_,hmeas,Sub.mk (by simp[plyS]) (by simp[plyS,Wk.box,wkX,iE]),hn⟩
 ·have he:k=L.length:=by omega
  subst he;rw[Zwm]at hfl ⊢;simp[-getElem?_pos,plyS,Wk.box,wkX,hfl];rw[←hR];exact⟨rfl,by simp[Wk.box,wkX]⟩
section
attribute [local simp] retFz frzL AS.frz AV.frz AV.frzL Box.frz AS.tidy AS.frzC
theorem Zld (l:List PV)(hl:l.length≤1000000):Gives Tryz.prog 29 [.lst false 1 l] (.lst false 1 l):=by
 cases l with
 |nil=>
  refine Zak.weak2 ?_;refine cF [.loc 7 0] L29 ?_;simp[-getElem?_pos,L29,nilOf,ZaJ,nble,opWp,osel];exact fun m v h=>ZbM h
 |cons a l=>
  refine cF [.loc 7 0] L29 ?_;have h1:l.length+1≤1000000:=by simpa using hl
  have hm:List.take l.length l=l:=Zv9 (Zv5 _);simp[-getElem?_pos,L29,nilOf,nble,h1,hm]
theorem Znk (l:List PV)(hl:l.length≤1000000):Gives Tryz.prog 42 [.lst false 7 l] (.lst false 7 l):=by
 cases l with
 |nil=>
  refine Zak.weak2 ?_;refine cF [.loc 7 0] L42 ?_;simp[-getElem?_pos,L42,nilOf,ZaJ,nble,opWp,osel];exact fun m v h=>ZbM h
 |cons a l=>
  refine cF [.loc 7 0] L42 ?_;have h1:l.length+1≤1000000:=by simpa using hl
  have hm:List.take l.length l=l:=Zv9 (Zv5 _);simp[-getElem?_pos,L42,nilOf,nble,h1,hm]
theorem Znj (l:List PV)(hl:l.length≤1000000):Gives Tryz.prog 74 [.lst false 4 l] (.lst false 4 l):=by
 cases l with
 |nil=>
  refine Zak.weak2 ?_;refine cF [.loc 7 0] L74 ?_;simp[-getElem?_pos,L74,nilOf,ZaJ,nble,opWp,osel];exact fun m v h=>ZbM h
 |cons a l=>
  refine cF [.loc 7 0] L74 ?_;have h1:l.length+1≤1000000:=by simpa using hl
  have hm:List.take l.length l=l:=Zv9 (Zv5 _);simp[-getElem?_pos,L74,nilOf,nble,h1,hm]
theorem Zni (l:List PV)(hl:l.length≤1000000):Gives Tryz.prog 75 [.lst false 4 l] (.lst false 4 l):=by
 cases l with
 |nil=>
  refine Zak.weak2 ?_;refine cF [.loc 7 0] L75 ?_;simp[-getElem?_pos,L75,nilOf,ZaJ,nble,opWp,osel];exact fun m v h=>ZbM h
 |cons a l=>
  refine cF [.loc 7 0] L75 ?_;have h1:l.length+1≤1000000:=by simpa using hl
  have hm:List.take l.length l=l:=Zv9 (Zv5 _);simp[-getElem?_pos,L75,nilOf,nble,h1,hm]
theorem Znl (l:List PV)(hl:l.length≤1000000):Gives Tryz.prog 73 [.lst false 1 l] (.lst false 1 l):=by
 cases l with
 |nil=>
  refine Zak.weak2 ?_;refine cF [.loc 7 0] L73 ?_;simp[-getElem?_pos,L73,nilOf,ZaJ,nble,opWp,osel];exact fun m v h=>ZbM h
 |cons a l=>
  refine cF [.loc 7 0] L73 ?_;have h1:l.length+1≤1000000:=by simpa using hl
  have hm:List.take l.length l=l:=Zv9 (Zv5 _);simp[-getElem?_pos,L73,nilOf,nble,h1,hm]
end
def Wk.pv (w:Wk):PV:=.agg [ctsP w.certs,bdsP w.bad,lotsP w.lots,ttsP w.tests,runsP w.runs]
def cpS (w:Wk)(k:Nat):AS:=
 ⟨[(1,.ptr (.loc 1 0) 0),(2,.ptr (.loc 2 0) 0),(3,.vec (.loc 23 0) 3 0 k),(7,.pv (.lst false 3 (w.runs.map Qn.Rq.pv))),(8,.pv (.int .i64 w.runs.length)),(9,.pv (.int .i64 (k:Int)))],
  [(.loc 1 0,.cells [.pv (ctsP w.certs),.pv (bdsP w.bad),.pv (lotsP w.lots),.pv (ttsP w.tests),.pv (runsP w.runs)]),(.loc 2 0,.cells [.pv (.emp (some true)),.pv (.emp (some true)),.pv (.emp (some true)),.pv (.emp (some true)),.pv (.emp (some true))]),(.loc 23 0,.arr 147 3 ((w.runs.take k).map Qn.Rq.pv))]⟩
theorem Zrv (w:Wk)(h1:w.certs.length≤1000)(h2:w.bad.length≤1000)(h3:w.lots.length≤1000)(h4:w.tests.length≤1000)(h5:w.runs.length≤1000)(h6:∀r∈w.runs,r.on.length≤1000):Gives Tryz.prog 35 [w.pv] w.pv:=by
 refine cFR [.loc 23 0] L35 ?_;intro R hR;simp[-getElem?_pos,L35,Wk.pv,runsP];refine Zae (fun m τ=>∃k:Nat,k≤w.runs.length∧m=w.runs.length-k∧τ=cpS w k) ⟨w.runs.length,cpS w 0,Sub.trans' (Sub.mk (by simp[cpS,AS.vecT]) (by simp[cpS,AS.vecT,runsP])) (vecT 23 147 3 3 rfl (by decide)),0,Zwb _,rfl,rfl⟩ ?_;rintro J hJ m τ ⟨k,hk,rfl,rfl⟩;by_cases hlt:k<w.runs.length
 ·obtain⟨r,hx⟩:∃r,w.runs[k]?=some r:=⟨w.runs[k],ZvZ hlt⟩;have hg:(w.runs.map Qn.Rq.pv)[k]?=some r.pv:=by rw[Zv0,hx];rfl
  simp only[Qn.Rq.pv,Qn.onP]at hg;have hon:=h6 r (Zv3 hx);have hw:=wrapK (k:=k) (by omega);have hk1:k+1≤1000000:=by omega
  have hmn:min k w.runs.length=k:=Nat.min_eq_left (by omega);have hn:=hJ (w.runs.length-(k+1)) _ ⟨k+1,hlt,rfl,rfl⟩;unfold cpS at hn;rw[Zwf,hx,Zwp]at hn;simp[-getElem?_pos,-List.getElem?_map,cpS,hlt,hg,nblt,nble,setAt];refine cQ [] [.lst false 1 (r.on.map .bool)] (Znl (r.on.map .bool) (by rw[Zv6];omega)) ?_;simp[-getElem?_pos,-List.map_take,frzsL,setAt,nble,hk1,hmn,hw];exact⟨_,_,(by omega:w.runs.length-(k+1)<w.runs.length-k),Sub.mk (by simp) (by simp[Qn.Rq.pv,Qn.onP]),hn⟩
 ·have he:k=w.runs.length:=by omega
  subst he;have htk:w.runs.take w.runs.length=w.runs:=Zwm;simp[-getElem?_pos,cpS,htk,ctsP];refine cQ [] [.lst false 7 (w.certs.map Ct.pv)] (Znk (w.certs.map Ct.pv) (by rw[Zv6];omega)) ?_;simp[-getElem?_pos,frzsL,bdsP];refine cQ [] [.lst false 1 (w.bad.map iP)] (Zld (w.bad.map iP) (by rw[Zv6];omega)) ?_;simp[-getElem?_pos,frzsL,lotsP];refine cQ [] [.lst false 4 (w.lots.map Lt.pv)] (Znj (w.lots.map Lt.pv) (by rw[Zv6];omega)) ?_;simp[-getElem?_pos,frzsL,ttsP];refine .inl (cP [.loc 23 0] [.lst false 4 (w.tests.map Tt.pv)] (by simp[frzsL,AS.frz,AV.frz,AV.frzL,Box.frz,AS.tidy,AS.frzC]) (by simp[frzsL,AS.frz,AV.frz,AV.frzL,Box.frz,AS.tidy,AS.frzC]) (Zni (w.tests.map Tt.pv) (by rw[Zv6];omega)) ?_);have htr:List.take w.runs.length (w.runs.map Qn.Rq.pv)=w.runs.map Qn.Rq.pv:=Zv9 (by simp);simp[-getElem?_pos,-List.map_take,frzsL,AS.frz,AV.frz,AV.frzL,Box.frz,AS.tidy,AS.frzC,setAt,htr,retFz,frzL];rw[←hR];exact⟨by simp[Wk.pv,ctsP,bdsP,lotsP,ttsP,runsP],by simp⟩
end
section
open Go.RowKit
set_option maxRecDepth 10000
attribute [local simp] AS.exp expG Box.ren AV.map AV.mapL Zaw noRet Site.isRet Box.allS AV.allS AV.allSL retB dropL AS.adds renL outG outOk Zau inG fnOf lookA Zww
attribute [local simp] Box.purge Site.isLoc
attribute [local simp] retFz frzL AS.frz AV.frz AV.frzL Box.frz AS.tidy AS.frzC frzsL retOk renB toLoc
structure WkOk (w:Wk):Prop where
 c:w.certs.length≤1000
 b:w.bad.length≤1000
 l:w.lots.length≤900
 t:w.tests.length≤900
 r:w.runs.length≤1000
 lt:∀x∈w.lots,ltOk x
 fit:spFit w.certs w.bad w.tests
 on:∀r∈w.runs,r.on.length≤1000
theorem Ze8 {l:List ByteArray}(h:Zbn l=0):l.length≤50∧∀s∈l,s.size≤200:=by
 unfold Zbn at h;split at h
 ·cases h
 ·split at h
  ·rename_i h1 h2;refine⟨by omega,fun s hs=>?_⟩
   have:=Zwl.1 h2 s hs
   simpa using this
  ·cases h
theorem Ze7 {l:List ByteArray}(h:Zbn l≠0):Zbn l=3:=by
 unfold Zbn at h ⊢;split
 ·rfl
 ·split
  ·rename_i h1 h2;rw[if_neg h1,if_pos h2]at h;exact absurd rfl h
  ·rfl
def plyE (D:Wk→ByteArray→Wk×Int)(L:List ByteArray):PV:=if Zbn L=0 then .tup [(foldD D wk0 L).1.pv,.lst false 1 ((foldD D wk0 L).2.map iE),.int .i64 0]else .tup [wk0.pv,.lst false 1 [],.int .i64 3]
theorem ZvW {I:Nat→Wk→Prop}{D:Wk→ByteArray→Wk×Int}(hN:ZhV I D)(h0:I 0 wk0)(hI:∀k w,k≤50→I k w→WkOk w)(L:List ByteArray)(hl:L.length≤1000000):Gives Tryz.prog 15 [strsP L] (plyE D L):=by
 have hch:=Zep L hl;refine Zak.weak2 ?_;refine cFR [.loc 15 1] L15 ?_;intro R hR;unfold plyE at hR;by_cases hc:Zbn L=0
 ·obtain⟨hl5,hs2⟩:=Ze8 hc;rw[hc]at hch;have hpc:=ZlX hN h0 L (by omega) hs2;have hok:=hI _ _ (by omega) (Zda hN (l:=L) (by omega) h0 hs2);have hfl:=Zbl (D:=D) (l:=L) (st:=wk0);rw[if_pos hc]at hR;generalize foldD D wk0 L=q at hpc hok hfl hR;obtain⟨w,es⟩:=q;dsimp only at hpc hok hfl hR;have hcc:=Zrv w hok.c hok.b (by have:=hok.l;omega) (by have:=hok.t;omega) hok.r hok.on;simp[-getElem?_pos,L15];refine cG [strsP L] hch ?_;simp[-getElem?_pos];refine .inl (Zbh [] (fs:=[]) (xs:=[strsP L]) (cs:=[]) (d:=15) rfl rfl hpc ?_);rintro r B ⟨rfl,rfl⟩;refine⟨by simp[Wk.box,wkX],?_⟩;simp[-getElem?_pos,Wk.box,wkX];have hm:List.take L.length (es.map iE)=es.map iE:=Zv9 (by rw[Zv6];omega);have hle:L.length≤es.length:=by omega
  refine .inl (cP [.loc 15 1] [w.pv] (by simp) (by simp[Wk.pv]) hcc ?_);simp[-getElem?_pos,Wk.pv,setAt,hm,hle];rw[←hR];exact⟨_,rfl,by simp,fun m v h=>h⟩
 ·have h3:=Ze7 hc;rw[h3]at hch;rw[if_neg hc]at hR;simp[-getElem?_pos,L15];refine cG [strsP L] hch ?_;simp[-getElem?_pos];rw[←hR];exact⟨_,rfl,rfl,ZbW 5 _ _ rfl⟩
def bP (l:List UInt8):List PV:=l.map fun b=>.int .u8 b.toNat
theorem Zks {l:List UInt8}:(bP l).length=l.length:=Zv6 _
theorem ZvM {a b:List UInt8}:bP (a++b)=bP a++bP b:=Zwp
theorem Zms:∀{l:List ByteArray} {i:Nat},(∀s∈l,s.size≤200)→(fileL l i).length≤216*l.length
 |[],i,_=>by simp[fileL]
 |s::l,i,h=>by
  have h1:=Zms (l:=l) (i:=i+1) (fun s hs=>h s (ZwR _ hs));have h2:=h s (Zwz ..);simp only[fileL,Zv7,ZlU,Zws];omega
def flS (L:List ByteArray)(F:List UInt8)(k:Nat):AS:=
 ⟨[(3,.vec (.loc 17 0) 1 0 F.length),(6,.pv (.lst false 1 (L.map .str))),(7,.pv (.int .i64 L.length)),(8,.pv (.int .i64 (k:Int)))],[(.loc 17 0,.arr 5 1 (bP F))]⟩
theorem Zvz (L:List ByteArray)(hl:L.length≤1000)(hs:∀s∈L,s.size≤200):Gives Tryz.prog 55 [strsP L] (.lst false 1 (bP (fileL L 0))):=by
 refine cFR [.loc 17 0] L55 ?_;intro R hR;simp[-getElem?_pos,L55,strsP];refine Zae (fun m τ=>∃k:Nat,k≤L.length∧m=L.length-k∧τ=flS L (fileL (L.take k) 0) k) ⟨L.length,flS L [] 0,Sub.trans' (Sub.mk (by simp[flS,AS.vecT]) (by simp[flS,AS.vecT,bP])) (vecT 17 5 1 3 rfl (by decide)),0,Zwb _,rfl,rfl⟩ ?_;rintro J hJ m τ ⟨k,hk,rfl,rfl⟩;by_cases hlt:k<L.length
 ·obtain⟨s,hx⟩:∃s,L[k]?=some s:=⟨L[k],ZvZ hlt⟩;have hsz:=hs s (Zv3 hx);have hg:(L.map PV.str)[k]?=some (.str s):=by rw[Zv0,hx];rfl
  have htk:L.take (k+1)=L.take k++[s]:=by rw[Zwf,hx];rfl
  have hn:=hJ (L.length-(k+1)) _ ⟨k+1,hlt,rfl,rfl⟩;have hfl:=Zms (l:=L.take k) (i:=0) (fun s hs'=>hs s (List.mem_of_mem_take hs'));have hrc:=Zqv s k (by omega) (by omega);have hrs:=ZlU s k;rw[htk,ZhG,Zv8,Nat.min_eq_left hk,ZwC]at hn;rw[Zv8,Nat.min_eq_left hk]at hfl;unfold rcdL at hn hrs;unfold flS at hn;rw[ZvM,Zv7]at hn;have hbp:bP (recB s k).data.toList=ZaQ (recB s k):=rfl;have hbl:(ZaQ (recB s k)).length=(recB s k).data.toList.length:=Zks;rw[hbp,←hbl]at hn;rw[←hbl]at hrs;generalize fileL (L.take k) 0=F at hn hfl ⊢;clear hbp hbl;generalize recB s k=R at hn hrs hrc;have hw:=wrapK (k:=k) (by omega);have hmeas:L.length-(k+1)<L.length-k:=by omega
  have h1:F.length+(ZaQ R).length≤1000000:=by omega
  simp[-getElem?_pos,-List.getElem?_map,flS,hlt,hg,nblt,nble];refine cG [.str s,.int .i64 k] hrc ?_;simp[-getElem?_pos,Zks,h1,hw,nble];exact⟨_,_,hmeas,Sub.mk (by simp[Zks]) (by simp),hn⟩
 ·have he:k=L.length:=by omega
  subst he;rw[Zwm];have hm:List.take (fileL L 0).length (bP (fileL L 0))=bP (fileL L 0):=Zv9 (by rw[Zks];exact Zv5 _);simp[-getElem?_pos,flS,hm,Zks];rw[←hR];exact⟨rfl,by simp⟩
def wrtE (L:List ByteArray):PV:=if Zbn L=0 then .tup [.lst false 1 (bP (fileL L 0)),.int .i64 0]else .tup [.lst false 1 [],.int .i64 3]
theorem ZuX (L:List ByteArray)(hl:L.length≤1000000):Gives Tryz.prog 25 [strsP L] (wrtE L):=by
 have hch:=Zep L hl;refine Zak.weak2 ?_;refine cFR [] L25 ?_;intro R hR;unfold wrtE at hR;by_cases hc:Zbn L=0
 ·obtain⟨hl5,hs2⟩:=Ze8 hc;rw[hc]at hch;rw[if_pos hc]at hR;have hf:=Zvz L (by omega) hs2;simp[-getElem?_pos,L25];refine cG [strsP L] hch ?_;simp[-getElem?_pos];refine .inl (cQ [] [strsP L] hf ?_);simp[-getElem?_pos];rw[←hR];exact⟨_,rfl,by simp,fun m v h=>h⟩
 ·have h3:=Ze7 hc;rw[h3]at hch;rw[if_neg hc]at hR;simp[-getElem?_pos,L25];refine cG [strsP L] hch ?_;simp[-getElem?_pos];rw[←hR];exact⟨_,rfl,rfl,ZbW 5 _ _ rfl⟩
end
section
open Go.RowKit Go.ChangeShapes Go.WideShapes Go.ChangeAt Go.Deep
set_option maxRecDepth 100000
section
variable {H:Type}{enc:TypeId×Value→H}{W:World}{sp:Nat→Bool}{held:Bool}{r:Reach}{base:Nat}
theorem cStr:Tryz.prog.cellsOf 9=1:=by kernel_rfl
theorem Zgh {v:Value}{fuel:Nat}{x:DataW H×List MemPlace}(hok:Value.okWide Tryz.prog W r base 22 v)(h:DataW.trod enc Tryz.prog W 0 sp held fuel 22 v.cells.toList=some x):
  ∃L:List ByteArray,L.length≤9223372036854775807∧RdP W.mem v (strsP L):=by
 obtain⟨_,_,_,rfl⟩:=okWide_slice Tryz.underlying22 hok;obtain⟨l,_,h1,h2⟩:=Zod (n:=1) PV.str (fun _=>True) Tryz.underlying22 cStr (by omega) h (fun k cs y hy hl=>by
  obtain⟨s,rfl,_,_⟩:=DataW.trod_string Tryz.underlying9 hy;exact⟨s,trivial,rfl,rfl,fun d hd=>by simp at hd;subst hd;rfl,fun j d c h1 h2=>by
   match j,h1,h2 with
   |0,h1,h2=>cases h1;cases h2;exact .str _⟩)
 exact⟨l,h1,h2⟩
end
theorem Zja {W:World}{n:String}{g:Nat}{d:DataW Unit}{s:String}{x:DataW Unit}(hg:Tryz.prog.globalNamed n=some g)(hy:(Tryz.prog.globals[g]?).map (·.type)=some 132)(hd:d=.iface s x)(h:Lib.VarReads Tryz.prog W n d):∃t p,W.mem g 0=some (.iface t p):=by
 subst hd;obtain⟨g',t,cs,fuel,p,hg',hty,hvar,hd⟩:=h;obtain rfl:=Option.some.inj (hg.symm.trans hg');obtain rfl:=Option.some.inj (hy.symm.trans hty);obtain⟨f1,u,v,hcs,_,_⟩:=iface_of_trod Tryz.underlying132 hd
 have:=World.var?_cell hg hvar 0
 rw[←ZwO,hcs]at this;exact⟨u,v,this⟩
theorem Zs5 {W : World} (h : Lib.VarReads Tryz.prog W "internal/strconv.uint64pow10" Rows.laid_internal_strconv_uint64pow10) : ∃ t fr, W.heap[0]? = some (.cells (Lib.pow10Tab.map (Value.int .u64)).toArray t fr) := by
 have e:(Rows.laid_internal_strconv_uint64pow10:DataW Unit)=Lib.tabData .u64 Lib.pow10Tab:=by rfl
 rw[e]at h;obtain⟨g,t,cs,fuel,p,hg,hty,hvar,hd⟩:=h;obtain rfl := Option.some.inj ((show Tryz.prog.globalNamed "internal/strconv.uint64pow10" = some 0 by kernel_rfl).symm.trans hg);obtain rfl:=Option.some.inj ((show(Tryz.prog.globals[0]?).map (·.type)=some 298 by kernel_rfl).symm.trans hty);have hcs:=Lib.cells_of_tab Tryz.underlying298 Tryz.underlying236 (by kernel_rfl) (by kernel_rfl) hd;unfold World.var? at hvar;rw[hg,ZwE]at hvar;split at hvar
 ·rename_i cs' t fr hh;obtain rfl:=Option.some.inj hvar;exact⟨t,fr,by rw[hh,←hcs]⟩
 ·cases hvar
theorem ZgS {W : World} (hs : W.ShapedOpen Tryz.prog) (h5 : Lib.VarReads Tryz.prog W "internal/strconv.uint64pow10" Rows.laid_internal_strconv_uint64pow10) (h1 : Lib.VarReads Tryz.prog W "strconv.ErrSyntax" Rows.laid_strconv_ErrSyntax) (h2 : Lib.VarReads Tryz.prog W "strconv.ErrRange" Rows.laid_strconv_ErrRange) : Glob W.mem W := by
 have h5:=Zs5 h5;refine⟨Proofs.cell_of_shapedOpen_int (zero:=#[.int .i64 0]) (t:=3) hs (of_decide_eq_true (by kernel_rfl)) (by kernel_rfl) rfl (by kernel_rfl) (by kernel_rfl) Tryz.underlying3,
  Zja (n := "strconv.ErrSyntax") (by kernel_rfl) (by kernel_rfl) rfl h1,
  Zja (n := "strconv.ErrRange") (by kernel_rfl) (by kernel_rfl) rfl h2, ?_, h5⟩
 obtain⟨t,fr,h⟩:=h5;exact⟨_,(cell_of_row W _ 0 _ _ _ h).trans rfl⟩
end
section
open Go.RowKit Go.ChangeShapes Go.WideShapes Go.ChangeAt Go.Deep
set_option maxRecDepth 100000
theorem own:ownKnob Tryz.prog.godebug=none:=by kernel_rfl
theorem laidP:laidOutB Tryz.prog=true:=by kernel_rfl
theorem Zd8:mapsRowed Tryz.prog=true:=by kernel_rfl
theorem fullP:((List.range Tryz.prog.types.size).all fun t=>match Tryz.prog.underlying t with|some (.slice e)=>decide (0<Tryz.prog.cellsOf e)|_=>true)=true:=by kernel_rfl
theorem ZcA {H:Type}{enc:TypeId×Value→H}{a:Assume}{C:Checked}{os:Os}{f:FuncId}{fn:Func}{s:ChangeSpec}{conds:List PathCond}{apart fresh handsOn again:Bool}{X:World→Array Value→Prop}
  (hX:∀(w w':World) (args:Array Value),w.heap=w'.heap→X w args→X w' args)
  (own:ownKnob C.prog.godebug=none) (started:os.Started) (noInit:C.prog.inits.idxOf? f=none) (hfn:C.prog.funcs[f]?=some fn)
  (witness:∃(w:World) (tape:Tape) (i:Input),w.os=os∧(w.forCall tape i).Shaped C.prog∧i.vars=[]∧Input.okWide C.prog (w.forCall tape i) .any w.heap.size f i∧
   ((s.pre enc C.prog fn conds apart (w.forCall tape i).memory i.args∧X (w.forCall tape i).memory i.args)∧sizedMet enc C.prog fn (OpenSpec.ofChange s) apart (w.forCall tape i).memory i.args)∧a.holds C.prog (lone (Frame.enter C.prog f i.args .normal) [] (w.forCall tape i)))
  (contract:∀(W:World) (base:Nat) (args:Array Value) (ds gs:List (DataW H)) (before:List MemPlace),
   (∀(j:Nat) t v,fn.params[j]?=some t→args[j]?=some v→Value.okWide C.prog W .any base t v)→
   DataW.Whole enc C.prog fn.params.toList s.vars apart W args.toList ds gs before→X W args→W.ShapedOpen C.prog→
   Calls C.prog f args W fun e W'=>∃v,e=.returned v∧s.post enc C.prog fn apart fresh handsOn again W args v W'):
  ReturnsInHanded a C os f .any (fun w args=>(s.pre enc C.prog fn conds apart w args∧X w args)∧sizedMet enc C.prog fn (OpenSpec.ofChange s) apart w args) (s.post enc C.prog fn apart fresh handsOn again):=by
 refine returnsInHanded_of_calls own started noInit witness ?_;intro w tape i _ hsh _ hok hpre _;obtain⟨_,_,_,fn',hfn',_,_,_,_,hval⟩:=hok;have e:fn'=fn:=Option.some.inj (hfn'.symm.trans hfn);subst e;obtain⟨⟨⟨ds,gs,before,hw,_⟩,hx⟩,_⟩:=hpre;have hw':=DataW.Whole.of_heap (w':=w.forCall tape i) (by rfl) hw;refine(contract (w.forCall tape i) w.heap.size i.args ds gs before hval hw' (hX _ _ _ (by rfl) hx) hsh).mono fun e W' ⟨v,he,hp⟩=>?_
 subst he;exact ChangeSpec.post_blind hp
end
section
open Go.RowKit
theorem ZvC (u:Nat):u<10^(Lib.decDigits u).length:=by
 induction u using Nat.strongRecOn with
 |_ u ih=>
  unfold Lib.decDigits;split
  ·simp;omega
  ·have:=ih (u / 10) (by omega)
   rw[Zv7,Zw2,Nat.pow_succ];omega
theorem ZdF (u:Nat):∀c∈Lib.decDigits u,c≠45:=by
 have hd:∀d:Fin 10,UInt8.ofNat (48+d.1)≠45:=by decide
 induction u using Nat.strongRecOn with
 |_ u ih=>
  intro c hc;unfold Lib.decDigits at hc;split at hc
  ·rename_i h;rw[Zwo]at hc;subst hc;exact hd ⟨u,h⟩
  ·rcases Zwv.1 hc with h|h
   ·exact ih (u / 10) (by omega) c h
   ·rw[Zwo]at h;subst h;exact hd ⟨u%10,by omega⟩
theorem Zkc (u:Nat)(h:(Lib.decDigits u).length≤9):u<1000000000:=
 Nat.lt_of_lt_of_le (ZvC u) (Nat.pow_le_pow_right (by decide) h)
theorem ZtN {s:ByteArray}{v:Int}(h:numB s=some v):-1000000000<v∧v<1000000000:=by
 unfold numB at h;split at h
 ·split at h
  ·rename_i u _ hc;cases h;obtain⟨h1,h2⟩:=hc;subst h1;have h3:(Lib.trimPrefix (Lib.itoa v) [45]).length≤9:=h2;by_cases hneg:v<0
   ·obtain⟨k,rfl⟩:∃k:Nat,v = -(k:Int):=⟨v.natAbs,by omega⟩;rw[Lib.itoa_neg k (by omega)]at h3;have h4:Lib.trimPrefix (45::Lib.decDigits k) [45]=Lib.decDigits k:=by simp[Lib.trimPrefix,Lib.hasPrefix]
    rw[h4]at h3
    have:=Zkc k h3
    omega
   ·obtain⟨k,rfl⟩:∃k:Nat,v=(k:Int):=⟨v.toNat,by omega⟩;rw[Lib.itoa_nonneg]at h3;have h4:Lib.trimPrefix (Lib.decDigits k) [45]=Lib.decDigits k:=by
     have hno:=ZdF k;cases hd:Lib.decDigits k with
     |nil=>rfl
     |cons c r=>
      have hc:c≠45:=hno c (by rw[hd];exact Zwz ..);simp[Lib.trimPrefix,Lib.hasPrefix,hc]
      try exact fun e=>absurd e.symm hc
    rw[h4]at h3
    have:=Zkc k h3
    omega
  ·cases h
 ·cases h
end
section
open Go.RowKit
set_option maxRecDepth 10000
attribute [local simp] AS.exp expG Box.ren AV.map AV.mapL Zaw noRet Site.isRet Box.allS AV.allS AV.allSL retB dropL AS.adds renL outG outOk Zau inG fnOf lookA Zww
attribute [local simp] Box.purge Site.isLoc
attribute [local simp] retFz frzL AS.frz AV.frz AV.frzL Box.frz AS.tidy AS.frzC frzsL retOk renB toLoc

def isWd (w:Wk)(n:Int)(t:Tt):Bool:=stM w.certs w.bad t.item t.day&&!stM w.certs (w.bad++[n]) t.item t.day
def wdL (w:Wk)(n:Int):Nat→List Int
 |0=>[]
 |k+1=>wdL w n k++(match w.tests[k]? with
  |some t=>if isWd w n t=true then[(k:Int)]else[]
  |none=>[])
theorem Zh0 {w:Wk}{n:Int}{k:Nat}{t:Tt}(h:w.tests[k]?=some t):wdL w n (k+1)=wdL w n k++(if isWd w n t=true then[(k:Int)]else[]):=by
 rw[wdL,h]
theorem Zh1 {w:Wk}{n:Int}:∀{k:Nat},(wdL w n k).length≤k
 |0=>Zv5 _
 |k+1=>by
  have ih:=Zh1 (w:=w) (n:=n) (k:=k);rw[wdL,Zv7];split
  ·split<;>simp<;>omega
  ·simp;omega
def kn (w:Wk)(n:Int):Bool:=w.certs.any fun x=>decide (x.num=n)
def wdrE (D:Wk→ByteArray→Wk×Int)(L:List ByteArray)(n:Int):PV:=if Zbn L=0 then(if kn (foldD D wk0 L).1 n=true then .tup [.lst false 1 ((wdL (foldD D wk0 L).1 n (foldD D wk0 L).1.tests.length).map iP),.int .i64 0]else .tup [.lst false 1 [],.int .i64 7])else .tup [.lst false 1 [],.int .i64 3]
def lsX (w:Wk)(n:Int):Box:=wkX (ctsP w.certs) (bdsP (w.bad++[n])) (lotsP w.lots) (ttsP w.tests) (runsP w.runs)
def wdS (w:Wk)(n:Int)(l:List Int)(k:Nat):AS:=
 ⟨[(7,.ptr (.loc 20 0) 0),(9,.ptr (.loc 32 0) 0),(10,.vec (.loc 67 0) 1 0 l.length),(48,.pv (.lst false 4 (w.tests.map Tt.pv))),(49,.pv (.int .i64 w.tests.length)),(50,.pv (.int .i64 (k:Int)))],
  [(.loc 20 0,w.box),(.loc 32 0,lsX w n),(.loc 67 0,.arr 3 1 (l.map iP))]⟩
theorem ZlB {I:Nat→Wk→Prop}{D:Wk→ByteArray→Wk×Int}(hN:ZhV I D)(h0:I 0 wk0)(hI:∀k w,k≤50→I k w→WkOk w)(L:List ByteArray)(hl:L.length≤1000000)(n:Int)(hb9:∀k w,k≤50→I k w→w.bad.length≤900):Gives Tryz.prog 13 [strsP L,.int .i64 n] (wdrE D L n):=by
 have hch:=Zep L hl;refine Zak.weak2 ?_;refine cFR [.loc 67 0] L13 ?_;intro R hR;unfold wdrE at hR;by_cases hc:Zbn L=0
 ·obtain⟨hl5,hs2⟩:=Ze8 hc;rw[hc]at hch;have hpc:=ZlX hN h0 L (by omega) hs2;have hin:=Zda hN (l:=L) (by omega) h0 hs2;have hok:=hI _ _ (by omega) hin;have hbb:=hb9 _ _ (by omega) hin;clear hin;rw[if_pos hc]at hR;generalize foldD D wk0 L=q at hpc hok hR hbb;obtain⟨w,es⟩:=q;dsimp only at hpc hok hR hbb;have hto:=hok.t;have hkc:=Zk2 w.certs n (bdsP w.bad) (lotsP w.lots) (ttsP w.tests) (runsP w.runs) hok.c;have hkn:(w.certs.any fun x=>decide (x.num=n))=kn w n:=rfl;rw[hkn]at hkc;clear hkn;simp[-getElem?_pos,L13];refine cG [strsP L] hch ?_;simp[-getElem?_pos];refine .inl (Zbh [] (fs:=[]) (xs:=[strsP L]) (cs:=[]) (d:=20) rfl rfl hpc ?_);rintro r B ⟨rfl,rfl⟩;refine⟨by simp[Wk.box,wkX],?_⟩;simp[-getElem?_pos,Wk.box,wkX];refine cM [.ptr (.par 0) 0,.pv (.int .i64 n)] [(.par 0,wkX (ctsP w.certs) (bdsP w.bad) (lotsP w.lots) (ttsP w.tests) (runsP w.runs))] 25 [.loc 20 0] (by simp[wkX]) hkc (by simp[wkX]) ?_;cases hkv:kn w n with
  |false=>
   rw[hkv,if_neg (by simp)]at hR;simp[-getElem?_pos,wkX];rw[←hR];exact⟨_,rfl,by simp,ZbW 5 _ _ rfl⟩
  |true=>
  rw[hkv,if_pos rfl]at hR;simp[-getElem?_pos,wkX,setAt,bdsP];refine .inl (cQ [] [.lst false 1 (w.bad.map iP),.int .i64 n] (Znn (w.bad.map iP) n (by rw[Zv6];omega)) ?_);have hap:w.bad.map iP++[.int .i64 n]=(w.bad++[n]).map iP:=by rw[Zwp];rfl
  rw[hap];have hB2:(w.bad++[n]).length≤1000:=by rw[Zv7];simp;omega
  simp[-getElem?_pos,-List.map_append,ttsP];refine Zae (fun m τ=>∃k:Nat,k≤w.tests.length∧m=w.tests.length-k∧τ=wdS w n (wdL w n k) k) ⟨w.tests.length,wdS w n [] 0,Sub.trans' (Sub.mk (by simp[wdS,AS.vecT]) (by simp[-List.map_append,wdS,lsX,AS.vecT,Wk.box,wkX,ttsP,bdsP,ctsP])) (vecT 67 3 1 10 rfl (by decide)),0,Zwb _,rfl,rfl⟩ ?_;rintro J hJ m τ ⟨k,hk,rfl,rfl⟩;by_cases hlt:k<w.tests.length
  ·obtain⟨t,hx⟩:∃t,w.tests[k]?=some t:=⟨w.tests[k],ZvZ hlt⟩;have hg:(w.tests.map Tt.pv)[k]?=some t.pv:=by rw[Zv0,hx];rfl
   simp only[Tt.pv]at hg;have hs1:=Zew w.certs w.bad (lotsP w.lots) (ttsP w.tests) (runsP w.runs) hok.c hok.b t.lot t.item t.day t.rd;have hs2:=Zew w.certs (w.bad++[n]) (lotsP w.lots) (ttsP w.tests) (runsP w.runs) hok.c hB2 t.lot t.item t.day t.rd;have e1:decide (((Zaj w.certs w.bad).bestM t.item t.day).2=0)=stM w.certs w.bad t.item t.day:=rfl;have e2:decide (((Zaj w.certs (w.bad++[n])).bestM t.item t.day).2=0)=stM w.certs (w.bad++[n]) t.item t.day:=rfl;rw[e1]at hs1;rw[e2]at hs2;have hw:=wrapK (k:=k) (by omega);have hrl:=Zh1 (w:=w) (n:=n) (k:=k);have h1:(wdL w n k).length+1≤1000000:=by omega
   have hn:=hJ (w.tests.length-(k+1)) _ ⟨k+1,hlt,rfl,rfl⟩;rw[Zh0 hx]at hn;unfold isWd at hn;have hmeas:w.tests.length-(k+1)<w.tests.length-k:=by omega
   clear e1 e2 hJ;generalize wdL w n k=RL at hn h1 ⊢;generalize stM w.certs w.bad t.item t.day=a1 at hn hs1;generalize stM w.certs (w.bad++[n]) t.item t.day=a2 at hn hs2;simp[-getElem?_pos,-List.getElem?_map,-List.map_append,wdS,lsX,Wk.box,wkX,ttsP,hlt,hg,nblt,nble,setAt];refine cM [.ptr (.par 0) 0,.pv (.agg [.int .i64 t.lot,.int .i64 t.item,.int .i64 t.day,.int .i64 t.rd])] [(.par 0,wkX (ctsP w.certs) (bdsP w.bad) (lotsP w.lots) (ttsP w.tests) (runsP w.runs))] 57 [.loc 20 0] (by simp[wkX,bdsP,ttsP]) hs1 (by simp[wkX]) ?_;cases a1 with
   |false=>
    rw[if_neg (by simp),Zwn]at hn;simp[-getElem?_pos,-List.map_append,wkX,nble,hw];exact⟨_,_,hmeas,Sub.mk (by simp[wdS]) (by simp[-List.map_append,wdS,lsX,Wk.box,wkX,ttsP,bdsP]),hn⟩
   |true=>
    simp[-getElem?_pos,-List.map_append,wkX];refine cM [.ptr (.par 0) 0,.pv (.agg [.int .i64 t.lot,.int .i64 t.item,.int .i64 t.day,.int .i64 t.rd])] [(.par 0,wkX (ctsP w.certs) (bdsP (w.bad++[n])) (lotsP w.lots) (ttsP w.tests) (runsP w.runs))] 61 [.loc 32 0] (by simp[-List.map_append,wkX,bdsP,ttsP]) hs2 (by simp[wkX]) ?_;cases a2 with
    |false=>
     rw[if_pos (by simp)]at hn;simp[-getElem?_pos,-List.map_append,wkX,h1,nble,hw];exact⟨_,_,hmeas,Sub.mk (by simp[wdS]) (by simp[-List.map_append,wdS,lsX,Wk.box,wkX,ttsP,bdsP];simp[iP]),hn⟩
    |true=>
     rw[if_neg (by simp),Zwn]at hn;simp[-getElem?_pos,-List.map_append,wkX,nble,hw];exact⟨_,_,hmeas,Sub.mk (by simp[wdS]) (by simp[-List.map_append,wdS,lsX,Wk.box,wkX,ttsP,bdsP]),hn⟩
  ·have he:k=w.tests.length:=by omega
   subst he;have hm:List.take (wdL w n w.tests.length).length ((wdL w n w.tests.length).map iP)=(wdL w n w.tests.length).map iP:=Zv9 (by simp);simp[-getElem?_pos,-List.map_append,wdS,lsX,Wk.box,wkX,hm];rw[←hR];exact⟨_,rfl,by simp,fun m v h=>h⟩
 ·have h3:=Ze7 hc;rw[h3]at hch;rw[if_neg hc]at hR;simp[-getElem?_pos,L13];refine cG [strsP L] hch ?_;simp[-getElem?_pos];rw[←hR];exact⟨_,rfl,rfl,ZbW 5 _ _ rfl⟩
end
section
open Go.RowKit
def Wk.next (st:Wk)(r:Except Int Wk):Wk×Int:=match r with
 |.ok w=>(w,0)
 |.error e=>(st,e)
def boxQ (r:Except Int Wk)(a b c d e:PV):Prop:=∃w,r=.ok w∧wkX a b c d e=w.box
theorem ZsQ {f:FuncId}{xs:List AV}{B:List (Site×Box)}{r:Except Int Wk}(h:Za7 Tryz.prog f xs B (okR (boxQ r)) (noR (fun e=>r=.error e))):
  Zak Tryz.prog f xs B (okR (boxQ r))∨Zdh Tryz.prog f xs B (noR (fun e=>r=.error e)):=by
 cases r with
 |ok w=>exact .inl (h.ret (fun x B' ⟨n,_,h1,_⟩=>by cases h1))
 |error e=>exact .inr (h.pan (fun r B' ⟨_,a,b,c,d,e',_,w,h1,_⟩=>by cases h1))
theorem Zvf (st:Wk)(s:ByteArray)(r:Except Int Wk)(hl:Za7 Tryz.prog 121 [.ptr (.par 0) 0,.pv (.str s)] [(.par 0,st.box)] (okR (boxQ r)) (noR (fun e=>r=.error e))):
  Zak Tryz.prog 70 [.ptr (.par 0) 0,.pv (.str s)] [(.par 0,st.box)] (fun x B=>x=.pv (.int .i64 (st.next r).2)∧B=[(.par 0,(st.next r).1.box)]):=by
 cases r with
 |ok w=>
  refine ZtR ((hl.ret (fun x B' ⟨n,_,h1,_⟩=>by cases h1)).mono ?_);rintro x B ⟨rfl,a,b,c,d,e,rfl,w',h1,h2⟩;cases h1;exact⟨rfl,by rw[h2];rfl⟩
 |error n=>
  refine ZtS ((hl.pan (fun r B' ⟨_,a,b,c,d,e',_,w,h1,_⟩=>by cases h1)).mono ?_);rintro x B ⟨m,rfl,h1,a,b,c,d,e,rfl⟩;cases h1;exact⟨rfl,a,b,c,d,e,rfl⟩
def lineM (doW:FuncId→List Int→Except Int Wk)(s:ByteArray):Except Int Wk:=match Zay s with
 |none=>.error 4
 |some (g,nums)=>doW g nums
theorem Zvp (st:Wk)(doW:FuncId→List Int→Except Int Wk)(s:ByteArray)(hs:s.size≤1000)
  (hw:∀g nums,Zay s=some (g,nums)→Za7 Tryz.prog g [.ptr (.par 0) 0,.pv (.lst false 1 (nums.map iP))] [(.par 0,st.box)] (okR (boxQ (doW g nums))) (noR (fun e=>doW g nums=.error e))):
  Za7 Tryz.prog 121 [.ptr (.par 0) 0,.pv (.str s)] [(.par 0,st.box)] (okR (boxQ (lineM doW s))) (noR (fun e=>lineM doW s=.error e)):=by
 refine Zvo s hs (fun h=>?_) (fun g nums h=>?_)
 ·unfold lineM;rw[h]
 ·have e:lineM doW s=doW g nums:=by unfold lineM;rw[h]
  rw[e];exact ZsQ (hw g nums h)
theorem Zvb (st:Wk)(n:Int)(hn:-1000000000<n∧n<1000000000)(h:WkOk st)(hs:(st.lots.map Lt.num).Pairwise (·<·)):
  Za7 Tryz.prog 191 [.ptr (.par 0) 0,.pv (.lst false 1 [iP n])] [(.par 0,st.box)] (okR (boxQ ((passM (verdL st.certs st.bad st.tests) st.lots n).map fun l=>{ st with lots:=l }))) (noR (fun e=>(passM (verdL st.certs st.bad st.tests) st.lots n).map (fun l=>{ st with lots:=l })=.error e)):=by
 refine(Zva st.certs st.bad st.lots st.tests (runsP st.runs) n hn h.c h.b h.l h.t hs h.lt h.fit).mono ?_ ?_
 ·rintro r B ⟨rfl,a,b,c,d,e,rfl,l',h1,rfl,rfl,rfl,rfl,rfl⟩;exact⟨rfl,_,_,_,_,_,rfl,{ st with lots:=l' },by rw[h1];rfl,rfl⟩
 ·rintro x B ⟨m,rfl,h1,h2⟩;exact⟨m,rfl,by rw[h1];rfl,h2⟩
theorem Zu1 (st:Wk)(q:Tt)(hn:-1000000000<q.lot∧q.lot<1000000000)(h:WkOk st)(hs:(st.lots.map Lt.num).Pairwise (·<·)):
  Za7 Tryz.prog 190 [.ptr (.par 0) 0,.pv (.lst false 1 [iP q.lot,iP q.item,iP q.day,iP q.rd])] [(.par 0,st.box)] (okR (boxQ ((testM (stM st.certs st.bad) (verdL st.certs st.bad st.tests) st.lots st.tests q).map fun l=>{ st with tests:=l }))) (noR (fun e=>(testM (stM st.certs st.bad) (verdL st.certs st.bad st.tests) st.lots st.tests q).map (fun l=>{ st with tests:=l })=.error e)):=by
 refine(Zu0 st.certs st.bad st.lots st.tests (runsP st.runs) q hn h.c h.b h.l h.t hs h.lt h.fit).mono ?_ ?_
 ·rintro r B ⟨rfl,a,b,c,d,e,rfl,l',h1,rfl,rfl,rfl,rfl,rfl⟩;exact⟨rfl,_,_,_,_,_,rfl,{ st with tests:=l' },by rw[h1];rfl,rfl⟩
 ·rintro x B ⟨m,rfl,h1,h2⟩;exact⟨m,rfl,by rw[h1];rfl,h2⟩
theorem ZvG (st:Wk)(x:Ct)(hl:st.certs.length≤900)(hb:st.bad.length≤1000):
  Za7 Tryz.prog 187 [.ptr (.par 0) 0,.pv (.lst false 1 [iP x.num,iP x.it,iP x.src,iP x.day,iP x.valid,iP x.diff.lo,iP x.diff.hi])] [(.par 0,st.box)] (okR (boxQ ((certM st.certs st.bad x).map fun l=>{ st with certs:=l }))) (noR (fun e=>(certM st.certs st.bad x).map (fun l=>{ st with certs:=l })=.error e)):=by
 refine(ZvF st.certs st.bad (lotsP st.lots) (ttsP st.tests) (runsP st.runs) x hl hb).mono ?_ ?_
 ·rintro r B ⟨rfl,a,b,c,d,e,rfl,l',h1,rfl,rfl,rfl,rfl,rfl⟩;exact⟨rfl,_,_,_,_,_,rfl,{ st with certs:=l' },by rw[h1];rfl,rfl⟩
 ·rintro x B ⟨m,rfl,h1,h2⟩;exact⟨m,rfl,by rw[h1];rfl,h2⟩
theorem run_w {F:Nat}(hF:407<F)(st:Wk)(h r o:Int)(hr:st.runs.length≤900):
  Za7 Tryz.prog 192 [.ptr (.par 0) 0,.pv (.lst false 1 [iP h,iP r,iP o])] [(.par 0,st.box)] (okR (boxQ ((runM F st.runs h r o).map fun l=>{ st with runs:=l }))) (noR (fun e=>(runM F st.runs h r o).map (fun l=>{ st with runs:=l })=.error e)):=by
 refine(run_x hF st.runs (ctsP st.certs) (bdsP st.bad) (lotsP st.lots) (ttsP st.tests) h r o hr).mono ?_ ?_
 ·rintro r' B ⟨rfl,a,b,c,d,e,rfl,l',h1,rfl,rfl,rfl,rfl,rfl⟩;exact⟨rfl,_,_,_,_,_,rfl,{ st with runs:=l' },by rw[h1];rfl,rfl⟩
 ·rintro x B ⟨m,rfl,h1,h2⟩;exact⟨m,rfl,by rw[h1];rfl,h2⟩
def Zey (v:Int):Prop:=-1000000000<v∧v<1000000000
theorem ZfT:∀{r:List ByteArray} {l:List Int},numsB r=some l→l.length=r.length∧∀v∈l,Zey v
 |[],l,h=>by cases h;exact⟨rfl,fun v hv=>by cases hv⟩
 |x::r,l,h=>by
  rw[Zbs]at h;cases hx:numB x with
  |none=>rw[hx]at h;cases h
  |some n=>
   rw[hx]at h;obtain⟨l',h1,rfl⟩:=Zv4.1 h;obtain⟨h2,h3⟩:=ZfT h1;refine⟨by rw[Zws,Zws,h2],fun v hv=>?_⟩;rcases Zwg.1 hv with rfl|hv
   ·exact ZtN hx
   ·exact h3 v hv
theorem ZtE {s:ByteArray}{g:FuncId}{nums:List Int}(h:Zay s=some (g,nums)):∃l0 k,wordB l0=some (k,g)∧nums.length=k∧∀v∈nums,Zey v:=by
 unfold Zay at h;split at h
 ·cases h
 ·rename_i l0 r _;split at h
  ·rename_i k g' hw;split at h
   ·rename_i hr;obtain⟨l,h1,h2⟩:=Zv4.1 h;cases h2;obtain⟨h3,h4⟩:=ZfT h1;exact⟨l0,k,hw,by omega,h4⟩
   ·cases h
  ·cases h
def badM (l:List Ct)(bad:List Int)(n:Int):Except Int (List Int):=
 if(l.any fun y=>decide (y.num=n))=true then(if n∈bad then .error 6 else .ok (bad.take (lowB bad n)++n::bad.drop (lowB bad n)))else .error 7
def lotM (ls:List Lt)(x:Lt):Except Int (List Lt):=
 if(decide (1≤x.num)&&decide (x.num≤99))=true∧(decide (4≤x.pieces)&&decide (x.pieces≤30))=true∧(decide (0≤x.limit)&&decide (x.limit≤1000))=true then
  (if x.num∈ls.map Lt.num then .error 6 else .ok (ls.take (lowB (ls.map Lt.num) x.num)++x::ls.drop (lowB (ls.map Lt.num) x.num)))
 else .error 2
def doW (F:Nat)(st:Wk)(g:FuncId)(nums:List Int):Except Int Wk:=
 if g=187 then(match nums with
  |[a,b,c,d,e,f,h]=>(certM st.certs st.bad { num:=a,it:=b,src:=c,day:=d,valid:=e,diff:=⟨f,h⟩}).map fun l=>{ st with certs:=l }
  |_=>.error 4)
 else if g=188 then(match nums with
  |[n]=>(badM st.certs st.bad n).map fun l=>{ st with bad:=l }
  |_=>.error 4)
 else if g=189 then(match nums with
  |[n,p,m]=>(lotM st.lots ⟨n,p,m,false⟩).map fun l=>{ st with lots:=l }
  |_=>.error 4)
 else if g=190 then(match nums with
  |[a,b,c,d]=>(testM (stM st.certs st.bad) (verdL st.certs st.bad st.tests) st.lots st.tests ⟨a,b,c,d⟩).map fun l=>{ st with tests:=l }
  |_=>.error 4)
 else if g=191 then(match nums with
  |[n]=>(passM (verdL st.certs st.bad st.tests) st.lots n).map fun l=>{ st with lots:=l }
  |_=>.error 4)
 else(match nums with
  |[h,r,o]=>(runM F st.runs h r o).map fun l=>{ st with runs:=l }
  |_=>.error 4)
def BadOk (st:Wk):Prop:=∀n,Zey n→Za7 Tryz.prog 188 [.ptr (.par 0) 0,.pv (.lst false 1 [iP n])] [(.par 0,st.box)] (okR (boxQ ((badM st.certs st.bad n).map fun l=>{ st with bad:=l }))) (noR (fun e=>(badM st.certs st.bad n).map (fun l=>{ st with bad:=l })=.error e))
def LotOk (st:Wk):Prop:=∀n p m,Zey n→Zey p→Zey m→Za7 Tryz.prog 189 [.ptr (.par 0) 0,.pv (.lst false 1 [iP n,iP p,iP m])] [(.par 0,st.box)] (okR (boxQ ((lotM st.lots ⟨n,p,m,false⟩).map fun l=>{ st with lots:=l }))) (noR (fun e=>(lotM st.lots ⟨n,p,m,false⟩).map (fun l=>{ st with lots:=l })=.error e))
theorem do_w {F:Nat}(hF:407<F)(st:Wk)(h:WkOk st)(hc:st.certs.length≤900)(hr:st.runs.length≤900)(hs:(st.lots.map Lt.num).Pairwise (·<·))(hB:BadOk st)(hL:LotOk st){l0:ByteArray}{k:Nat}{g:FuncId}{nums:List Int}(hw:wordB l0=some (k,g))(hk:nums.length=k)(hn:∀v∈nums,Zey v):
  Za7 Tryz.prog g [.ptr (.par 0) 0,.pv (.lst false 1 (nums.map iP))] [(.par 0,st.box)] (okR (boxQ (doW F st g nums))) (noR (fun e=>doW F st g nums=.error e)):=by
 unfold wordB at hw;split at hw
 ·cases hw
  match nums,hk,hn with
  |[a,b,c,d,e,f,i],_,_=>exact ZvG st { num:=a,it:=b,src:=c,day:=d,valid:=e,diff:=⟨f,i⟩} hc h.b
 split at hw
 ·cases hw
  match nums,hk,hn with
  |[n],_,hn=>exact hB n (hn n (by simp))
 split at hw
 ·cases hw
  match nums,hk,hn with
  |[n,p,m],_,hn=>exact hL n p m (hn n (by simp)) (hn p (by simp)) (hn m (by simp))
 split at hw
 ·cases hw
  match nums,hk,hn with
  |[a,b,c,d],_,hn=>exact Zu1 st ⟨a,b,c,d⟩ (hn a (by simp)) h hs
 split at hw
 ·cases hw
  match nums,hk,hn with
  |[n],_,hn=>exact Zvb st n (hn n (by simp)) h hs
 split at hw
 ·cases hw
  match nums,hk,hn with
  |[a,r,o],_,_=>exact run_w hF st a r o hr
 cases hw
def doB (F:Nat)(st:Wk)(s:ByteArray):Wk×Int:=st.next (lineM (doW F st) s)
theorem doB_c {F:Nat}(hF:407<F)(st:Wk)(s:ByteArray)(hz:s.size≤1000)(h:WkOk st)(hc:st.certs.length≤900)(hr:st.runs.length≤900)(hs:(st.lots.map Lt.num).Pairwise (·<·))(hB:BadOk st)(hL:LotOk st):
  Zak Tryz.prog 70 [.ptr (.par 0) 0,.pv (.str s)] [(.par 0,st.box)] (fun x B=>x=.pv (.int .i64 (doB F st s).2)∧B=[(.par 0,(doB F st s).1.box)]):=
 Zvf st s _ (Zvp st _ s hz fun g nums hp=>by
  obtain⟨l0,k,h1,h2,h3⟩:=ZtE hp;exact do_w hF st h hc hr hs hB hL h1 h2 h3)
end
section
open Go.RowKit
attribute [local simp] Box.purge Site.isLoc
attribute [local irreducible] Bk.held Bk.nums Bk.heldU
set_option maxRecDepth 10000
set_option linter.unusedSimpArgs false
end
section
open Go.RowKit
attribute [local simp] Box.purge Site.isLoc
set_option maxRecDepth 10000
theorem ZjW {b:Bk}{bad:List Int}:∀k,(b.heldU bad k).length≤k
 |0=>Zv5 _
 |k+1=>by
  rw[Zfw,Zv7]
  have:=ZjW (b:=b) (bad:=bad) k
  split<;>simp<;>omega
attribute [local irreducible] Bk.held Bk.nums Bk.heldU
attribute [local simp] retFz frzL AS.frz AV.frz AV.frzL Box.frz AS.tidy AS.frzC
end
section
open Go.RowKit
attribute [local simp] Box.purge Site.isLoc
set_option maxRecDepth 10000

end
section
open Go.RowKit
attribute [local simp] Box.purge Site.isLoc
attribute [local irreducible] Bk.held Bk.nums Bk.heldU
set_option maxRecDepth 10000
set_option linter.unusedSimpArgs false
theorem Zrb {b:Bk}{bad:List Int}:(b.held bad).length≤1000:=by
 have:b.held bad=b.heldU bad 1000:=by unfold Bk.held;rfl
 rw[this];exact ZjW 1000
section
attribute [local simp] retFz frzL AS.frz AV.frz AV.frzL Box.frz AS.tidy AS.frzC
end
end
section
open Go.RowKit
set_option maxRecDepth 10000
def szP (S:Int→Cr)(H:List Int)(i:Nat):PV:=if i<2000 then(.int .i64 (if i%2=0 then(S ((i / 2:Nat):Int)).lo else(S ((i / 2:Nat):Int)).hi))else .lst false 1 (H.map intP)
def szL (S:Int→Cr)(H:List Int):List AV:=(List.range 2001).map fun i:Nat=>.pv (szP S H i)
variable {S:Int→Cr}{H:List Int}
theorem ZkB:(szL S H).length=2001:=by unfold szL;simp
theorem Zs6 {i:Nat}(h:i<2001):(szL S H)[i]?=some (.pv (szP S H i)):=by
 unfold szL;rw[Zv0,List.getElem?_range h];rfl
theorem Zh7:(szL S H)[2000]?=some (.pv (.lst false 1 (H.map intP))):=by
 rw[Zs6 (by omega)];unfold szP;rw[if_neg (by omega)]
theorem ZkC (d:Nat):AV.hasL d (szL S H)=false:=Zgv _
theorem ZkD (q:Site→Bool):AV.allSL q (szL S H)=true:=Zgw _
theorem Zga (d:Nat):(szL S H).map (AV.purge d)=szL S H:=Zgt _
theorem ZkA (g:Site→Site):AV.mapL g (szL S H)=szL S H:=Zgu _
attribute [irreducible] szL
attribute [local irreducible] Bk.held Bk.nums Bk.heldU Bk.span
attribute [local simp] AS.exp expG Box.ren AV.map AV.mapL Zaw noRet Site.isRet Box.allS AV.allS AV.allSL retB dropL AS.adds renL outG outOk Zau inG fnOf lookA Zww
attribute [local simp] Box.purge Site.isLoc
attribute [local simp] ZkC ZkD Zga ZkA Zh7 ZkB
end
section
open Go.RowKit
set_option maxRecDepth 10000
def Bk.spK (b:Bk)(k:Nat)(m:Int):Cr:=if((b.held []).take k).contains m=true then b.span (b.held []) m else⟨0,0⟩
attribute [local irreducible] Bk.held Bk.nums Bk.heldU Bk.span
def Bk.spI (b:Bk)(k:Nat)(n:Int)(i:Nat):Int→Cr:=if((b.certs.take i).any fun c=>decide (c.num=n))=true then b.spK (k+1)else b.spK k
def szPs (S:Int→Cr)(H:List Int):List PV:=(List.range 2001).map (szP S H)
attribute [irreducible] szPs
attribute [local irreducible] Bk.spK Bk.spI
attribute [local simp] AS.exp expG Box.ren AV.map AV.mapL Zaw noRet Site.isRet Box.allS AV.allS AV.allSL retB dropL AS.adds renL outG outOk Zau inG fnOf lookA Zww
attribute [local simp] Box.purge Site.isLoc
attribute [local simp] ZkC ZkD Zga ZkA Zh7 ZkB
end
section
open Go.RowKit
set_option maxRecDepth 10000
attribute [local irreducible] Bk.held Bk.nums Bk.heldU Bk.span
attribute [local simp] AS.exp expG Box.ren AV.map AV.mapL Zaw noRet Site.isRet Box.allS AV.allS AV.allSL retB dropL AS.adds renL outG outOk Zau inG fnOf lookA Zww
attribute [local simp] Box.purge Site.isLoc
attribute [local simp] ZkC ZkD Zga ZkA Zh7 ZkB
end
section
open Go.RowKit
set_option maxRecDepth 10000
attribute [local simp] AS.exp expG Box.ren AV.map AV.mapL Zaw noRet Site.isRet Box.allS AV.allS AV.allSL retB dropL AS.adds renL outG outOk Zau inG fnOf lookA Zww
attribute [local simp] Box.purge Site.isLoc
attribute [local simp] retFz frzL AS.frz AV.frz AV.frzL Box.frz AS.tidy AS.frzC


end
section
open Go.RowKit
set_option maxRecDepth 10000
attribute [local irreducible] Bk.held Bk.nums Bk.heldU Bk.span
attribute [local simp] AS.exp expG Box.ren AV.map AV.mapL Zaw noRet Site.isRet Box.allS AV.allS AV.allSL retB dropL AS.adds renL outG outOk Zau inG fnOf lookA Zww
attribute [local simp] Box.purge Site.isLoc
end
section
open Go.RowKit
set_option maxRecDepth 10000
section
attribute [local simp] Box.purge Site.isLoc
attribute [local simp] retFz frzL AS.frz AV.frz AV.frzL Box.frz AS.tidy AS.frzC
end
end
section
open Go.RowKit

end
section
open Go.RowKit
set_option maxRecDepth 10000
attribute [local irreducible] Bk.held Bk.nums Bk.heldU Bk.span
section
variable {b b':Bk}{t:Int}
theorem Zt8 (hb:b.ok){item day:Int}(h:b.isHeld item day=true):(b.item item).std=true∨∃o∈b.certs,Bk.ofB item day 1000 o=true∧o.num∈b.held []:=by
 unfold Bk.isHeld at h;rw[Zwx,Zi5 hb,Zwq]at h;rcases h with h|⟨o,ho,h⟩
 ·exact .inl h
 ·rw[Zv2,Zwk]at h;exact .inr ⟨o,ho,h.1,h.2⟩
theorem Zsb {item day:Int}(h:b.askM item day=0):b.isHeld item day=true:=by
 unfold Bk.askM at h;split at h
 ·split at h
  ·split at h
   ·assumption
   ·cases h
  ·cases h
 ·rename_i h0;exact absurd h h0
theorem Zsa {item day:Int}(h:b.askM item day=0):0≤item∧item<b.items.length∧0≤day∧day≤1000:=by
 unfold Bk.askM at h;split at h
 ·split at h
  ·rename_i h1;unfold Bk.hasItem inB at h1;simp only[Zv2,decide_eq_true_eq]at h1;omega
  ·cases h
 ·rename_i h0;exact absurd h h0
theorem ZnN (hb:b.ok)(item day:Int):(b.spanM item day).1.bdd 1000000000:=by
 unfold Bk.spanM;split
 ·rename_i h;split
  ·unfold Cr.bdd;simp only;omega
  ·obtain⟨h1,h2,_⟩:=Zsa h
   have:=ZiJ hb (held:=b.held []) (S:=b.span (b.held [])) (item:=item) (day:=day) (below:=1000) (A:=300000*1000) h1 h2 (by omega) (by omega) (Zt8 hb (Zsb h)) (fun o ho _ hox=>by
    have:=ZfN hb o ho hox
    have:=(Zbg hb ho).2.1
    unfold Cr.bdd at *
    omega)
   show Cr.bdd (b.itemSpan (b.held []) (b.span (b.held [])) item day 1000) 1000000000;unfold Cr.bdd at *;omega
 ·unfold Cr.bdd;simp only;omega
end
end
section
open Go.RowKit
set_option maxRecDepth 10000
section
attribute [local irreducible] Bk.suspM earlE
theorem ZkX {y x:Int}{r:List Int}(h:y<x):lowB (y::r) x=lowB r x+1:=by
 unfold lowB;rw[ZwJ,if_pos (by simpa using h)];rfl
theorem ZkY {y x:Int}{r:List Int}(hs:(y::r).Pairwise (·<·))(h:¬y<x):lowB (y::r) x=0:=by
 obtain⟨h1,_⟩:=List.pairwise_cons.1 hs;unfold lowB;rw[ZwJ,if_neg (by simpa using h)];rw[List.length_eq_zero_iff,List.filter_eq_nil_iff];intro z hz
 have:=h1 z hz
 simp;omega
theorem Zhz {l:List Int}{x:Int}:lowB l x≤l.length:=ZwN _ _
def insB {α:Type}(l:List α)(i:Nat)(x:α):List α:=l.take i++x::l.drop i
theorem Zdl {α:Type}{l:List α}{i:Nat}{x z:α}:z∈insB l i x↔z=x∨z∈l:=by
 unfold insB;rw[Zwv,Zwg];constructor
 ·rintro(h|h|h)
  ·exact .inr (List.mem_of_mem_take h)
  ·exact .inl h
  ·exact .inr (List.mem_of_mem_drop h)
 ·rintro(h|h)
  ·exact .inr (.inl h)
  ·rw[←ZwY i l]at h;rcases Zwv.1 h with h|h
   ·exact .inl h
   ·exact .inr (.inr h)
theorem ZcN {α:Type}{l:List α}{i:Nat}{x:α}(h:i≤l.length):(insB l i x).length=l.length+1:=by
 unfold insB;rw[Zv7,Zws,Zv8,ZwB];omega
theorem ZiN {α β:Type}{f:α→β}{l:List α}{i:Nat}{x:α}:(insB l i x).map f=insB (l.map f) i (f x):=by
 unfold insB;rw[Zwp,Zwd,List.map_take,List.map_drop]
theorem Zeo {x:Int}:∀{l:List Int},l.Pairwise (·<·)→x∉l→(insB l (lowB l x) x).Pairwise (·<·)
 |[],_,_=>by simp[insB,lowB]
 |y::r,hs,hn=>by
  obtain⟨h1,h2⟩:=List.pairwise_cons.1 hs;by_cases hy:y<x
  ·rw[ZkX hy];have ih:=Zeo h2 (fun h=>hn (ZwR _ h));show(y::insB r (lowB r x) x).Pairwise (·<·);refine List.pairwise_cons.2 ⟨fun z hz=>?_,ih⟩;rcases Zdl.1 hz with rfl|h
   ·exact hy
   ·exact h1 z h
  ·rw[ZkY hs hy];show(x::y::r).Pairwise (·<·);have hxy:x<y:=by
    have:x≠y:=fun e=>hn (by rw[e];exact Zwz ..)
    omega
   refine List.pairwise_cons.2 ⟨fun z hz=>?_,hs⟩;rcases Zwg.1 hz with rfl|h
   ·exact hxy
   ·have:=h1 z h;omega
structure WkI (k:Nat)(st:Wk):Prop where
 c:st.certs.length≤k
 b:st.bad.length≤k
 l:st.lots.length≤k
 t:st.tests.length≤k
 r:st.runs.length≤k
 bk:Bk.ok ⟨ZaE,st.certs⟩
 bs:st.bad.Pairwise (·<·)
 bn:∀n∈st.bad,∃y∈st.certs,y.num=n
 s:(st.lots.map Lt.num).Pairwise (·<·)
 lt:∀x∈st.lots,ltOk x∧0≤x.limit∧x.limit≤1000
 tt:∀t∈st.tests,2≤t.item∧t.item≤5∧0≤t.day∧t.day≤1000∧0≤t.rd∧t.rd≤2000∧∃x∈st.lots,x.num=t.lot
 on:∀r∈st.runs,∃h q o,r=newR h q o∧1≤h∧h≤40∧0≤q∧q≤40∧1≤o∧o≤3
 r6:st.runs.length≤6
theorem ZjS:Bk.ok ⟨ZaE,[]⟩:=Bk.ok_iff.1 (by decide)
theorem wk0_I:WkI 0 wk0:=⟨Zv5 _,Zv5 _,Zv5 _,Zv5 _,Zv5 _,ZjS,.nil,fun n h=>(by cases h),.nil,fun x h=>(by cases h),fun t h=>(by cases h),fun r h=>(by cases h),by decide⟩
theorem WkI.mono {k k':Nat}{st:Wk}(h:WkI k st)(hk:k≤k'):WkI k' st:=
 ⟨Zwh h.c hk,Zwh h.b hk,Zwh h.l hk,Zwh h.t hk,Zwh h.r hk,h.bk,h.bs,h.bn,h.s,h.lt,h.tt,h.on,h.r6⟩
theorem Zbf {l:List Ct}{bad:List Int}(h:Bk.ok ⟨ZaE,l⟩):(Zaj l bad).ok:=
 ⟨h.i,Zwh (ZwN _ _) h.c,h.it,fun x hx=>h.ct x (Zwe.1 hx).1,fun x hx y hy=>h.one x (Zwe.1 hx).1 y (Zwe.1 hy).1,fun x hx y hy=>h.day x (Zwe.1 hx).1 y (Zwe.1 hy).1⟩
theorem WkI.fit {k:Nat}{st:Wk}(h:WkI k st):spFit st.certs st.bad st.tests:=fun t ht=>by
 have h1:=ZnN (Zbf (bad:=st.bad) h.bk) t.item t.day;obtain⟨_,_,_,_,h2,h3,_⟩:=h.tt t ht;unfold Cr.bdd at h1;exact wrap64 (by omega)
theorem WkI.ok {k:Nat}{st:Wk}(h:WkI k st)(hk:k≤150):WkOk st:=
 ⟨by have:=h.c;omega,by have:=h.b;omega,by have:=h.l;omega,by have:=h.t;omega,by have:=h.r;omega,fun x hx=>(h.lt x hx).1,h.fit,fun r hr=>by
  obtain⟨a,b,c,rfl,_⟩:=h.on r hr;show 2≤1000
  omega⟩
theorem Za3 {α β:Type}{r:Except Int α}{f:α→β}{w:β}(h:r.map f=.ok w):∃l,r=.ok l∧w=f l:=by
 cases r with
 |ok l=>cases h;exact⟨l,rfl,rfl⟩
 |error e=>cases h
theorem Zmz {l l':List Ct}{bad:List Int}{x:Ct}(h:certM l bad x=.ok l'):l'=l++[x]∧Bk.ok ⟨ZaE,l++[x]⟩∧(Zaj (l++[x]) bad).suspM.2=7∧∀y∈l,y.num≠x.num:=by
 unfold certM at h;split at h
 ·cases h
 ·rename_i h0;split at h
  ·rename_i h1;split at h
   ·rename_i h2;cases h;refine⟨rfl,Bk.ok_iff.1 h1,h2,fun y hy e=>h0 ?_⟩;exact Zwq.2 ⟨y,hy,by simpa using e⟩
   ·cases h
  ·cases h
theorem ZpU {l:List Ct}{bad b':List Int}{n:Int}(h:badM l bad n=.ok b'):(∃y∈l,y.num=n)∧n∉bad∧b'=insB bad (lowB bad n) n:=by
 unfold badM at h;split at h
 ·rename_i h0;split at h
  ·cases h
  ·rename_i h1;cases h;obtain⟨y,hy,e⟩:=Zwq.1 h0;exact⟨⟨y,hy,by simpa using e⟩,h1,rfl⟩
 ·cases h
theorem ZoP {ls l':List Lt}{x:Lt}(h:lotM ls x=.ok l'):(ltOk x∧0≤x.limit∧x.limit≤1000)∧x.num∉ls.map Lt.num∧l'=insB ls (lowB (ls.map Lt.num) x.num) x:=by
 unfold lotM at h;split at h
 ·rename_i h0;split at h
  ·cases h
  ·rename_i h1;cases h;simp only[Zv2,decide_eq_true_eq]at h0;exact⟨⟨⟨h0.1.1,h0.1.2,h0.2.1.1,h0.2.1.2⟩,h0.2.2⟩,h1,rfl⟩
 ·cases h
theorem Zh6 {S:Int→Int→Bool}{v:Lt→Int}{ls:List Lt}{ts l':List Tt}{q:Tt}(h:testM S v ls ts q=.ok l'):l'=ts++[q]∧(2≤q.item∧q.item≤5∧0≤q.day∧q.day≤1000∧0≤q.rd∧q.rd≤2000)∧S q.item q.day=true∧∃x∈ls,x.num=q.lot∧x.passed=false∧v x=3∧(manyT ts q.lot:Int)<x.pieces:=by
 unfold testM at h;split at h
 ·rename_i h0;split at h
  ·rename_i x hx;split at h
   ·rename_i h1;split at h
    ·cases h
    ·rename_i h2;split at h
     ·rename_i h3;split at h
      ·rename_i h4;split at h
       ·rename_i h5;cases h;simp only[Zv2,decide_eq_true_eq]at h0;exact⟨rfl,⟨h0.1.1,h0.1.2,h0.2.1.1,h0.2.1.2,h0.2.2.1,h0.2.2.2⟩,h5,x,Zv3 hx,h1,by simpa using h2,h3,h4⟩
       ·cases h
      ·cases h
     ·cases h
   ·cases h
  ·cases h
 ·cases h
theorem Zim {v:Lt→Int}{ls l':List Lt}{n:Int}(h:passM v ls n=.ok l'):∃i x,ls[i]?=some x∧x.num=n∧x.passed=false∧v x=1∧l'=ls.set i { x with passed:=true }:=by
 unfold passM at h;split at h
 ·rename_i x hx;split at h
  ·rename_i h1;split at h
   ·cases h
   ·rename_i h2;split at h
    ·cases h
    ·split at h
     ·rename_i h4;cases h;exact⟨_,x,hx,h1,by simpa using h2,h4,rfl⟩
     ·cases h
  ·cases h
 ·cases h
theorem ZkH {F:Nat}{rs l':List Qn.Rq}{a r o:Int}(h:runM F rs a r o=.ok l'):l'=rs++[newR a r o]∧(1≤a∧a≤40∧0≤r∧r≤40∧1≤o∧o≤3)∧rs.length<6∧earlE F (ZaV (rs++[newR a r o]))=0:=by
 unfold runM at h;split at h
 ·rename_i h0;split at h
  ·rename_i h1;split at h
   ·rename_i h2;cases h;simp only[Zv2,decide_eq_true_eq]at h0;exact⟨rfl,⟨h0.1.1,h0.1.2,h0.2.1.1,h0.2.1.2,h0.2.2.1,h0.2.2.2⟩,h1,h2⟩
   ·cases h
  ·cases h
 ·cases h
theorem Zn1 {ls:List Lt}{i:Nat}{x:Lt}(h:ls[i]?=some x):(ls.set i { x with passed:=true }).map Lt.num=ls.map Lt.num:=by
 rw[List.map_set];apply List.ext_getElem?;intro j;rw[List.getElem?_set];split
 ·rename_i e;subst e;obtain⟨hl,hx⟩:=Zv1.1 h;rw[Zv6,if_pos hl,Zv0,h];rfl
 ·rfl
theorem WkI.step {F:Nat}{k:Nat}{st w:Wk}{g:FuncId}{nums:List Int}(h:WkI k st)(hw:doW F st g nums=.ok w):WkI (k+1) w:=by
 have h':=h.mono (Nat.le_succ k);unfold doW at hw;split at hw
 ·split at hw
  ·obtain⟨l,h1,rfl⟩:=Za3 hw;obtain⟨rfl,h2,_,_⟩:=Zmz h1;exact⟨by rw[Zv7];exact Nat.succ_le_succ h.c,h'.b,h'.l,h'.t,h'.r,h2,h.bs,fun n hn=>by
    obtain⟨y,hy,e⟩:=h.bn n hn;exact⟨y,List.mem_append_left _ hy,e⟩,h.s,h.lt,h.tt,h.on,h.r6⟩
  ·cases hw
 split at hw
 ·split at hw
  ·obtain⟨l,h1,rfl⟩:=Za3 hw;obtain⟨h2,h3,rfl⟩:=ZpU h1;exact⟨h'.c,by rw[ZcN Zhz];exact Nat.succ_le_succ h.b,h'.l,h'.t,h'.r,h.bk,Zeo h.bs h3,fun n hn=>by
    rcases Zdl.1 hn with rfl|hn
    ·exact h2
    ·exact h.bn n hn,h.s,h.lt,h.tt,h.on,h.r6⟩
  ·cases hw
 split at hw
 ·split at hw
  ·obtain⟨l,h1,rfl⟩:=Za3 hw;obtain⟨h2,h3,rfl⟩:=ZoP h1;have hle:∀x,lowB (st.lots.map Lt.num) x≤(st.lots.map Lt.num).length:=fun x=>Zhz
   simp only[Zv6]at hle;refine⟨h'.c,h'.b,by rw[ZcN (hle _)];exact Nat.succ_le_succ h.l,h'.t,h'.r,h.bk,h.bs,h.bn,?_,fun x hx=>?_,fun t ht=>?_,h.on,h.r6⟩
   ·rw[ZiN];exact Zeo h.s h3
   ·rcases Zdl.1 hx with rfl|hx
    ·exact h2
    ·exact h.lt x hx
   ·obtain⟨a1,a2,a3,a4,a5,a6,y,hy,e⟩:=h.tt t ht;exact⟨a1,a2,a3,a4,a5,a6,y,Zdl.2 (.inr hy),e⟩
  ·cases hw
 split at hw
 ·split at hw
  ·obtain⟨l,h1,rfl⟩:=Za3 hw;obtain⟨rfl,h2,_,x,hx,h3,_⟩:=Zh6 h1;refine⟨h'.c,h'.b,h'.l,by rw[Zv7];exact Nat.succ_le_succ h.t,h'.r,h.bk,h.bs,h.bn,h.s,h.lt,fun t ht=>?_,h.on,h.r6⟩;rcases Zwv.1 ht with ht|ht
   ·exact h.tt t ht
   ·rw[Zwo]at ht;subst ht;obtain⟨a1,a2,a3,a4,a5,a6⟩:=h2;exact⟨a1,a2,a3,a4,a5,a6,x,hx,h3⟩
  ·cases hw
 split at hw
 ·split at hw
  ·obtain⟨l,h1,rfl⟩:=Za3 hw;obtain⟨i,x,hx,h2,h3,_,rfl⟩:=Zim h1;have hm:∀y∈st.lots.set i { x with passed:=true },∃z∈st.lots,y.num=z.num∧y.pieces=z.pieces∧y.limit=z.limit:=fun y hy=>by
    rcases List.mem_or_eq_of_mem_set hy with hy|rfl
    ·exact⟨y,hy,rfl,rfl,rfl⟩
    ·exact⟨x,Zv3 hx,rfl,rfl,rfl⟩
   refine⟨h'.c,h'.b,by rw[List.length_set];exact h'.l,h'.t,h'.r,h.bk,h.bs,h.bn,?_,fun y hy=>?_,fun t ht=>?_,h.on,h.r6⟩
   ·rw[Zn1 hx];exact h.s
   ·obtain⟨z,hz,e1,e2,e3⟩:=hm y hy
    have:=h.lt z hz
    unfold ltOk at *;rw[e1,e2,e3];exact this
   ·obtain⟨a1,a2,a3,a4,a5,a6,y,hy,e⟩:=h.tt t ht;refine⟨a1,a2,a3,a4,a5,a6,?_⟩
    have:y.num∈(st.lots.set i { x with passed:=true }).map Lt.num:=by rw[Zn1 hx];exact List.mem_map_of_mem hy
    obtain⟨z,hz,e'⟩:=Zwc.1 this;exact⟨z,hz,by rw[e',e]⟩
  ·cases hw
 ·split at hw
  ·obtain⟨l,h1,rfl⟩:=Za3 hw;obtain⟨rfl,h2,h3,_⟩:=ZkH h1;refine⟨h'.c,h'.b,h'.l,h'.t,by rw[Zv7];exact Nat.succ_le_succ h.r,h.bk,h.bs,h.bn,h.s,h.lt,h.tt,fun r hr=>?_,by rw[Zv7];exact h3⟩;rcases Zwv.1 hr with hr|hr
   ·exact h.on r hr
   ·rw[Zwo]at hr;subst hr;exact⟨_,_,_,rfl,h2⟩
  ·cases hw
theorem WkI.next {F:Nat}{k:Nat}{st:Wk}(h:WkI k st)(s:ByteArray):WkI (k+1) (doB F st s).1:=by
 unfold doB lineM;cases hp:Zay s with
 |none=>exact h.mono (Nat.le_succ k)
 |some q=>
  obtain⟨g,nums⟩:=q;dsimp only;cases hd:doW F st g nums with
  |error e=>exact h.mono (Nat.le_succ k)
  |ok w=>exact h.step hd
end
end
section
open Go.RowKit Go.Shelf
theorem Zb8 {P:Program}(w:World)(dT sT ty elem:TypeId){k:Nat}(g q dl dc sl sc:Nat)(a:Addr)(cs:Array Value)(T:TypeId)(ds:List Value)(hu:P.underlying dT=some (.slice elem))(hs:sizeT P elem=some k)
  (hg:w.heap[g]?=some (.cells cs T (0,0))) (hl:ds.length=Nat.min sl dl*k) (hsrc:∀j v,ds[j]?=some v→w.cell? (a.add j)=some v) (hfit:q+ds.length≤cs.size) (h1:∀v∈ds,v.oneCell'=true):
  (Builtin.copy_ #[dT,sT] ty #[.slice (some ⟨g,q,none⟩) dl dc,.slice (some a) sl sc]).run P w=.ok (goInt (Nat.min sl dl)) (w.setRow g (splice cs.toList q ds).toArray):=by
 have hld:=run_loadCells_list (P:=P) w a ds hsrc;have hst:=run_storeCells_at P g q T ds 0 cs w hg (by simpa using hfit) h1;simp only[Nat.add_zero]at hst;simp[Builtin.copy_,run_underlying hu,Builtin.lenOf,Builtin.firstCells,Go.Proofs.YtfpmaennjlggeaaGreatDoor.run_sizeOf hs,←hl,hld,hst,splice]
def Zbv (TE:TypeId)(k b n:Nat)(els:List Value)(w:World)(e:Ending)(w':World):Prop:=
 ∃b' o' c' cs',e=.returned (.slice (some ⟨b',o',none⟩) (n+1) c')∧w'.heap[b']?=some (.cells cs' TE (0,0))∧(∀j,j<(n+1)*k→cs'[o'+j]?=els[j]?)∧o'+c'*k≤cs'.size∧n+1≤c'∧c'≤maxLen∧(b'=b∨w.heap.size≤b')∧Keep [b] w w'
theorem nminL {a b:Nat}(h:a≤b):Nat.min a b=a:=Nat.min_eq_left h
theorem nminR {a b:Nat}(h:b≤a):Nat.min a b=b:=Nat.min_eq_right h
theorem Zen (w:World)(bs:List Nat):Keep bs w w.drew:=⟨rfl,rfl,rfl,Zv5 _,fun _ _ _=>rfl⟩
theorem size4:sizeT Tryz.prog 68=some 4:=by kernel_rfl
set_option maxHeartbeats 4000000 in
set_option maxRecDepth 100000 in
theorem ZiL (b o n c vb vo vc:Nat)(cb:Array Value)(olds news:List Value)(w:World)(hb:w.heap[b]?=some (.cells cb 68 (0,0)))(hroom:n+1≤c)(hfit:o+c*4≤cb.size)(hc63:c≤maxLen)
  (hol:olds.length=n*4) (hoc:∀j v,olds[j]?=some v→cb[o+j]?=some v) (hnl:news.length=4) (hnc:∀j v,news[j]?=some v→w.cell? ⟨vb,vo+j,none⟩=some v) (h1:∀v∈news,v.oneCell'=true):
  Calls Tryz.prog 221 #[.slice (some ⟨b,o,none⟩) n c,.int .i64 n,.slice (some ⟨vb,vo,none⟩) 1 vc] w (Zbv 68 4 b n (olds++news) w):=by
 have hc63':c≤9223372036854775807:=by unfold maxLen at hc63;omega
 obtain⟨i,z,hi,hz,hsz,hby,hzs⟩:∃i z,Tryz.prog.info? 68=some i∧i.zero=some z∧i.size=4∧i.bytes=32∧z.cells.size=4:=⟨_,_,rfl,rfl,rfl,rfl,rfl⟩;have hf:(Builtin.firstCells i.size 1 (.slice (some ⟨vb,vo,none⟩) 1 vc)).run Tryz.prog w=.ok news.toArray w:=by
  rw[hsz];exact run_firstCells_some (P:=Tryz.prog) w 4 1 ⟨vb,vo,none⟩ 1 vc news (by omega) (fun j u hj=>by rw[Addr.add_lit];exact hnc j u hj)
 have hrun:∀ty,(Builtin.append_ #[27,27] ty #[.slice (some ⟨b,o,none⟩) n c,.slice (some ⟨vb,vo,none⟩) 1 vc]).run Tryz.prog w=_:=fun ty=>
  ZdU (P:=Tryz.prog) (w:=w) (ty:=ty) Tryz.underlying27 hi b o n c cb hb (some ⟨vb,vo,none⟩) 1 vc news hf h1 hroom (by rw[hsz];omega)
 have hcl:cb.toList.length=cb.size:=Zwt;have fin:Zbv 68 4 b n (olds++news) w (.returned (.slice (some ⟨b,o,none⟩) (n+1) c)) (w.setRow b (splice cb.toList (o+n*4) news).toArray):=by
  refine⟨b,o,c,_,rfl,setRow_heap w b cb _ _ _ hb,fun j hj=>?_,?_,hroom,hc63,.inl rfl,Keep.setRow w _ _⟩
  ·rw[ZwH,Zap (by omega),ZwF,ZwO];split
   ·rename_i h;rw[if_pos (by omega)];have hv:=ZvZ (show j<olds.length by omega);rw[hv];exact hoc j _ hv
   ·rename_i h;rw[if_pos (by omega),if_neg (by omega)];congr 1;omega
  ·rw[Zwy,Zav (by omega),hcl];exact hfit
 rw[hsz]at hrun;clear hf hoc hnc hcl;go_enter Tryz.func221,Tryz.ntmps221;go_wp2_with (at_builtin;refine Lib.wpList_append_run _ rfl _ _ _ _ rfl _ _ rfl rfl _ _ (hrun _) ?_)
 all_goals (go_ret;first|exact fin|(simp only[splice,ZwQ,hnl]at fin;exact fin)|(simp[splice,hnl]at fin;exact fin))
set_option maxHeartbeats 4000000 in
set_option maxRecDepth 100000 in
theorem ZeS (b:Nat)(base:Option Addr)(n c vb vo vc:Nat)(olds news:List Value)(w:World)(hroom:c<n+1)(hn:n≤1000000)(hnil:base=none→n=0∧c=0)(hcc:n≤c)
  (hol:olds.length=n*4) (hoc:∀j v,olds[j]?=some v→∃A,base=some A∧w.cell? (A.add j)=some v) (hnl:news.length=4) (hnc:∀j v,news[j]?=some v→w.cell? ⟨vb,vo+j,none⟩=some v):
  Calls Tryz.prog 221 #[.slice base n c,.int .i64 n,.slice (some ⟨vb,vo,none⟩) 1 vc] w (Zbv 68 4 b n (olds++news) w):=by
 obtain⟨i,z,hi,hz,hsz,hby,hzs⟩:∃i z,Tryz.prog.info? 68=some i∧i.zero=some z∧i.size=4∧i.bytes=32∧z.cells.size=4:=⟨_,_,rfl,rfl,rfl,rfl,rfl⟩;have hf:∀w',(∀A,w'.cell? A=w.cell? A)→(Builtin.firstCells i.size 1 (.slice (some ⟨vb,vo,none⟩) 1 vc)).run Tryz.prog w'=.ok news.toArray w':=fun w' hw=>by
  rw[hsz];exact run_firstCells_some (P:=Tryz.prog) w' 4 1 ⟨vb,vo,none⟩ 1 vc news (by omega) (fun j u hj=>by rw[Addr.add_lit,hw];exact hnc j u hj)
 have ho:∀w',(∀A,w'.cell? A=w.cell? A)→(Builtin.firstCells i.size n (.slice base n c)).run Tryz.prog w'=.ok olds.toArray w':=fun w' hw=>by
  rw[hsz];cases base with
  |none=>
   obtain⟨rfl,rfl⟩:=hnil rfl;rw[List.length_eq_zero_iff.1 hol];exact run_firstCells_none w' 4 0 0 0
  |some a=>exact run_firstCells_some (P:=Tryz.prog) w' 4 n a n c olds hol (fun j u hj=>by
    obtain⟨A,e,h⟩:=hoc j u hj;cases e;rw[hw];exact h)
 have hrun:∀ty,(Builtin.append_ #[27,27] ty #[.slice base n c,.slice (some ⟨vb,vo,none⟩) 1 vc]).run Tryz.prog w=_:=fun ty=>
  Zfi (P:=Tryz.prog) (w:=w) (ty:=ty) Tryz.underlying27 hi hz base n c (some ⟨vb,vo,none⟩) 1 vc olds news ho hf (by omega) (by omega) (growslice_fits (by omega) (by rw[hby];omega))
 clear hf ho;have hge:=grownCap_ge w (n+1) c 68;have hle:=grownCap_le_maxLen w (n+1) c 68 (by unfold maxLen;omega);have fin:Zbv 68 4 b n (olds++news) w (.returned (.slice (some ⟨w.heap.size,0,none⟩) (n+1) (grownCap w (n+1) c 68))) (w.drew.alloc (.cells ((olds++news).toArray++Builtin.zeroCells z.cells (grownCap w (n+1) c 68-(n+1))) 68)):=by
  refine⟨w.heap.size,0,_,_,rfl,heap_alloc_new w.drew _,fun j hj=>?_,?_,hge,hle,.inr (Zv5 _),(Zen w _).trans (Keep.of_ext (Ext.al _ _) _)⟩
  ·rw[ZwC,Array.getElem?_append_left (by rw[Zwy,Zv7];omega),ZwH]
  ·rw[Array.size_append,Zwy,Zv7,size_zeroCells,hzs];omega
 generalize grownCap w (n+1) c 68=G at hrun fin;generalize(olds++news).toArray++Builtin.zeroCells z.cells (G-(n+1))=ROW at hrun fin;clear hz hzs hge hle hol hoc hnc hnl;cases base with
 |none=>
  obtain⟨rfl,rfl⟩:=hnil rfl;go_enter Tryz.func221,Tryz.ntmps221;go_wp2_with (at_builtin;refine Lib.wpList_append_run _ rfl _ _ _ _ rfl _ _ rfl rfl _ _ (hrun _) ?_)
  all_goals (go_ret;exact fin)
 |some a=>
  obtain⟨ab,ao,asp⟩:=a;go_enter Tryz.func221,Tryz.ntmps221;go_wp2_with (at_builtin;refine Lib.wpList_append_run _ rfl _ _ _ _ rfl _ _ rfl rfl _ _ (hrun _) ?_)
  all_goals (go_ret;exact fin)
set_option maxHeartbeats 4000000 in
set_option maxRecDepth 100000 in
theorem Zm7 (b o n c i vb vo vc:Nat)(cb cv:Array Value)(olds news:List Value)(w:World)(hb:w.heap[b]?=some (.cells cb 68 (0,0)))(hv:w.heap[vb]?=some (.cells cv 68 (0,0)))(hvb:vb≠b)(hi:i<n)(hroom:n+1≤c)(hfit:o+c*4≤cb.size)(hc63:c≤maxLen)
  (hol:olds.length=n*4) (hoc:∀j v,olds[j]?=some v→cb[o+j]?=some v) (hnl:news.length=4) (hnc:∀j v,news[j]?=some v→cv[vo+j]?=some v) (h1o:∀v∈olds,v.oneCell'=true) (h1:∀v∈news,v.oneCell'=true):
  Calls Tryz.prog 221 #[.slice (some ⟨b,o,none⟩) n c,.int .i64 i,.slice (some ⟨vb,vo,none⟩) 1 vc] w (Zbv 68 4 b n (olds.take (i*4)++news++olds.drop (i*4)) w):=by
 have hc63':c≤9223372036854775807:=by unfold maxLen at hc63;omega
 have hcl:cb.toList.length=cb.size:=Zwt;have hov:∀lb cc,(callFunc 242 #[.slice (some ⟨vb,vo,none⟩) 1 vc,.slice (some ⟨b,o+(i+1)*4,none⟩) lb cc]).run Tryz.prog w=.ok (.value (.bool false)) w:=fun lb cc=>by
  rw[run_callFunc_extern Tryz.func242 (by kernel_rfl) (by kernel_rfl) (by kernel_rfl) (e:=Extern.SlicesOverlaps.overlaps #[27,27] #[4]) (by kernel_rfl),
   Lib.run_overlaps_apart w 27 4 68 Tryz.underlying27 4 (Go.Proofs.YtfpmaennjlggeaaGreatDoor.run_sizeOf size4) ⟨vb,vo,none⟩ ⟨b,o+(i+1)*4,none⟩ 1 vc lb cc hvb 68 68 cv.size cb.size (by simp[World.shape?,hv]) (by simp[World.shape?,hb]) (by omega) (Lib.frozen_of_heap hv vo) (Lib.frozen_of_heap hv cv.size)]
  rfl
 obtain⟨C1,hC1⟩:∃C1,C1=(splice cb.toList (o+(i+1)*4) (olds.drop (i*4))).toArray:=⟨_,rfl⟩;obtain⟨C2,hC2⟩:∃C2,C2=(splice C1.toList (o+i*4) news).toArray:=⟨_,rfl⟩;have hdl:(olds.drop (i*4)).length=(n-i)*4:=by rw[ZwB,hol];omega
 have hC1l:C1.toList.length=cb.size:=by rw[hC1];show(splice _ _ _).length=_;rw[Zav (by omega),hcl]
 have hC2l:C2.size=cb.size:=by rw[hC2,Zwy,Zav (by omega),hC1l]
 have hcp1:∀ty q q' dl dc sl sc,q=o+(i+1)*4→q'=o+i*4→dl=n+1-(i+1)→sl=n+1-i→(Builtin.copy_ #[27,27] ty #[.slice (some ⟨b,q,none⟩) dl dc,.slice (some ⟨b,q',none⟩) sl sc]).run Tryz.prog w.drew=.ok (goInt ((n-i:Nat):Int)) (w.drew.setRow b C1):=fun ty q q' dl dc sl sc e1 e2 e3 e4=>by
  subst e1 e2 e3 e4;have h:=Zb8 (P:=Tryz.prog) (ty:=ty) w.drew 27 27 68 b (o+(i+1)*4) (n+1-(i+1)) dc (n+1-i) sc ⟨b,o+i*4,none⟩ cb 68 (olds.drop (i*4)) Tryz.underlying27 size4 hb
   (by rw[hdl,nminR (by omega)];congr 1;omega) (fun j v hj=>by
    rw[Addr.add_lit];rw[Zwj]at hj
    have:=hoc _ v hj
    rw[←Nat.add_assoc]at this;exact(cell_of_row w.drew b _ cb _ _ hb).trans this) (by omega) (fun v hv=>h1o v (List.mem_of_mem_drop hv))
  rw[nminR (by omega),show n+1-(i+1)=n-i by omega,←hC1]at h;rw[show n+1-(i+1)=n-i by omega];exact h
 have hh1:(w.drew.setRow b C1).heap[b]?=some (.cells C1 68 (0,0)):=setRow_heap w.drew b cb _ _ _ hb;have hcp2:∀ty q dl dc,q=o+i*4→dl=n+1-i→(Builtin.copy_ #[27,27] ty #[.slice (some ⟨b,q,none⟩) dl dc,.slice (some ⟨vb,vo,none⟩) 1 vc]).run Tryz.prog (w.drew.setRow b C1)=.ok (goInt 1) ((w.drew.setRow b C1).setRow b C2):=fun ty q dl dc e1 e2=>by
  subst e1 e2;have h:=Zb8 (P:=Tryz.prog) (ty:=ty) (w.drew.setRow b C1) 27 27 68 b (o+i*4) (n+1-i) dc 1 vc ⟨vb,vo,none⟩ C1 68 news Tryz.underlying27 size4 hh1
   (by rw[hnl,nminL (by omega)]) (fun j v hj=>by
    rw[Addr.add_lit,cell_setRow_other _ _ _ _ hvb];exact(cell_of_row w.drew vb _ cv _ _ hv).trans (hnc j v hj)) (by rw[←Zwt,hC1l];omega) h1
  rw[nminL (by omega),←hC2]at h;exact h
 have fin:Zbv 68 4 b n (olds.take (i*4)++news++olds.drop (i*4)) w (.returned (.slice (some ⟨b,o,none⟩) (n+1) c)) ((w.drew.setRow b C1).setRow b C2):=by
  refine⟨b,o,c,C2,rfl,setRow_heap _ b C1 _ _ _ hh1,fun j hj=>?_,by omega,hroom,hc63,.inl rfl,((Zen w _).trans (Keep.setRow _ _ _)).trans (Keep.setRow _ _ _)⟩;have htl:(olds.take (i*4)).length=i*4:=by rw[Zv8];omega
  rw[hC2,ZwH,Zap (by omega),hC1,ZwQ,ZwF,ZwF,htl];by_cases q1:j<i*4
  ·rw[if_pos (by omega),if_pos q1,List.toList_toArray,Zap (by omega),if_pos (by omega),ZwO,Zwi,if_pos q1];have hv:=ZvZ (show j<olds.length by omega);rw[hv];exact hoc j _ hv
  by_cases q2:j<(i+1)*4
  ·rw[if_neg (by omega),if_pos (by omega),if_neg q1,if_pos (by omega)];congr 1;omega
  ·rw[if_neg (by omega),if_neg (by omega),if_neg q1,if_neg (by omega),List.toList_toArray,Zap (by omega),if_neg (by omega),if_pos (by omega)];congr 1;omega
 generalize(w.drew.setRow b C1).setRow b C2=W2 at hcp2 fin;generalize w.drew.setRow b C1=W1 at hcp1 hcp2;have hz2:¬((i:Int)=(n:Int)):=by omega
 have mixed:Tryz.prog.follows .mixedOrders=true:=by kernel_rfl
 have hw1:IntKind.i64.wrap ((i:Int)+1)=(i:Int)+1:=by rw[IntKind.wrap_i64];omega
 have hb1:(0:Int)≤(i:Int)+1:=by omega
 have hin:i≤n:=by omega
 have htn:((i:Int)+1).toNat=i+1:=by omega
 have hb2:¬(c=i+1):=by omega
 have hb3:(i:Int)≤(n:Int)+1:=by omega
 have hb4:¬(c=i):=by omega
 clear hC1 hC2 hC1l hC2l hdl hoc hnc hh1 hcl;go_enter Tryz.func221,Tryz.ntmps221;go_wp2_with (simp only[hov]);go_region_law_o (refine step_copy_runI rfl _ _ 27 27 rfl _ _ (by simp[Act.eval,Act.put]) (by simp[Act.eval,Act.put]) (hcp1 _ _ _ _ _ _ _ (by omega) (by omega) (by omega) (by omega)) ?_);go_wp2_with (at_builtin;refine wpList_copy_runI _ rfl _ _ 27 27 rfl _ _ rfl rfl (hcp2 _ _ _ _ (by omega) (by omega)) ?_)
 all_goals (go_ret;exact fin)
set_option maxHeartbeats 4000000 in
set_option maxRecDepth 100000 in
theorem Zo1 (b o n c i vb vo vc:Nat)(cb cv:Array Value)(olds news:List Value)(w:World)(hb:w.heap[b]?=some (.cells cb 68 (0,0)))(hv:w.heap[vb]?=some (.cells cv 68 (0,0)))(hi:i<n)(hroom:c<n+1)(hcc:n≤c)(hn:n≤1000000)
  (hol:olds.length=n*4) (hoc:∀j v,olds[j]?=some v→cb[o+j]?=some v) (hnl:news.length=4) (hnc:∀j v,news[j]?=some v→cv[vo+j]?=some v) (h1o:∀v∈olds,v.oneCell'=true) (h1:∀v∈news,v.oneCell'=true):
  Calls Tryz.prog 221 #[.slice (some ⟨b,o,none⟩) n c,.int .i64 i,.slice (some ⟨vb,vo,none⟩) 1 vc] w (Zbv 68 4 b n (olds.take (i*4)++news++olds.drop (i*4)) w):=by
 obtain⟨ti,z,hti,hz,hsz,hby,hzs⟩:∃i z,Tryz.prog.info? 68=some i∧i.zero=some z∧i.size=4∧i.bytes=32∧z.cells.size=4:=⟨_,_,rfl,rfl,rfl,rfl,rfl⟩;have hbw:b<w.heap.size:=(Zwr.1 hb).1;have hvw:vb<w.heap.size:=(Zwr.1 hv).1;have htl:(olds.take (i*4)).length=i*4:=by rw[Zv8];omega
 have hdl:(olds.drop (i*4)).length=(n-i)*4:=by rw[ZwB,hol];omega
 have hold:(Builtin.firstCells ti.size i (.slice (some ⟨b,o,none⟩) i c)).run Tryz.prog w.drew=.ok (olds.take (i*4)).toArray w.drew:=by
  rw[hsz];exact run_firstCells_some (P:=Tryz.prog) w.drew 4 i ⟨b,o,none⟩ i c (olds.take (i*4)) htl (fun j u hj=>by
   rw[Addr.add_lit];rw[Zwi]at hj;split at hj
   ·exact(cell_of_row w.drew b _ cb _ _ hb).trans (hoc j u hj)
   ·cases hj)
 have hrz:∀ty (k:Int),k=((n+1-i:Nat):Int)→(Builtin.append_ #[27,3] ty #[.slice (some ⟨b,o,none⟩) i c,.int .i64 k]).run Tryz.prog w =
   .ok (.slice (some ⟨w.heap.size,0,none⟩) (n+1) (grownCap w (n+1) c 68)) (w.drew.alloc (.cells ((olds.take (i*4)).toArray++Builtin.zeroCells z.cells (n+1-i)++Builtin.zeroCells z.cells (grownCap w (n+1) c 68-(n+1))) 68)):=fun ty k hk=>by
  subst hk;have h:=Lib.run_append_grow_zeros w 27 3 ty 68 ti z .i64 .i64 Tryz.underlying27 Tryz.underlying3 hti hz (some ⟨b,o,none⟩) i c (olds.take (i*4)) hold (n+1-i) (by omega) (by omega) (by omega) (by omega) (by rw[hby];omega) (growslice_fits (by omega) (by rw[hby];omega));rw[show i+(n+1-i)=n+1 by omega]at h;exact h
 have hge:=grownCap_ge w (n+1) c 68;have hle:=grownCap_le_maxLen w (n+1) c 68 (by unfold maxLen;omega);generalize grownCap w (n+1) c 68=G at hrz hge hle;obtain⟨ROW,hROW⟩:∃ROW:Array Value,ROW=(olds.take (i*4)).toArray++Builtin.zeroCells z.cells (n+1-i)++Builtin.zeroCells z.cells (G-(n+1)):=⟨_,rfl⟩;rw[←hROW]at hrz;have hRl:ROW.size=G*4:=by
  rw[hROW,Array.size_append,Array.size_append,Zwy,size_zeroCells,size_zeroCells,hzs,htl];omega
 have hRt:∀j,j<i*4→ROW[j]?=olds[j]?:=fun j hj=>by
  rw[hROW,Array.append_assoc,Array.getElem?_append_left (by rw[Zwy];omega),ZwH,Zwi,if_pos hj]
 clear hROW hold;obtain⟨C2,hC2⟩:∃C2,C2=(splice ROW.toList (i*4) news).toArray:=⟨_,rfl⟩;obtain⟨C3,hC3⟩:∃C3,C3=(splice C2.toList ((i+1)*4) (olds.drop (i*4))).toArray:=⟨_,rfl⟩;have hRL:ROW.toList.length=G*4:=by rw[Zwt];exact hRl
 have hC2l:C2.toList.length=G*4:=by rw[hC2];show(splice _ _ _).length=_;rw[Zav (by omega),hRL]
 have hC3l:C3.size=G*4:=by rw[hC3,Zwy,Zav (by omega),hC2l]
 have hh1:(w.drew.alloc (.cells ROW 68)).heap[w.heap.size]?=some (.cells ROW 68 (0,0)):=heap_alloc_new w.drew _;have hh2:((w.drew.alloc (.cells ROW 68)).setRow w.heap.size C2).heap[w.heap.size]?=some (.cells C2 68 (0,0)):=setRow_heap _ _ ROW _ _ _ hh1;have hcpA:∀(W:World),W.heap=(w.drew.alloc (.cells ROW 68)).heap→∀ty q dl dc,q=i*4→dl=n+1-i→(Builtin.copy_ #[27,27] ty #[.slice (some ⟨w.heap.size,q,none⟩) dl dc,.slice (some ⟨vb,vo,none⟩) 1 vc]).run Tryz.prog W=.ok (goInt 1) (W.setRow w.heap.size C2):=fun W hW ty q dl dc e1 e2=>by
  subst e1 e2;have hv':W.heap[vb]?=some (.cells cv 68 (0,0)):=by rw[hW,heap_alloc_old w.drew _ hvw];exact hv
  have h:=Zb8 (P:=Tryz.prog) (ty:=ty) W 27 27 68 w.heap.size (i*4) (n+1-i) dc 1 vc ⟨vb,vo,none⟩ ROW 68 news Tryz.underlying27 size4 (by rw[hW];exact hh1)
   (by rw[hnl,nminL (by omega)]) (fun j v hj=>by
    rw[Addr.add_lit];exact(cell_of_row W vb _ cv _ _ hv').trans (hnc j v hj)) (by omega) h1
  rw[nminL (by omega),←hC2]at h;exact h
 have hcpB:∀(W:World),W.heap=((w.drew.alloc (.cells ROW 68)).setRow w.heap.size C2).heap→∀ty q q' dl dc sl sc,q=(i+1)*4→q'=o+i*4→dl=n+1-(i+1)→sl=n-i→(Builtin.copy_ #[27,27] ty #[.slice (some ⟨w.heap.size,q,none⟩) dl dc,.slice (some ⟨b,q',none⟩) sl sc]).run Tryz.prog W=.ok (goInt ((n-i:Nat):Int)) (W.setRow w.heap.size C3):=fun W hW ty q q' dl dc sl sc e1 e2 e3 e4=>by
  subst e1 e2 e3 e4;have hb':W.heap[b]?=some (.cells cb 68 (0,0)):=by rw[hW,setRow_other _ _ _ _ (by omega),heap_alloc_old w.drew _ hbw];exact hb
  have h:=Zb8 (P:=Tryz.prog) (ty:=ty) W 27 27 68 w.heap.size ((i+1)*4) (n+1-(i+1)) dc (n-i) sc ⟨b,o+i*4,none⟩ C2 68 (olds.drop (i*4)) Tryz.underlying27 size4 (by rw[hW];exact hh2)
   (by rw[hdl,nminL (by omega)]) (fun j v hj=>by
    rw[Addr.add_lit];rw[Zwj]at hj
    have:=hoc _ v hj
    rw[←Nat.add_assoc]at this;exact(cell_of_row W b _ cb _ _ hb').trans this) (by rw[←Zwt,hC2l];omega) (fun v hv=>h1o v (List.mem_of_mem_drop hv))
  rw[nminL (by omega),←hC3]at h;exact h
 have fin:∀W:World,W=(((w.drew.alloc (.cells ROW 68)).setRow w.heap.size C2).drew).setRow w.heap.size C3→Zbv 68 4 b n (olds.take (i*4)++news++olds.drop (i*4)) w (.returned (.slice (some ⟨w.heap.size,0,none⟩) (n+1) G)) W:=fun W hW=>by
  subst hW;refine⟨w.heap.size,0,G,C3,rfl,setRow_heap _ _ C2 _ _ _ hh2,fun j hj=>?_,by omega,hge,hle,.inr (Zv5 _),?_⟩
  ·rw[ZwC,hC3,ZwH,Zap (by omega),hC2,ZwQ,ZwF,ZwF,htl];by_cases q1:j<i*4
   ·rw[if_pos (by omega),if_pos q1,List.toList_toArray,Zap (by omega),if_pos (by omega),ZwO,Zwi,if_pos q1];exact hRt j q1
   by_cases q2:j<(i+1)*4
   ·rw[if_pos (by omega),if_neg q1,if_pos (by omega),List.toList_toArray,Zap (by omega),if_neg (by omega),if_pos (by omega)]
   ·rw[if_neg (by omega),if_pos (by omega),if_neg q1,if_neg (by omega)];congr 1;omega
  ·refine⟨rfl,rfl,rfl,by simp,fun k hk _=>?_⟩;rw[setRow_other _ _ _ _ (by omega)];show((w.drew.alloc (.cells ROW 68)).setRow w.heap.size C2).heap[k]?=_;rw[setRow_other _ _ _ _ (by omega),heap_alloc_old w.drew _ hk];rfl
 have mixed:Tryz.prog.follows .mixedOrders=true:=by kernel_rfl
 have hz1:(c:Int)<(n:Int)+1:=by omega
 have hz2:¬((i:Int)=(n:Int)):=by omega
 have hw1:IntKind.i64.wrap ((i:Int)+1)=(i:Int)+1:=by rw[IntKind.wrap_i64];omega
 have hb1:(0:Int)≤(i:Int)+1:=by omega
 have hin:i≤n:=by omega
 have htn:((i:Int)+1).toNat=i+1:=by omega
 have hGi:¬(G=i):=by omega
 have hGim:¬(G=i+1):=by omega
 have hci:¬(c=i):=by omega
 have hG63:G≤9223372036854775807:=by unfold maxLen at hle;omega
 have hb3:(i:Int)≤(n:Int):=by omega
 clear hC2 hC3 hC2l hC3l hRL hRl hRt hdl htl hh1 hh2 hoc hnc hti hz hzs;go_enter Tryz.func221,Tryz.ntmps221;go_wp2_with (at_builtin;refine Lib.wpList_append_run _ rfl _ _ _ _ rfl _ _ rfl rfl _ _ (hrz _ _ (by omega)) ?_);rw[hcpA ((w.alloc (.cells ROW 68)).drew) rfl _ _ _ _ rfl rfl];simp only[Result.andThen];rw[Oper.upon_value];go_wp2;go_region_law_o (refine step_copy_runI rfl _ _ 27 27 rfl (.slice (some ⟨w.heap.size,(i+1)*4,none⟩) (n+1-(i+1)) (G-(i+1))) (.slice (some ⟨b,o+i*4,none⟩) (n-i) (c-i)) (by simp[Act.eval,Act.put]) (by simp[Act.eval,Act.put]) (hcpB _ (by rfl) 3 _ _ _ (G-(i+1)) _ (c-i) rfl rfl rfl rfl) ?_);go_wp2
 all_goals (go_ret;exact fin _ rfl)
theorem size1:sizeT Tryz.prog 3=some 1:=by kernel_rfl
set_option maxHeartbeats 4000000 in
set_option maxRecDepth 100000 in
theorem ZiM (b o n c vb vo vc:Nat)(cb:Array Value)(olds news:List Value)(w:World)(hb:w.heap[b]?=some (.cells cb 3 (0,0)))(hroom:n+1≤c)(hfit:o+c*1≤cb.size)(hc63:c≤maxLen)
  (hol:olds.length=n*1) (hoc:∀j v,olds[j]?=some v→cb[o+j]?=some v) (hnl:news.length=1) (hnc:∀j v,news[j]?=some v→w.cell? ⟨vb,vo+j,none⟩=some v) (h1:∀v∈news,v.oneCell'=true):
  Calls Tryz.prog 218 #[.slice (some ⟨b,o,none⟩) n c,.int .i64 n,.slice (some ⟨vb,vo,none⟩) 1 vc] w (Zbv 3 1 b n (olds++news) w):=by
 have hc63':c≤9223372036854775807:=by unfold maxLen at hc63;omega
 obtain⟨i,z,hi,hz,hsz,hby,hzs⟩:∃i z,Tryz.prog.info? 3=some i∧i.zero=some z∧i.size=1∧i.bytes=8∧z.cells.size=1:=⟨_,_,rfl,rfl,rfl,rfl,rfl⟩;have hf:(Builtin.firstCells i.size 1 (.slice (some ⟨vb,vo,none⟩) 1 vc)).run Tryz.prog w=.ok news.toArray w:=by
  rw[hsz];exact run_firstCells_some (P:=Tryz.prog) w 1 1 ⟨vb,vo,none⟩ 1 vc news (by omega) (fun j u hj=>by rw[Addr.add_lit];exact hnc j u hj)
 have hrun:∀ty,(Builtin.append_ #[26,26] ty #[.slice (some ⟨b,o,none⟩) n c,.slice (some ⟨vb,vo,none⟩) 1 vc]).run Tryz.prog w=_:=fun ty=>
  ZdU (P:=Tryz.prog) (w:=w) (ty:=ty) Tryz.underlying26 hi b o n c cb hb (some ⟨vb,vo,none⟩) 1 vc news hf h1 hroom (by rw[hsz];omega)
 have hcl:cb.toList.length=cb.size:=Zwt;have fin:Zbv 3 1 b n (olds++news) w (.returned (.slice (some ⟨b,o,none⟩) (n+1) c)) (w.setRow b (splice cb.toList (o+n*1) news).toArray):=by
  refine⟨b,o,c,_,rfl,setRow_heap w b cb _ _ _ hb,fun j hj=>?_,?_,hroom,hc63,.inl rfl,Keep.setRow w _ _⟩
  ·rw[ZwH,Zap (by omega),ZwF,ZwO];split
   ·rename_i h;rw[if_pos (by omega)];have hv:=ZvZ (show j<olds.length by omega);rw[hv];exact hoc j _ hv
   ·rename_i h;rw[if_pos (by omega),if_neg (by omega)];congr 1;omega
  ·rw[Zwy,Zav (by omega),hcl];exact hfit
 rw[hsz]at hrun;simp only[Nat.mul_one]at hrun fin;clear hf hoc hnc hcl;go_enter Tryz.func218,Tryz.ntmps218;go_wp2_with (at_builtin;refine Lib.wpList_append_run _ rfl _ _ _ _ rfl _ _ rfl rfl _ _ (hrun _) ?_)
 all_goals (go_ret;first|exact fin|(simp only[splice,ZwQ,hnl]at fin;exact fin)|(simp[splice,hnl]at fin;exact fin))
set_option maxHeartbeats 4000000 in
set_option maxRecDepth 100000 in
theorem ZeT (b:Nat)(base:Option Addr)(n c vb vo vc:Nat)(olds news:List Value)(w:World)(hroom:c<n+1)(hn:n≤1000000)(hnil:base=none→n=0∧c=0)(hcc:n≤c)
  (hol:olds.length=n*1) (hoc:∀j v,olds[j]?=some v→∃A,base=some A∧w.cell? (A.add j)=some v) (hnl:news.length=1) (hnc:∀j v,news[j]?=some v→w.cell? ⟨vb,vo+j,none⟩=some v):
  Calls Tryz.prog 218 #[.slice base n c,.int .i64 n,.slice (some ⟨vb,vo,none⟩) 1 vc] w (Zbv 3 1 b n (olds++news) w):=by
 obtain⟨i,z,hi,hz,hsz,hby,hzs⟩:∃i z,Tryz.prog.info? 3=some i∧i.zero=some z∧i.size=1∧i.bytes=8∧z.cells.size=1:=⟨_,_,rfl,rfl,rfl,rfl,rfl⟩;have hf:∀w',(∀A,w'.cell? A=w.cell? A)→(Builtin.firstCells i.size 1 (.slice (some ⟨vb,vo,none⟩) 1 vc)).run Tryz.prog w'=.ok news.toArray w':=fun w' hw=>by
  rw[hsz];exact run_firstCells_some (P:=Tryz.prog) w' 1 1 ⟨vb,vo,none⟩ 1 vc news (by omega) (fun j u hj=>by rw[Addr.add_lit,hw];exact hnc j u hj)
 have ho:∀w',(∀A,w'.cell? A=w.cell? A)→(Builtin.firstCells i.size n (.slice base n c)).run Tryz.prog w'=.ok olds.toArray w':=fun w' hw=>by
  rw[hsz];cases base with
  |none=>
   obtain⟨rfl,rfl⟩:=hnil rfl;rw[List.length_eq_zero_iff.1 hol];exact run_firstCells_none w' 1 0 0 0
  |some a=>exact run_firstCells_some (P:=Tryz.prog) w' 1 n a n c olds hol (fun j u hj=>by
    obtain⟨A,e,h⟩:=hoc j u hj;cases e;rw[hw];exact h)
 have hrun:∀ty,(Builtin.append_ #[26,26] ty #[.slice base n c,.slice (some ⟨vb,vo,none⟩) 1 vc]).run Tryz.prog w=_:=fun ty=>
  Zfi (P:=Tryz.prog) (w:=w) (ty:=ty) Tryz.underlying26 hi hz base n c (some ⟨vb,vo,none⟩) 1 vc olds news ho hf (by omega) (by omega) (growslice_fits (by omega) (by rw[hby];omega))
 clear hf ho;have hge:=grownCap_ge w (n+1) c 3;have hle:=grownCap_le_maxLen w (n+1) c 3 (by unfold maxLen;omega);have fin:Zbv 3 1 b n (olds++news) w (.returned (.slice (some ⟨w.heap.size,0,none⟩) (n+1) (grownCap w (n+1) c 3))) (w.drew.alloc (.cells ((olds++news).toArray++Builtin.zeroCells z.cells (grownCap w (n+1) c 3-(n+1))) 3)):=by
  refine⟨w.heap.size,0,_,_,rfl,heap_alloc_new w.drew _,fun j hj=>?_,?_,hge,hle,.inr (Zv5 _),(Zen w _).trans (Keep.of_ext (Ext.al _ _) _)⟩
  ·rw[ZwC,Array.getElem?_append_left (by rw[Zwy,Zv7];omega),ZwH]
  ·rw[Array.size_append,Zwy,Zv7,size_zeroCells,hzs];omega
 generalize grownCap w (n+1) c 3=G at hrun fin;generalize(olds++news).toArray++Builtin.zeroCells z.cells (G-(n+1))=ROW at hrun fin;clear hz hzs hge hle hol hoc hnc hnl;cases base with
 |none=>
  obtain⟨rfl,rfl⟩:=hnil rfl;go_enter Tryz.func218,Tryz.ntmps218;go_wp2_with (at_builtin;refine Lib.wpList_append_run _ rfl _ _ _ _ rfl _ _ rfl rfl _ _ (hrun _) ?_)
  all_goals (go_ret;exact fin)
 |some a=>
  obtain⟨ab,ao,asp⟩:=a;go_enter Tryz.func218,Tryz.ntmps218;go_wp2_with (at_builtin;refine Lib.wpList_append_run _ rfl _ _ _ _ rfl _ _ rfl rfl _ _ (hrun _) ?_)
  all_goals (go_ret;exact fin)
set_option maxHeartbeats 4000000 in
set_option maxRecDepth 100000 in
theorem Zm8 (b o n c i vb vo vc:Nat)(cb cv:Array Value)(olds news:List Value)(w:World)(hb:w.heap[b]?=some (.cells cb 3 (0,0)))(hv:w.heap[vb]?=some (.cells cv 3 (0,0)))(hvb:vb≠b)(hi:i<n)(hroom:n+1≤c)(hfit:o+c*1≤cb.size)(hc63:c≤maxLen)
  (hol:olds.length=n*1) (hoc:∀j v,olds[j]?=some v→cb[o+j]?=some v) (hnl:news.length=1) (hnc:∀j v,news[j]?=some v→cv[vo+j]?=some v) (h1o:∀v∈olds,v.oneCell'=true) (h1:∀v∈news,v.oneCell'=true):
  Calls Tryz.prog 218 #[.slice (some ⟨b,o,none⟩) n c,.int .i64 i,.slice (some ⟨vb,vo,none⟩) 1 vc] w (Zbv 3 1 b n (olds.take (i*1)++news++olds.drop (i*1)) w):=by
 have hc63':c≤9223372036854775807:=by unfold maxLen at hc63;omega
 have hcl:cb.toList.length=cb.size:=Zwt;have hov:∀lb cc,(callFunc 238 #[.slice (some ⟨vb,vo,none⟩) 1 vc,.slice (some ⟨b,o+(i+1),none⟩) lb cc]).run Tryz.prog w=.ok (.value (.bool false)) w:=fun lb cc=>by
  rw[run_callFunc_extern Tryz.func238 (by kernel_rfl) (by kernel_rfl) (by kernel_rfl) (e:=Extern.SlicesOverlaps.overlaps #[26,26] #[4]) (by kernel_rfl),
   Lib.run_overlaps_apart w 26 4 3 Tryz.underlying26 1 (Go.Proofs.YtfpmaennjlggeaaGreatDoor.run_sizeOf size1) ⟨vb,vo,none⟩ ⟨b,o+(i+1),none⟩ 1 vc lb cc hvb 3 3 cv.size cb.size (by simp[World.shape?,hv]) (by simp[World.shape?,hb]) (by omega) (Lib.frozen_of_heap hv vo) (Lib.frozen_of_heap hv cv.size)]
  rfl
 obtain⟨C1,hC1⟩:∃C1,C1=(splice cb.toList (o+(i+1)*1) (olds.drop (i*1))).toArray:=⟨_,rfl⟩;obtain⟨C2,hC2⟩:∃C2,C2=(splice C1.toList (o+i*1) news).toArray:=⟨_,rfl⟩;have hdl:(olds.drop (i*1)).length=(n-i)*1:=by rw[ZwB,hol];omega
 have hC1l:C1.toList.length=cb.size:=by rw[hC1];show(splice _ _ _).length=_;rw[Zav (by omega),hcl]
 have hC2l:C2.size=cb.size:=by rw[hC2,Zwy,Zav (by omega),hC1l]
 have hcp1:∀ty q q' dl dc sl sc,q=o+(i+1)*1→q'=o+i*1→dl=n+1-(i+1)→sl=n+1-i→(Builtin.copy_ #[26,26] ty #[.slice (some ⟨b,q,none⟩) dl dc,.slice (some ⟨b,q',none⟩) sl sc]).run Tryz.prog w.drew=.ok (goInt ((n-i:Nat):Int)) (w.drew.setRow b C1):=fun ty q q' dl dc sl sc e1 e2 e3 e4=>by
  subst e1 e2 e3 e4;have h:=Zb8 (P:=Tryz.prog) (ty:=ty) w.drew 26 26 3 b (o+(i+1)*1) (n+1-(i+1)) dc (n+1-i) sc ⟨b,o+i*1,none⟩ cb 3 (olds.drop (i*1)) Tryz.underlying26 size1 hb
   (by rw[hdl,nminR (by omega)];congr 1;omega) (fun j v hj=>by
    rw[Addr.add_lit];rw[Zwj]at hj
    have:=hoc _ v hj
    rw[←Nat.add_assoc]at this;exact(cell_of_row w.drew b _ cb _ _ hb).trans this) (by omega) (fun v hv=>h1o v (List.mem_of_mem_drop hv))
  rw[nminR (by omega),show n+1-(i+1)=n-i by omega,←hC1]at h;rw[show n+1-(i+1)=n-i by omega];exact h
 have hh1:(w.drew.setRow b C1).heap[b]?=some (.cells C1 3 (0,0)):=setRow_heap w.drew b cb _ _ _ hb;have hcp2:∀ty q dl dc,q=o+i*1→dl=n+1-i→(Builtin.copy_ #[26,26] ty #[.slice (some ⟨b,q,none⟩) dl dc,.slice (some ⟨vb,vo,none⟩) 1 vc]).run Tryz.prog (w.drew.setRow b C1)=.ok (goInt 1) ((w.drew.setRow b C1).setRow b C2):=fun ty q dl dc e1 e2=>by
  subst e1 e2;have h:=Zb8 (P:=Tryz.prog) (ty:=ty) (w.drew.setRow b C1) 26 26 3 b (o+i*1) (n+1-i) dc 1 vc ⟨vb,vo,none⟩ C1 3 news Tryz.underlying26 size1 hh1
   (by rw[hnl,nminL (by omega)]) (fun j v hj=>by
    rw[Addr.add_lit,cell_setRow_other _ _ _ _ hvb];exact(cell_of_row w.drew vb _ cv _ _ hv).trans (hnc j v hj)) (by rw[←Zwt,hC1l];omega) h1
  rw[nminL (by omega),←hC2]at h;exact h
 have fin:Zbv 3 1 b n (olds.take (i*1)++news++olds.drop (i*1)) w (.returned (.slice (some ⟨b,o,none⟩) (n+1) c)) ((w.drew.setRow b C1).setRow b C2):=by
  refine⟨b,o,c,C2,rfl,setRow_heap _ b C1 _ _ _ hh1,fun j hj=>?_,by omega,hroom,hc63,.inl rfl,((Zen w _).trans (Keep.setRow _ _ _)).trans (Keep.setRow _ _ _)⟩;have htl:(olds.take (i*1)).length=i*1:=by rw[Zv8];omega
  rw[hC2,ZwH,Zap (by omega),hC1,ZwQ,ZwF,ZwF,htl];by_cases q1:j<i*1
  ·rw[if_pos (by omega),if_pos q1,List.toList_toArray,Zap (by omega),if_pos (by omega),ZwO,Zwi,if_pos q1];have hv:=ZvZ (show j<olds.length by omega);rw[hv];exact hoc j _ hv
  by_cases q2:j<(i+1)*1
  ·rw[if_neg (by omega),if_pos (by omega),if_neg q1,if_pos (by omega)];congr 1;omega
  ·rw[if_neg (by omega),if_neg (by omega),if_neg q1,if_neg (by omega),List.toList_toArray,Zap (by omega),if_neg (by omega),if_pos (by omega)];congr 1;omega
 generalize(w.drew.setRow b C1).setRow b C2=W2 at hcp2 fin;generalize w.drew.setRow b C1=W1 at hcp1 hcp2;have hz2:¬((i:Int)=(n:Int)):=by omega
 have mixed:Tryz.prog.follows .mixedOrders=true:=by kernel_rfl
 have hw1:IntKind.i64.wrap ((i:Int)+1)=(i:Int)+1:=by rw[IntKind.wrap_i64];omega
 have hb1:(0:Int)≤(i:Int)+1:=by omega
 have hin:i≤n:=by omega
 have htn:((i:Int)+1).toNat=i+1:=by omega
 have hb2:¬(c=i+1):=by omega
 have hb3:(i:Int)≤(n:Int)+1:=by omega
 have hb4:¬(c=i):=by omega
 clear hC1 hC2 hC1l hC2l hdl hoc hnc hh1 hcl;go_enter Tryz.func218,Tryz.ntmps218;go_wp2_with (simp only[hov]);go_region_law_o (refine step_copy_runI rfl _ _ 26 26 rfl _ _ (by simp[Act.eval,Act.put]) (by simp[Act.eval,Act.put]) (hcp1 _ _ _ _ _ _ _ (by omega) (by omega) (by omega) (by omega)) ?_);go_wp2_with (at_builtin;refine wpList_copy_runI _ rfl _ _ 26 26 rfl _ _ rfl rfl (hcp2 _ _ _ _ (by omega) (by omega)) ?_)
 all_goals (go_ret;exact fin)
set_option maxHeartbeats 4000000 in
set_option maxRecDepth 100000 in
theorem Zo2 (b o n c i vb vo vc:Nat)(cb cv:Array Value)(olds news:List Value)(w:World)(hb:w.heap[b]?=some (.cells cb 3 (0,0)))(hv:w.heap[vb]?=some (.cells cv 3 (0,0)))(hi:i<n)(hroom:c<n+1)(hcc:n≤c)(hn:n≤1000000)
  (hol:olds.length=n*1) (hoc:∀j v,olds[j]?=some v→cb[o+j]?=some v) (hnl:news.length=1) (hnc:∀j v,news[j]?=some v→cv[vo+j]?=some v) (h1o:∀v∈olds,v.oneCell'=true) (h1:∀v∈news,v.oneCell'=true):
  Calls Tryz.prog 218 #[.slice (some ⟨b,o,none⟩) n c,.int .i64 i,.slice (some ⟨vb,vo,none⟩) 1 vc] w (Zbv 3 1 b n (olds.take (i*1)++news++olds.drop (i*1)) w):=by
 obtain⟨ti,z,hti,hz,hsz,hby,hzs⟩:∃i z,Tryz.prog.info? 3=some i∧i.zero=some z∧i.size=1∧i.bytes=8∧z.cells.size=1:=⟨_,_,rfl,rfl,rfl,rfl,rfl⟩;have hbw:b<w.heap.size:=(Zwr.1 hb).1;have hvw:vb<w.heap.size:=(Zwr.1 hv).1;have htl:(olds.take (i*1)).length=i*1:=by rw[Zv8];omega
 have hdl:(olds.drop (i*1)).length=(n-i)*1:=by rw[ZwB,hol];omega
 have hold:(Builtin.firstCells ti.size i (.slice (some ⟨b,o,none⟩) i c)).run Tryz.prog w.drew=.ok (olds.take (i*1)).toArray w.drew:=by
  rw[hsz];exact run_firstCells_some (P:=Tryz.prog) w.drew 1 i ⟨b,o,none⟩ i c (olds.take (i*1)) htl (fun j u hj=>by
   rw[Addr.add_lit];rw[Zwi]at hj;split at hj
   ·exact(cell_of_row w.drew b _ cb _ _ hb).trans (hoc j u hj)
   ·cases hj)
 have hrz:∀ty (k:Int),k=((n+1-i:Nat):Int)→(Builtin.append_ #[26,3] ty #[.slice (some ⟨b,o,none⟩) i c,.int .i64 k]).run Tryz.prog w =
   .ok (.slice (some ⟨w.heap.size,0,none⟩) (n+1) (grownCap w (n+1) c 3)) (w.drew.alloc (.cells ((olds.take (i*1)).toArray++Builtin.zeroCells z.cells (n+1-i)++Builtin.zeroCells z.cells (grownCap w (n+1) c 3-(n+1))) 3)):=fun ty k hk=>by
  subst hk;have h:=Lib.run_append_grow_zeros w 26 3 ty 3 ti z .i64 .i64 Tryz.underlying26 Tryz.underlying3 hti hz (some ⟨b,o,none⟩) i c (olds.take (i*1)) hold (n+1-i) (by omega) (by omega) (by omega) (by omega) (by rw[hby];omega) (growslice_fits (by omega) (by rw[hby];omega));rw[show i+(n+1-i)=n+1 by omega]at h;exact h
 have hge:=grownCap_ge w (n+1) c 3;have hle:=grownCap_le_maxLen w (n+1) c 3 (by unfold maxLen;omega);generalize grownCap w (n+1) c 3=G at hrz hge hle;obtain⟨ROW,hROW⟩:∃ROW:Array Value,ROW=(olds.take (i*1)).toArray++Builtin.zeroCells z.cells (n+1-i)++Builtin.zeroCells z.cells (G-(n+1)):=⟨_,rfl⟩;rw[←hROW]at hrz;have hRl:ROW.size=G*1:=by
  rw[hROW,Array.size_append,Array.size_append,Zwy,size_zeroCells,size_zeroCells,hzs,htl];omega
 have hRt:∀j,j<i*1→ROW[j]?=olds[j]?:=fun j hj=>by
  rw[hROW,Array.append_assoc,Array.getElem?_append_left (by rw[Zwy];omega),ZwH,Zwi,if_pos hj]
 clear hROW hold;obtain⟨C2,hC2⟩:∃C2,C2=(splice ROW.toList (i*1) news).toArray:=⟨_,rfl⟩;obtain⟨C3,hC3⟩:∃C3,C3=(splice C2.toList ((i+1)*1) (olds.drop (i*1))).toArray:=⟨_,rfl⟩;have hRL:ROW.toList.length=G*1:=by rw[Zwt];exact hRl
 have hC2l:C2.toList.length=G*1:=by rw[hC2];show(splice _ _ _).length=_;rw[Zav (by omega),hRL]
 have hC3l:C3.size=G*1:=by rw[hC3,Zwy,Zav (by omega),hC2l]
 have hh1:(w.drew.alloc (.cells ROW 3)).heap[w.heap.size]?=some (.cells ROW 3 (0,0)):=heap_alloc_new w.drew _;have hh2:((w.drew.alloc (.cells ROW 3)).setRow w.heap.size C2).heap[w.heap.size]?=some (.cells C2 3 (0,0)):=setRow_heap _ _ ROW _ _ _ hh1;have hcpA:∀(W:World),W.heap=(w.drew.alloc (.cells ROW 3)).heap→∀ty q dl dc,q=i*1→dl=n+1-i→(Builtin.copy_ #[26,26] ty #[.slice (some ⟨w.heap.size,q,none⟩) dl dc,.slice (some ⟨vb,vo,none⟩) 1 vc]).run Tryz.prog W=.ok (goInt 1) (W.setRow w.heap.size C2):=fun W hW ty q dl dc e1 e2=>by
  subst e1 e2;have hv':W.heap[vb]?=some (.cells cv 3 (0,0)):=by rw[hW,heap_alloc_old w.drew _ hvw];exact hv
  have h:=Zb8 (P:=Tryz.prog) (ty:=ty) W 26 26 3 w.heap.size (i*1) (n+1-i) dc 1 vc ⟨vb,vo,none⟩ ROW 3 news Tryz.underlying26 size1 (by rw[hW];exact hh1)
   (by rw[hnl,nminL (by omega)]) (fun j v hj=>by
    rw[Addr.add_lit];exact(cell_of_row W vb _ cv _ _ hv').trans (hnc j v hj)) (by omega) h1
  rw[nminL (by omega),←hC2]at h;exact h
 have hcpB:∀(W:World),W.heap=((w.drew.alloc (.cells ROW 3)).setRow w.heap.size C2).heap→∀ty q q' dl dc sl sc,q=(i+1)*1→q'=o+i*1→dl=n+1-(i+1)→sl=n-i→(Builtin.copy_ #[26,26] ty #[.slice (some ⟨w.heap.size,q,none⟩) dl dc,.slice (some ⟨b,q',none⟩) sl sc]).run Tryz.prog W=.ok (goInt ((n-i:Nat):Int)) (W.setRow w.heap.size C3):=fun W hW ty q q' dl dc sl sc e1 e2 e3 e4=>by
  subst e1 e2 e3 e4;have hb':W.heap[b]?=some (.cells cb 3 (0,0)):=by rw[hW,setRow_other _ _ _ _ (by omega),heap_alloc_old w.drew _ hbw];exact hb
  have h:=Zb8 (P:=Tryz.prog) (ty:=ty) W 26 26 3 w.heap.size ((i+1)*1) (n+1-(i+1)) dc (n-i) sc ⟨b,o+i*1,none⟩ C2 3 (olds.drop (i*1)) Tryz.underlying26 size1 (by rw[hW];exact hh2)
   (by rw[hdl,nminL (by omega)]) (fun j v hj=>by
    rw[Addr.add_lit];rw[Zwj]at hj
    have:=hoc _ v hj
    rw[←Nat.add_assoc]at this;exact(cell_of_row W b _ cb _ _ hb').trans this) (by rw[←Zwt,hC2l];omega) (fun v hv=>h1o v (List.mem_of_mem_drop hv))
  rw[nminL (by omega),←hC3]at h;exact h
 have fin:∀W:World,W=(((w.drew.alloc (.cells ROW 3)).setRow w.heap.size C2).drew).setRow w.heap.size C3→Zbv 3 1 b n (olds.take (i*1)++news++olds.drop (i*1)) w (.returned (.slice (some ⟨w.heap.size,0,none⟩) (n+1) G)) W:=fun W hW=>by
  subst hW;refine⟨w.heap.size,0,G,C3,rfl,setRow_heap _ _ C2 _ _ _ hh2,fun j hj=>?_,by omega,hge,hle,.inr (Zv5 _),?_⟩
  ·rw[ZwC,hC3,ZwH,Zap (by omega),hC2,ZwQ,ZwF,ZwF,htl];by_cases q1:j<i*1
   ·rw[if_pos (by omega),if_pos q1,List.toList_toArray,Zap (by omega),if_pos (by omega),ZwO,Zwi,if_pos q1];exact hRt j q1
   by_cases q2:j<(i+1)*1
   ·rw[if_pos (by omega),if_neg q1,if_pos (by omega),List.toList_toArray,Zap (by omega),if_neg (by omega),if_pos (by omega)]
   ·rw[if_neg (by omega),if_pos (by omega),if_neg q1,if_neg (by omega)];congr 1;omega
  ·refine⟨rfl,rfl,rfl,by simp,fun k hk _=>?_⟩;rw[setRow_other _ _ _ _ (by omega)];show((w.drew.alloc (.cells ROW 3)).setRow w.heap.size C2).heap[k]?=_;rw[setRow_other _ _ _ _ (by omega),heap_alloc_old w.drew _ hk];rfl
 have mixed:Tryz.prog.follows .mixedOrders=true:=by kernel_rfl
 have hz1:(c:Int)<(n:Int)+1:=by omega
 have hz2:¬((i:Int)=(n:Int)):=by omega
 have hw1:IntKind.i64.wrap ((i:Int)+1)=(i:Int)+1:=by rw[IntKind.wrap_i64];omega
 have hb1:(0:Int)≤(i:Int)+1:=by omega
 have hin:i≤n:=by omega
 have htn:((i:Int)+1).toNat=i+1:=by omega
 have hGi:¬(G=i):=by omega
 have hGim:¬(G=i+1):=by omega
 have hci:¬(c=i):=by omega
 have hG63:G≤9223372036854775807:=by unfold maxLen at hle;omega
 have hb3:(i:Int)≤(n:Int):=by omega
 clear hC2 hC3 hC2l hC3l hRL hRl hRt hdl htl hh1 hh2 hoc hnc hti hz hzs;go_enter Tryz.func218,Tryz.ntmps218;go_wp2_with (at_builtin;refine Lib.wpList_append_run _ rfl _ _ _ _ rfl _ _ rfl rfl _ _ (hrz _ _ (by omega)) ?_);rw[hcpA ((w.alloc (.cells ROW 3)).drew) rfl _ _ _ _ (by omega) rfl];simp only[Result.andThen];rw[Oper.upon_value];go_wp2;go_region_law_o (refine step_copy_runI rfl _ _ 26 26 rfl (.slice (some ⟨w.heap.size,i+1,none⟩) (n+1-(i+1)) (G-(i+1))) (.slice (some ⟨b,o+i,none⟩) (n-i) (c-i)) (by simp[Act.eval,Act.put]) (by simp[Act.eval,Act.put]) (hcpB _ (by rfl) 3 _ _ _ (G-(i+1)) _ (c-i) (by omega) (by omega) rfl rfl) ?_);go_wp2
 all_goals (go_ret;exact fin _ rfl)
end
section
open Go.RowKit
theorem Zf3 {ρ:Site→Loc}{m:Mem}{w:World}{s:Site}{e n:Nat}{xs:List PV}(h:RdB ρ m w s (.arr e n xs))(hr:(ρ s).real=true):
  ∃cs ds,w.heap[(ρ s).b]?=some (.cells cs e (0,0))∧(ρ s).o+(ρ s).cap*n≤cs.size∧xs.length≤(ρ s).cap∧(ρ s).cap≤maxLen∧Flat m ds n xs∧∀(j:Nat) v,ds[j]?=some v→cs[(ρ s).o+j]?=some v:=by
 obtain⟨hn,hB|⟨_,cs,g1,g2,g3,g4,g5⟩⟩:=h
 ·rw[hB.1]at hr;cases hr
 have hfit:(ρ s).o+xs.length*n≤cs.size:=by
  have:xs.length*n≤(ρ s).cap*n:=ZwT _ g3
  omega
 refine⟨cs,(cs.toList.drop (ρ s).o).take (xs.length*n),g1,g2,g3,g4,⟨by rw[Zdw hfit],fun u hu=>?_,fun i x hi=>?_⟩,fun j v hj=>?_⟩
 ·obtain⟨k,hk⟩:=Zwa.1 hu;rw[Za2]at hk;split at hk
  ·rename_i hlt;obtain⟨h1,h2,h3⟩:=Zdc hlt hn;obtain⟨q1,q2⟩:=g5 _ _ (ZvZ h1);obtain⟨u',q3,q4,_⟩:=q2 _ _ (ZvZ (show k%n<(xs[k / n]).cells.length by omega));rw[show(ρ s).o+k / n*n+k%n=(ρ s).o+k by omega,hk]at q3;cases q3;exact q4
  ·cases hk
 ·obtain⟨q1,q2⟩:=g5 i x hi;refine⟨q1,fun j c hj=>?_⟩;obtain⟨u,q3,_,q5⟩:=q2 j c hj;have hjn:j<n:=by have:=(Zv1.1 hj).1;omega
  have:=ZaU (n:=n) (Zv1.1 hi).1
  exact⟨u,by rw[Za2,if_pos (by omega)];rw[←q3];congr 1;omega,q5⟩
 ·rw[Za2]at hj;split at hj
  ·exact hj
  ·cases hj
theorem Flat.takeD {m:Mem}{ds:List Value}{n:Nat}{xs:List PV}(h:Flat m ds n xs)(i:Nat)(hi:i≤xs.length):Flat m (ds.take (i*n)) n (xs.take i):=by
 have hl:i*n≤xs.length*n:=ZwT _ hi;refine⟨by rw[Zv8,Zv8,h.len,Nat.min_eq_left hl,Nat.min_eq_left hi],fun u hu=>h.one u (List.mem_of_mem_take hu),fun k x hk=>?_⟩;rw[Zwi]at hk;split at hk
 ·rename_i hki;obtain⟨k1,k2⟩:=h.get k x hk;refine⟨k1,fun j c hj=>?_⟩;obtain⟨u,q1,q2⟩:=k2 j c hj;have hjn:j<n:=by have:=(Zv1.1 hj).1;omega
  have:=ZaU (n:=n) hki
  exact⟨u,by rw[Zwi,if_pos (by omega)];exact q1,q2⟩
 ·cases hk
theorem Flat.dropD {m:Mem}{ds:List Value}{n:Nat}{xs:List PV}(h:Flat m ds n xs)(i:Nat):Flat m (ds.drop (i*n)) n (xs.drop i):=by
 refine⟨by rw[ZwB,ZwB,h.len,Nat.sub_mul],fun u hu=>h.one u (List.mem_of_mem_drop hu),fun k x hk=>?_⟩;rw[Zwj]at hk;obtain⟨k1,k2⟩:=h.get _ x hk;refine⟨k1,fun j c hj=>?_⟩;obtain⟨u,q1,q2⟩:=k2 j c hj;exact⟨u,by rw[Zwj,←q1];congr 1;rw[Nat.add_mul];omega,q2⟩
theorem ZfV {TE k b n:Nat}{els:List Value}{ys:List PV}{w w':World}{e:Ending}{m:Mem}{ρ:Site→Loc}{B:List (Site×Box)}(hk:0<k)(hE:Zbv TE k b n els w e w')(hF:Flat m els k ys)(hy:ys.length=n+1)
  (hm:Le m w.mem) (hbl:b∈lentB ρ w B∨w.heap.size≤b) (hoff:∀o,m b o=none):CPost w m ρ B (fun r B'=>r=.vec (.ret 0) k 0 (n+1)∧B'=[(.ret 0,.arr TE k ys)]) e w':=by
 obtain⟨b',o',c',cs',rfl,g1,g2,g3,g4,g5,g6,g7⟩:=hE;have hu:=ZaY ρ (.ret 0) ⟨b',o',c',true⟩;have hnew:∀b,w.heap.size≤b→∀o,m b o=none:=fun b hb o=>by
  cases hv:m b o with
  |none=>rfl
  |some v=>have:=ZaR (hm _ _ _ hv);omega
 have hoff':∀o,m b' o=none:=by
  rcases g6 with rfl|g6
  ·exact hoff
  ·exact hnew _ g6
 have look:∀s bx,List.lookup s [((.ret 0:Site),Box.arr TE k ys)]=some bx→s=.ret 0∧bx=.arr TE k ys:=fun s bx h=>by
  by_cases e:s=.ret 0
  ·subst e;rw[Zai]at h;cases h;exact⟨rfl,rfl⟩
  ·rw[Zad e]at h;cases h
 have hmw:Le m w'.mem:=fun a o v hv=>by
  have hw:=hm a o v hv;have hlt:=ZaR hw;have hne:a≠b:=fun e=>by subst e;rw[hoff o]at hv;cases hv
  exact(World.cell?_of_block (a:=⟨a,o,none⟩) (g7.block a hlt (by simpa using hne))).trans hw
 refine⟨_,.vec (.ret 0) k 0 (n+1),[(.ret 0,.arr TE k ys)],upd ρ (.ret 0) ⟨b',o',c',true⟩,m,rfl,⟨rfl,rfl⟩,⟨fun s bx h=>?_,fun s s' bx bx' i h h' _ _=>?_,fun s bx i h hb o=>?_⟩,Le.refl m,hmw,fun i=>Zdo ρ _ (by simp),fun s bx i h hb=>?_,fun _ _ _ h=>.inl h,?_,?_⟩
 ·obtain⟨rfl,rfl⟩:=look s bx h;refine⟨hk,.inr ⟨by rw[hu],cs',by rw[hu];exact g1,by rw[hu];exact g3,by rw[hu,hy];exact g4,by rw[hu];exact g5,fun i x hx=>?_⟩⟩;obtain⟨k1,k2⟩:=hF.get i x hx;refine⟨k1,fun j c hj=>?_⟩;obtain⟨u,q1,q2⟩:=k2 j c hj;have hlt:=(Zv1.1 q1).1;rw[hF.len,hy]at hlt;exact⟨u,by rw[hu];show cs'[o'+i*k+j]?=_;rw[←q1,←g2 _ hlt,Nat.add_assoc],hF.one u (Zv3 q1),q2⟩
 ·rw[(look s bx h).1,(look s' bx' h').1]
 ·obtain⟨rfl,rfl⟩:=look s bx h;obtain⟨_,q⟩:=Zbp rfl hb;rw[hu]at q;rw[←q];exact hoff' o
 ·obtain⟨rfl,rfl⟩:=look s bx h;obtain⟨_,q⟩:=Zbp rfl hb;rw[hu]at q;rw[←q];show w.heap.size≤b'∨b'∈_;rcases g6 with rfl|g6
  ·exact hbl.symm
  ·exact .inl g6
 ·have:=RdA.vec (ρ:=upd ρ (.ret 0) ⟨b',o',c',true⟩) (m:=m) (.ret 0) k 0 (n+1) c' g4 (by rw[hu];simp) (by rw[hu])
  rw[hu]at this;simpa using this
 ·refine⟨g7.os,g7.tape,g7.output,g7.size,fun i hi hn=>g7.block i hi (fun h=>?_)⟩;rw[Zwo]at h;subst h;rcases hbl with h|h
  ·exact hn h
  ·omega
theorem arg3 {vs:Array Value}(h:vs.size=3):∃v u x,vs=#[v,u,x]:=by
 match vs,h with
 |⟨[v,u,x]⟩,_=>exact⟨v,u,x,rfl⟩
theorem Zvr (xs:List PV)(x:PV)(i:Nat)(hi:i≤xs.length)(hx:xs.length≤1000000):
  Zak Tryz.prog 221 [.vec (.par 0) 4 0 xs.length,.pv (.int .i64 i),.vec (.par 1) 4 0 1] [(.par 0,.arr 68 4 xs),(.par 1,.arr 68 4 [x])] (fun r B=>r=.vec (.ret 0) 4 0 (xs.length+1)∧B=[(.ret 0,.arr 68 4 (insB xs i x))]):=by
 refine⟨⟨_,_,Tryz.func221,by kernel_rfl,rfl⟩,fun w m ρ vs hB hmw hsz hrd=>?_⟩;obtain⟨v0,v1,v2,rfl⟩:=arg3 (by simpa using hsz);have h0:=hrd 0 v0 _ rfl rfl;have h1:=(hrd 1 v1 _ rfl rfl).pv_inv;have h2:=hrd 2 v2 _ rfl rfl;have hv1:v1=.int .i64 i:=by cases h1;rfl
 subst hv1;have b0:=hB.bx (.par 0) _ rfl;have b1:=hB.bx (.par 1) _ rfl;rcases h2.vec_inv with⟨cap1,rfl,c0,c1,c2⟩|⟨a,_,c0,_⟩
 ·obtain⟨cv,ns,e1,_,_,_,eF,eN⟩:=Zf3 b1 c2;have hnl:ns.length=4:=by rw[eF.len];rfl
  have hvlt:(ρ (.par 1)).b<w.heap.size:=(Zwr.1 e1).1;rw[Nat.zero_mul,Nat.add_zero]at *;have hcv:∀(j:Nat) v,ns[j]?=some v→w.cell? ⟨(ρ (.par 1)).b,(ρ (.par 1)).o+j,none⟩=some v:=fun j v hj=>(cell_of_row w _ _ cv _ _ e1).trans (eN j v hj)
  rcases h0.vec_inv with⟨cap,rfl,d0,d1,d2⟩|⟨a,rfl,d0,_⟩
  ·obtain⟨cb,os,f1,f2,f3,f4,fF,fN⟩:=Zf3 b0 d2;rw[Nat.zero_mul,Nat.add_zero];have hne:(ρ (.par 1)).b≠(ρ (.par 0)).b:=fun e=>by
    have:=hB.inj (.par 1) (.par 0) _ _ rfl rfl c2 d2 e
    cases this
   have hol:os.length=xs.length*4:=fF.len;have hfit:(ρ (.par 0)).o+cap*4≤cb.size:=by
    have:cap*4≤(ρ (.par 0)).cap*4:=ZwT _ (by omega)
    omega
   have hFl:Flat m (os.take (i*4)++ns++os.drop (i*4)) 4 (insB xs i x):=by
    have:=((fF.takeD i hi).app eF).app (fF.dropD i)
    rw[ZwQ (xs.take i)]at this;exact this
   have hbl:(ρ (.par 0)).b∈lentB ρ w [(.par 0,.arr 68 4 xs),(.par 1,.arr 68 4 [x])]:=ZcK.2 ⟨_,Zwz ..,ZaI d2⟩;have hoff:=hB.off (.par 0) _ rfl d2;have post:=fun e w' (h:Zbv 68 4 (ρ (.par 0)).b xs.length (os.take (i*4)++ns++os.drop (i*4)) w e w')=>ZfV (ρ:=ρ) (B:=[(.par 0,.arr 68 4 xs),(.par 1,.arr 68 4 [x])]) (by decide) h hFl (ZcN hi) hmw.1 (.inl hbl) hoff
   by_cases hin:i<xs.length
   ·by_cases hr:xs.length+1≤cap
    ·exact(Zm7 _ _ _ _ _ _ _ _ cb cv os ns w f1 e1 hne hin hr hfit (by omega) hol fN hnl eN fF.one eF.one).mono post
    ·exact(Zo1 _ _ _ _ _ _ _ _ cb cv os ns w f1 e1 hin (by omega) d0 hx hol fN hnl eN fF.one eF.one).mono post
   ·have he:i=xs.length:=by omega
    subst he;have ht:os.take (xs.length*4)++ns++os.drop (xs.length*4)=os++ns:=by rw[Zv9 (by omega),List.drop_eq_nil_of_le (by omega),Zwn]
    rw[ht]at post;by_cases hr:xs.length+1≤cap
    ·exact(ZiL _ _ _ _ _ _ _ cb os ns w f1 hr hfit (by omega) hol fN hnl hcv eF.one).mono post
    ·exact(ZeS (ρ (.par 0)).b _ _ _ _ _ _ os ns w (by omega) hx (fun h=>by cases h) d0 hol (fun j v hj=>⟨_,rfl,by rw[Addr.add_lit];exact(cell_of_row w _ _ cb _ _ f1).trans (fN j v hj)⟩) hnl hcv).mono post
  ·have hx0:xs=[]:=List.length_eq_zero_iff.1 d0;subst hx0;have hi0:i=0:=Nat.le_zero.1 hi;subst hi0;have post:=fun e w' (h:Zbv 68 4 w.heap.size 0 ([]++ns) w e w')=>ZfV (ρ:=ρ) (B:=[(.par 0,.arr 68 4 []),(.par 1,.arr 68 4 [x])]) (by decide) h (ys:=[x]) eF rfl hmw.1 (.inr (Zv5 _)) (fun o=>by
    cases hv:m w.heap.size o with
    |none=>rfl
    |some v=>have:=ZaR (hmw.1 _ _ _ hv);omega)
   exact(ZeS w.heap.size _ 0 0 _ _ _ [] ns w (by omega) (by omega) (fun _=>⟨rfl,rfl⟩) (by omega) rfl (fun j v hj=>by simp at hj) hnl hcv).mono post
 ·cases c0
theorem Zvs (xs:List PV)(x:PV)(i:Nat)(hi:i≤xs.length)(hx:xs.length≤1000000):
  Zak Tryz.prog 218 [.vec (.par 0) 1 0 xs.length,.pv (.int .i64 i),.vec (.par 1) 1 0 1] [(.par 0,.arr 3 1 xs),(.par 1,.arr 3 1 [x])] (fun r B=>r=.vec (.ret 0) 1 0 (xs.length+1)∧B=[(.ret 0,.arr 3 1 (insB xs i x))]):=by
 refine⟨⟨_,_,Tryz.func218,by kernel_rfl,rfl⟩,fun w m ρ vs hB hmw hsz hrd=>?_⟩;obtain⟨v0,v1,v2,rfl⟩:=arg3 (by simpa using hsz);have h0:=hrd 0 v0 _ rfl rfl;have h1:=(hrd 1 v1 _ rfl rfl).pv_inv;have h2:=hrd 2 v2 _ rfl rfl;have hv1:v1=.int .i64 i:=by cases h1;rfl
 subst hv1;have b0:=hB.bx (.par 0) _ rfl;have b1:=hB.bx (.par 1) _ rfl;rcases h2.vec_inv with⟨cap1,rfl,c0,c1,c2⟩|⟨a,_,c0,_⟩
 ·obtain⟨cv,ns,e1,_,_,_,eF,eN⟩:=Zf3 b1 c2;have hnl:ns.length=1:=by rw[eF.len];rfl
  have hvlt:(ρ (.par 1)).b<w.heap.size:=(Zwr.1 e1).1;rw[Nat.zero_mul,Nat.add_zero]at *;have hcv:∀(j:Nat) v,ns[j]?=some v→w.cell? ⟨(ρ (.par 1)).b,(ρ (.par 1)).o+j,none⟩=some v:=fun j v hj=>(cell_of_row w _ _ cv _ _ e1).trans (eN j v hj)
  rcases h0.vec_inv with⟨cap,rfl,d0,d1,d2⟩|⟨a,rfl,d0,_⟩
  ·obtain⟨cb,os,f1,f2,f3,f4,fF,fN⟩:=Zf3 b0 d2;rw[Nat.zero_mul,Nat.add_zero];have hne:(ρ (.par 1)).b≠(ρ (.par 0)).b:=fun e=>by
    have:=hB.inj (.par 1) (.par 0) _ _ rfl rfl c2 d2 e
    cases this
   have hol:os.length=xs.length*1:=fF.len;have hfit:(ρ (.par 0)).o+cap*1≤cb.size:=by
    have:cap*1≤(ρ (.par 0)).cap*1:=ZwT _ (by omega)
    omega
   have hFl:Flat m (os.take (i*1)++ns++os.drop (i*1)) 1 (insB xs i x):=by
    have:=((fF.takeD i hi).app eF).app (fF.dropD i)
    rw[ZwQ (xs.take i)]at this;exact this
   have hbl:(ρ (.par 0)).b∈lentB ρ w [(.par 0,.arr 3 1 xs),(.par 1,.arr 3 1 [x])]:=ZcK.2 ⟨_,Zwz ..,ZaI d2⟩;have hoff:=hB.off (.par 0) _ rfl d2;have post:=fun e w' (h:Zbv 3 1 (ρ (.par 0)).b xs.length (os.take (i*1)++ns++os.drop (i*1)) w e w')=>ZfV (ρ:=ρ) (B:=[(.par 0,.arr 3 1 xs),(.par 1,.arr 3 1 [x])]) (by decide) h hFl (ZcN hi) hmw.1 (.inl hbl) hoff
   by_cases hin:i<xs.length
   ·by_cases hr:xs.length+1≤cap
    ·exact(Zm8 _ _ _ _ _ _ _ _ cb cv os ns w f1 e1 hne hin hr hfit (by omega) hol fN hnl eN fF.one eF.one).mono post
    ·exact(Zo2 _ _ _ _ _ _ _ _ cb cv os ns w f1 e1 hin (by omega) d0 hx hol fN hnl eN fF.one eF.one).mono post
   ·have he:i=xs.length:=by omega
    subst he;have ht:os.take (xs.length*1)++ns++os.drop (xs.length*1)=os++ns:=by rw[Zv9 (by omega),List.drop_eq_nil_of_le (by omega),Zwn]
    rw[ht]at post;by_cases hr:xs.length+1≤cap
    ·exact(ZiM _ _ _ _ _ _ _ cb os ns w f1 hr hfit (by omega) hol fN hnl hcv eF.one).mono post
    ·exact(ZeT (ρ (.par 0)).b _ _ _ _ _ _ os ns w (by omega) hx (fun h=>by cases h) d0 hol (fun j v hj=>⟨_,rfl,by rw[Addr.add_lit];exact(cell_of_row w _ _ cb _ _ f1).trans (fN j v hj)⟩) hnl hcv).mono post
  ·have hx0:xs=[]:=List.length_eq_zero_iff.1 d0;subst hx0;have hi0:i=0:=Nat.le_zero.1 hi;subst hi0;have post:=fun e w' (h:Zbv 3 1 w.heap.size 0 ([]++ns) w e w')=>ZfV (ρ:=ρ) (B:=[(.par 0,.arr 3 1 []),(.par 1,.arr 3 1 [x])]) (by decide) h (ys:=[x]) eF rfl hmw.1 (.inr (Zv5 _)) (fun o=>by
    cases hv:m w.heap.size o with
    |none=>rfl
    |some v=>have:=ZaR (hmw.1 _ _ _ hv);omega)
   exact(ZeT w.heap.size _ 0 0 _ _ _ [] ns w (by omega) (by omega) (fun _=>⟨rfl,rfl⟩) (by omega) rfl (fun j v hj=>by simp at hj) hnl hcv).mono post
 ·cases c0
end
section
open Go.RowKit
set_option maxRecDepth 10000
attribute [local simp] AS.exp expG Box.ren AV.map AV.mapL Zaw noRet Site.isRet Box.allS AV.allS AV.allSL retB dropL AS.adds renL outG outOk Zau inG fnOf lookA Zww
attribute [local simp] Box.purge Site.isLoc
attribute [local simp] frzsL retOk renB toLoc
def bdQ (r:Except Int (List Int))(l:List Ct)(ls ts rn:PV)(a b c d e:PV):Prop:=∃l',r=.ok l'∧a=ctsP l∧b=bdsP l'∧c=ls∧d=ts∧e=rn
def bdJ (W:Box)(bad:List Int)(n:Int):AS:=⟨[(27,.ptr (.par 0) 0),(33,.vec (.loc 33 0) 1 0 bad.length),(34,.pv (.int .i64 (lowB bad n))),(38,.vec (.loc 38 0) 1 0 1)],[(.loc 33 0,.arr 3 1 (bad.map iP)),(.loc 38 0,.arr 3 1 [iP n]),(.par 0,W)]⟩
theorem bad_x (l:List Ct)(bad:List Int)(ls ts rn:PV)(n:Int)(hl:l.length≤1000)(hb:bad.length≤900)(hs:bad.Pairwise (·<·)):
  Za7 Tryz.prog 188 [.ptr (.par 0) 0,.pv (.lst false 1 [iP n])] [(.par 0,wkX (ctsP l) (bdsP bad) ls ts rn)] (okR (bdQ (badM l bad n) l ls ts rn)) (noR (fun e=>badM l bad n=.error e)):=by
 have hkc:=Zk2 l n (bdsP bad) ls ts rn hl;have hsc:=ZpM bad n hs (by omega);have hic:=Zvs (bad.map iP) (iP n) (lowB bad n) (by rw[Zv6];exact Zhz) (by rw[Zv6];omega);rw[←ZiN (f:=iP),Zv6]at hic;refine cX L188 ?_;generalize hE:(fun e=>badM l bad n=.error e)=E;generalize hQ:bdQ (badM l bad n) l ls ts rn=Q;unfold badM at hE hQ;generalize(l.any fun y=>decide (y.num=n))=kn at hE hQ hkc;show awpX _ (.seq _ (.seq _ (.seq _ _))) _ _ _;cases kn with
 |false=>
  have hE7:E 7:=by rw[←hE];rfl
  refine Zaq [_,_,_,_,_] ?_;simp[-getElem?_pos,hold,wkX,iP,ctsP];refine cM [.ptr (.par 0) 0,.pv (.int .i64 n)] [(.par 0,wkX (ctsP l) (bdsP bad) ls ts rn)] 10 [.par 0] (by simp[wkX,ctsP]) hkc (by simp[wkX]) ?_;simp[-getElem?_pos,hold,wkX];exact Zas (d:=99) [] (xs:=[.bool false,.int .i64 7]) (cs:=[]) rfl rfl (ask_f 7) rfl (fun x hx=>by rw[hx.1];exact panW hE7 rfl) (fun x B hx=>hx.2)
 |true=>
 rw[if_pos rfl]at hE hQ;refine Zao ?_;simp[-getElem?_pos,hold,wkX,iP,ctsP];refine cM [.ptr (.par 0) 0,.pv (.int .i64 n)] [(.par 0,wkX (ctsP l) (bdsP bad) ls ts rn)] 10 [.par 0] (by simp[wkX,ctsP]) hkc (by simp[wkX]) ?_;simp[-getElem?_pos,hold,wkX];refine cG [.bool true,.int .i64 7] (ask_t 7) ?_;simp[-getElem?_pos,hold];refine Zao ?_;simp[-getElem?_pos,hold,bdsP,iP];refine cG [.lst false 1 (bad.map iP),.int .i64 n] hsc ?_;simp[-getElem?_pos,hold];by_cases hm:n∈bad
 ·rw[if_pos hm]at hE;have hE6:E 6:=by rw[←hE]
  refine Zaq [_,_] ?_;simp[-getElem?_pos,hold,hm];exact Zas (d:=99) [] (xs:=[.bool false,.int .i64 6]) (cs:=[]) rfl rfl (ask_f 6) rfl (fun x hx=>by rw[hx.1];exact panW hE6 rfl) (fun x B hx=>hx.2)
 rw[if_neg hm]at hQ;refine Zao ?_;simp[-getElem?_pos,hold,hm];refine cG [.bool true,.int .i64 6] (ask_t 6) ?_;simp[-getElem?_pos,hold];refine Zb1 ?_;have hcl:=Zg2 (bad.map iP) (by rw[Zv6];omega);simp[-getElem?_pos,-List.map_cons,hold,bdsP,iP];refine ZbG (fun τ=>τ=bdJ (wkX (ctsP l) (bdsP bad) ls ts rn) bad n) ?_ ?_
 ·simp only[Zal,Zan];refine⟨?_,?_⟩
  ·simp[-getElem?_pos,-List.map_cons,hold];refine Zbh [] (fs:=[]) (xs:=[.lst false 1 (bad.map iP)]) (cs:=[]) rfl rfl hcl ?_;rintro r B (⟨h,rfl,rfl⟩|⟨rfl,rfl⟩)
   ·rw[List.map_eq_nil_iff]at h;subst h;simp[-getElem?_pos,Zal,Zan];exact Sub.trans' (Sub.mk (by simp[bdJ,AS.vecT]) (by simp[bdJ,AS.vecT,bdsP,wkX,iP,ctsP])) (vecT 33 3 1 33 rfl (by decide))
   ·simp[-getElem?_pos,Zal,Zan];exact Sub.mk (by simp[bdJ]) (by simp[bdJ,bdsP,wkX,iP,ctsP])
  ·refine⟨?_,trivial⟩;simp[-getElem?_pos,-List.map_cons,Zal,Zan,hold];refine Zbh [] (fs:=[]) (xs:=[.lst false 1 (bad.map iP)]) (cs:=[]) rfl rfl hcl ?_;rintro r B (⟨h,rfl,rfl⟩|⟨rfl,rfl⟩)
   ·rw[List.map_eq_nil_iff]at h;subst h;simp[-getElem?_pos,Zal,Zan];exact Sub.trans' (Sub.mk (by simp[bdJ,AS.vecT]) (by simp[bdJ,AS.vecT,bdsP,wkX,iP,ctsP])) (vecT 33 3 1 33 rfl (by decide))
   ·simp[-getElem?_pos,Zal,Zan];exact Sub.mk (by simp[bdJ]) (by simp[bdJ,bdsP,wkX,iP,ctsP])
 ·rintro τ rfl;simp[-getElem?_pos,bdJ,Zal,Zan];refine cL [.vec (.par 0) 1 0 bad.length,.pv (.int .i64 (lowB bad n)),.vec (.par 1) 1 0 1] [(.par 0,.arr 3 1 (bad.map iP)),(.par 1,.arr 3 1 [iP n])] 39 [.loc 33 0,.loc 38 0] (by simp) hic ?_
  rintro r0 B0 ⟨rfl,rfl⟩;refine⟨by simp,by simp,?_⟩;have hle:bad.length+1≤(insB bad (lowB bad n) n).length:=by rw[ZcN Zhz];exact Zv5 _
  have htk:List.take (bad.length+1) ((insB bad (lowB bad n) n).map iP)=(insB bad (lowB bad n) n).map iP:=Zv9 (by rw[Zv6,ZcN Zhz];exact Zv5 _);simp[-getElem?_pos,-List.map_cons,hold,wkX,Zal,Zan];refine retW (a:=ctsP l) (b:=bdsP (insB bad (lowB bad n) n)) (c:=ls) (d:=ts) (e:=rn) [.loc 39 0] ?_ ?_
  ·simp[frzL,AS.frz,AV.frz,AV.frzL,Box.frz,AS.tidy,AS.frzC,wkX,bdsP,htk,hle]
  ·rw[←hQ];exact⟨_,rfl,rfl,rfl,rfl,rfl,rfl⟩
def ltQ (r:Except Int (List Lt))(ct bd ts rn:PV)(a b c d e:PV):Prop:=∃l',r=.ok l'∧a=ct∧b=bd∧c=lotsP l'∧d=ts∧e=rn
def ltJ (W:Box)(ls:List Lt)(x:Lt):AS:=⟨[(34,.ptr (.par 0) 0),(40,.vec (.loc 40 0) 4 0 ls.length),(41,.pv (.int .i64 (lowB (ls.map Lt.num) x.num))),(52,.vec (.loc 52 0) 4 0 1)],[(.loc 40 0,.arr 68 4 (ls.map Lt.pv)),(.loc 52 0,.arr 68 4 [x.pv]),(.par 0,W)]⟩
theorem lot_x (ct bd ts rn:PV)(ls:List Lt)(n p q:Int)(hn:Zey n)(hl:ls.length≤900)(hs:(ls.map Lt.num).Pairwise (·<·))(hok:∀y∈ls,ltOk y):
  Za7 Tryz.prog 189 [.ptr (.par 0) 0,.pv (.lst false 1 [iP n,iP p,iP q])] [(.par 0,wkX ct bd (lotsP ls) ts rn)] (okR (ltQ (lotM ls ⟨n,p,q,false⟩) ct bd ts rn)) (noR (fun e=>lotM ls ⟨n,p,q,false⟩=.error e)):=by
 have hfc:=Zph ls n ct bd ts rn hs (by omega) (fun y hy=>by obtain⟨h1,h2,_⟩:=hok y hy;unfold Zey at hn;exact wrap64 (by omega));have hlo:=Zhz (l:=ls.map Lt.num) (x:=n);rw[Zv6]at hlo;have hic:=Zvr (ls.map Lt.pv) (Lt.pv ⟨n,p,q,false⟩) (lowB (ls.map Lt.num) n) (by rw[Zv6];exact hlo) (by rw[Zv6];omega);rw[←ZiN (f:=Lt.pv),Zv6]at hic;have w1:=ZbQ n 1 99;have w2:=ZbQ p 4 30;have w3:=ZbQ q 0 1000;refine cX L189 ?_;generalize hE:(fun e=>lotM ls ⟨n,p,q,false⟩=.error e)=E;generalize hQ:ltQ (lotM ls ⟨n,p,q,false⟩) ct bd ts rn=Q;unfold lotM at hE hQ;dsimp only at hE hQ;show awpX _ (.seq _ (.seq _ (.seq _ _))) _ _ _;generalize hc1:(decide (1≤n)&&decide (n≤99))=c1 at hE hQ w1;generalize hc2:(decide (4≤p)&&decide (p≤30))=c2 at hE hQ w2;generalize hc3:(decide (0≤q)&&decide (q≤1000))=c3 at hE hQ w3;by_cases hc:¬(c1=true∧c2=true∧c3=true)
 ·rw[if_neg hc]at hE;have hE2:E 2:=by rw[←hE]
  refine Zaq [_,_,_,_,_,_,_,_,_,_,_,_,_,_,_,_] ?_;simp[-getElem?_pos,hold,iP];refine cG [.int .i64 n,.int .i64 1,.int .i64 99] w1 ?_;cases c1 with
  |false=>
   simp[-getElem?_pos,hold];exact Zas (d:=99) [] (xs:=[.bool false,.int .i64 2]) (cs:=[]) rfl rfl (ask_f 2) rfl (fun x hx=>by rw[hx.1];exact panW hE2 rfl) (fun x B hx=>hx.2)
  |true=>
  simp[-getElem?_pos,hold];refine cG [.int .i64 p,.int .i64 4,.int .i64 30] w2 ?_;cases c2 with
  |false=>
   simp[-getElem?_pos,hold];exact Zas (d:=99) [] (xs:=[.bool false,.int .i64 2]) (cs:=[]) rfl rfl (ask_f 2) rfl (fun x hx=>by rw[hx.1];exact panW hE2 rfl) (fun x B hx=>hx.2)
  |true=>
  simp[-getElem?_pos,hold];refine cG [.int .i64 q,.int .i64 0,.int .i64 1000] w3 ?_;cases c3 with
  |false=>
   simp[-getElem?_pos,hold];exact Zas (d:=99) [] (xs:=[.bool false,.int .i64 2]) (cs:=[]) rfl rfl (ask_f 2) rfl (fun x hx=>by rw[hx.1];exact panW hE2 rfl) (fun x B hx=>hx.2)
  |true=>exact absurd ⟨rfl,rfl,rfl⟩ hc
 have hc:=Decidable.not_not.1 hc;rw[if_pos hc]at hE hQ;obtain⟨rfl,rfl,rfl⟩:=hc;refine Zao ?_;simp[-getElem?_pos,hold,iP];refine cG [.int .i64 n,.int .i64 1,.int .i64 99] w1 ?_;simp[-getElem?_pos,hold];refine cG [.int .i64 p,.int .i64 4,.int .i64 30] w2 ?_;simp[-getElem?_pos,hold];refine cG [.int .i64 q,.int .i64 0,.int .i64 1000] w3 ?_;simp[-getElem?_pos,hold];refine cG [.bool true,.int .i64 2] (ask_t 2) ?_;simp[-getElem?_pos,hold];refine Zao ?_;simp[-getElem?_pos,hold,wkX,lotsP];refine cM [.ptr (.par 0) 0,.pv (.int .i64 n)] [(.par 0,wkX ct bd (lotsP ls) ts rn)] 28 [.par 0] (by simp[wkX,lotsP]) hfc (by simp[wkX]) ?_;simp[-getElem?_pos,-List.mem_map,hold,wkX];by_cases hm:n∈ls.map Lt.num
 ·rw[if_pos hm]at hE;have hE6:E 6:=by rw[←hE]
  refine Zaq [_,_] ?_;simp[-getElem?_pos,-List.mem_map,hold,hm];exact Zas (d:=99) [] (xs:=[.bool false,.int .i64 6]) (cs:=[]) rfl rfl (ask_f 6) rfl (fun x hx=>by rw[hx.1];exact panW hE6 rfl) (fun x B hx=>hx.2)
 rw[if_neg hm]at hQ;refine Zao ?_;simp[-getElem?_pos,-List.mem_map,hold,hm];refine cG [.bool true,.int .i64 6] (ask_t 6) ?_;simp[-getElem?_pos,hold];refine Zb1 ?_;have hcl:=ZhR (ls.map Lt.pv) (by rw[Zv6];omega);simp[-getElem?_pos,hold,lotsP,iP,setAt];refine ZbG (fun τ=>τ=ltJ (wkX ct bd (lotsP ls) ts rn) ls ⟨n,p,q,false⟩) ?_ ?_
 ·simp only[Zal,Zan];refine⟨?_,?_⟩
  ·simp[-getElem?_pos,hold];refine Zbh [] (fs:=[]) (xs:=[.lst false 4 (ls.map Lt.pv)]) (cs:=[]) rfl rfl hcl ?_;rintro r B (⟨h,rfl,rfl⟩|⟨rfl,rfl⟩)
   ·rw[List.map_eq_nil_iff]at h;subst h;simp[-getElem?_pos,Zal,Zan];exact Sub.trans' (Sub.mk (by simp[ltJ,AS.vecT]) (by simp[ltJ,AS.vecT,wkX,lotsP,Lt.pv])) (vecT 40 68 4 40 rfl (by decide))
   ·simp[-getElem?_pos,Zal,Zan];exact Sub.mk (by simp[ltJ]) (by simp[ltJ,wkX,lotsP,Lt.pv])
  ·refine⟨?_,trivial⟩;simp[-getElem?_pos,Zal,Zan,hold];refine Zbh [] (fs:=[]) (xs:=[.lst false 4 (ls.map Lt.pv)]) (cs:=[]) rfl rfl hcl ?_;rintro r B (⟨h,rfl,rfl⟩|⟨rfl,rfl⟩)
   ·rw[List.map_eq_nil_iff]at h;subst h;simp[-getElem?_pos,Zal,Zan];exact Sub.trans' (Sub.mk (by simp[ltJ,AS.vecT]) (by simp[ltJ,AS.vecT,wkX,lotsP,Lt.pv])) (vecT 40 68 4 40 rfl (by decide))
   ·simp[-getElem?_pos,Zal,Zan];exact Sub.mk (by simp[ltJ]) (by simp[ltJ,wkX,lotsP,Lt.pv])
 ·rintro τ rfl;simp[-getElem?_pos,ltJ,Zal,Zan];refine cL [.vec (.par 0) 4 0 ls.length,.pv (.int .i64 (lowB (ls.map Lt.num) n)),.vec (.par 1) 4 0 1] [(.par 0,.arr 68 4 (ls.map Lt.pv)),(.par 1,.arr 68 4 [Lt.pv ⟨n,p,q,false⟩])] 53 [.loc 40 0,.loc 52 0] (by simp) hic ?_
  rintro r0 B0 ⟨rfl,rfl⟩;refine⟨by simp,by simp,?_⟩;have hle:ls.length+1≤(insB ls (lowB (ls.map Lt.num) n) ⟨n,p,q,false⟩).length:=by rw[ZcN hlo];exact Zv5 _
  have htk:List.take (ls.length+1) ((insB ls (lowB (ls.map Lt.num) n) ⟨n,p,q,false⟩).map Lt.pv)=(insB ls (lowB (ls.map Lt.num) n) ⟨n,p,q,false⟩).map Lt.pv:=Zv9 (by rw[Zv6,ZcN hlo];exact Zv5 _);simp[-getElem?_pos,hold,wkX,Zal,Zan];refine retW (a:=ct) (b:=bd) (c:=lotsP (insB ls (lowB (ls.map Lt.num) n) ⟨n,p,q,false⟩)) (d:=ts) (e:=rn) [.loc 53 0] ?_ ?_
  ·simp[frzL,AS.frz,AV.frz,AV.frzL,Box.frz,AS.tidy,AS.frzC,wkX,lotsP,htk,hle]
  ·rw[←hQ];exact⟨_,rfl,rfl,rfl,rfl,rfl,rfl⟩
end
section
open Go.RowKit
theorem ZvK (st:Wk)(hl:st.certs.length≤1000)(hb:st.bad.length≤900)(hs:st.bad.Pairwise (·<·)):BadOk st:=fun n _=>by
 refine(bad_x st.certs st.bad (lotsP st.lots) (ttsP st.tests) (runsP st.runs) n hl hb hs).mono ?_ ?_
 ·rintro r B ⟨rfl,a,b,c,d,e,rfl,l',h1,rfl,rfl,rfl,rfl,rfl⟩;exact⟨rfl,_,_,_,_,_,rfl,{ st with bad:=l' },by rw[h1];rfl,rfl⟩
 ·rintro x B ⟨m,rfl,h1,h2⟩;exact⟨m,rfl,by rw[h1];rfl,h2⟩
theorem Zvm (st:Wk)(hl:st.lots.length≤900)(hs:(st.lots.map Lt.num).Pairwise (·<·))(hok:∀y∈st.lots,ltOk y):LotOk st:=fun n p m hn _ _=>by
 refine(lot_x (ctsP st.certs) (bdsP st.bad) (ttsP st.tests) (runsP st.runs) st.lots n p m hn hl hs hok).mono ?_ ?_
 ·rintro r B ⟨rfl,a,b,c,d,e,rfl,l',h1,rfl,rfl,rfl,rfl,rfl⟩;exact⟨rfl,_,_,_,_,_,rfl,{ st with lots:=l' },by rw[h1];rfl,rfl⟩
 ·rintro x B ⟨m,rfl,h1,h2⟩;exact⟨m,rfl,by rw[h1];rfl,h2⟩
theorem Ze3 {F:Nat}(hF:407<F):ZhV WkI (doB F):=fun k st s hk h hs=>
 ⟨h.next s,doB_c hF st s (by omega) (h.ok (by omega)) (by have:=h.c;omega) (by have:=h.r;omega) h.s (ZvK st (by have:=h.c;omega) (by have:=h.b;omega) h.bs) (Zvm st (by have:=h.l;omega) h.s (fun x hx=>(h.lt x hx).1))⟩
theorem ZlC (k:Nat)(w:Wk)(hk:k≤50)(h:WkI k w):WkOk w:=h.ok (by omega)
theorem Zfc {F:Nat}(hF:407<F)(L:List ByteArray)(hl:L.length≤1000000):Gives Tryz.prog 15 [strsP L] (plyE (doB F) L):=ZvW (Ze3 hF) wk0_I ZlC L hl
theorem Zg4 {F:Nat}(hF:407<F)(L:List ByteArray)(hl:L.length≤1000000)(n:Int):Gives Tryz.prog 13 [strsP L,.int .i64 n] (wdrE (doB F) L n):=ZlB (Ze3 hF) wk0_I ZlC L hl n (fun k w hk h=>by have:=h.b;omega)
end
section
open Go.RowKit Go.Shelf
theorem ZrO:(Tryz.prog.info? 130).map (·.size)=some 2:=by kernel_rfl
theorem ZmA:∃j,Tryz.prog.info? 130=some j∧j.size≠0:=by
 obtain⟨j,h1,h2⟩:=Zv4.1 ZrO;exact⟨j,h1,by rw[h2];decide⟩
theorem ZrP:liesAt Tryz.prog Tryz.prog.depth 130 (2 / Tryz.prog.cellsOf 130) 0 130 1=true:=by kernel_rfl
set_option maxHeartbeats 1000000 in
set_option maxRecDepth 100000 in
theorem Zur (b:Nat)(v:Value)(w:World)(hb:w.heap[b]?=some (.cells #[.pointer (some ⟨b,0,none⟩),v] 130 (0,0))):
  Calls Tryz.prog 94 #[.pointer (some ⟨b,0,none⟩)] w fun e w'=>e=.returned (.tuple #[])∧w'=w:=by
 have h0:w.cell? ⟨b,0,none⟩=some (.pointer (some ⟨b,0,none⟩)):=by rw[Lib.cell_of_heap hb];rfl
 obtain⟨j,hj,_⟩:=ZmA;go_enter Tryz.func94,Tryz.ntmps94;go_wp2;rw[Lib.run_neq_ptr_same w _ Tryz.underlying128 hj];go_wp2;go_end0;exact⟨rfl,rfl⟩
set_option maxHeartbeats 1000000 in
set_option maxRecDepth 100000 in
theorem ZrG (b:Nat)(v:Value)(w:World)(hb:w.heap[b]?=some (.cells #[.pointer none,v] 130 (0,0))):
  Calls Tryz.prog 94 #[.pointer (some ⟨b,0,none⟩)] w fun e w'=>e=.returned (.tuple #[])∧w'=w.setCell ⟨b,0,none⟩ (.pointer (some ⟨b,0,none⟩)):=by
 have h0:w.cell? ⟨b,0,none⟩=some (.pointer none):=by rw[Lib.cell_of_heap hb];rfl
 have hfz:w.frozen? ⟨b,0,none⟩=false:=Lib.frozen_of_heap hb 0;have hsh:w.shape? b=some (130,2):=by simp[World.shape?,hb]
 obtain⟨j,hj,hjs⟩:=ZmA;go_enter Tryz.func94,Tryz.ntmps94;go_wp2;rw[Lib.run_to_unsafe w ⟨b,0,none⟩ Tryz.underlying128 Tryz.underlying225 hj hjs hsh (Nat.zero_lt_succ 1)];simp only[Result.andThen];rw[Oper.upon_value];go_wp2;rw[run_callFunc_extern Tryz.func146 (by kernel_rfl) (by kernel_rfl) (by kernel_rfl) (e:=Extern.AbiNoEscape.same) (by kernel_rfl)];rw[Lib.run_noEscape];simp only[Result.andThen];rw[Oper.upon_value];go_wp2;rw[Lib.run_from_unsafe w ⟨b,0,none⟩ Tryz.underlying225 Tryz.underlying128 hj hsh ZrP];simp only[Result.andThen];rw[Oper.upon_value];go_wp2;go_end0;exact⟨rfl,rfl⟩
set_option maxHeartbeats 2000000 in
set_option maxRecDepth 100000 in
theorem Zkx (b n cap:Nat)(ad:Option Addr)(ad':Option Addr)(n' cap':Nat)(s:ByteArray)(w w1 w2:World)(hcc:Calls Tryz.prog 94 #[.pointer (some ⟨b,0,none⟩)] w fun e w'=>e=.returned (.tuple #[])∧w'=w1)
  (hb1:w1.heap[b]?=some (.cells #[.pointer (some ⟨b,0,none⟩),.slice ad n cap] 130 (0,0))) (happ:∀ty,(Builtin.append_ #[76,9] ty #[.slice ad n cap,.string s]).run Tryz.prog w1=.ok (.slice ad' n' cap') w2)
  (hb2:w2.heap[b]?=some (.cells #[.pointer (some ⟨b,0,none⟩),.slice ad n cap] 130 (0,0))):
  Calls Tryz.prog 48 #[.pointer (some ⟨b,0,none⟩),.string s] w fun e w'=>e=.returned (.tuple #[.int .i64 s.size,.nilIface])∧w'=w2.setCell ⟨b,1,none⟩ (.slice ad' n' cap'):=by
 have c0:w1.cell? ⟨b,0,none⟩=some (.pointer (some ⟨b,0,none⟩)):=by rw[Lib.cell_of_heap hb1];rfl
 have c1:w1.cell? ⟨b,1,none⟩=some (.slice ad n cap):=by rw[Lib.cell_of_heap hb1];rfl
 have d0:w2.cell? ⟨b,0,none⟩=some (.pointer (some ⟨b,0,none⟩)):=by rw[Lib.cell_of_heap hb2];rfl
 have d1:w2.cell? ⟨b,1,none⟩=some (.slice ad n cap):=by rw[Lib.cell_of_heap hb2];rfl
 have f1:w2.frozen? ⟨b,1,none⟩=false:=Lib.frozen_of_heap hb2 1;have e112:∀args w,(callFunc 94 args).run Tryz.prog w=.ok (.enter 94 args) w:=enters_of Tryz.func94 (by kernel_rfl) rfl;go_enter Tryz.func48,Tryz.ntmps48;go_wp2_with (go_at_fn 94;refine hcc.mono ?_);rintro e w' ⟨rfl,rfl⟩;go_wp2_with (at_builtin;refine Lib.wpList_append_run _ rfl _ _ _ _ rfl _ _ rfl rfl _ _ (happ _) ?_);go_ret2;exact⟨rfl,rfl⟩
end
section
open Go.RowKit
theorem Keep.sub {bs cs:List Nat}{w w':World}(h:Keep bs w w')(hs:∀k∈bs,k∈cs):Keep cs w w':=⟨h.os,h.tape,h.output,h.size,fun k hk hn=>h.block k hk (fun hm=>hn (hs k hm))⟩
abbrev tBl:TypeId:=130
abbrev tU8:TypeId:=5
def ptrB (b:Nat):Value:=.pointer (some ⟨b,0,none⟩)
theorem Zlu {q:Loc}{m:Mem}{w w2:World}{l:List UInt8}{v0:Value}{g n c:Nat}{cur:Array Value}(hb2:w2.heap[q.b]?=some (.cells #[ptrB q.b,v0] tBl (0,0)))(hg2:w2.heap[g]?=some (.cells cur tU8 (0,0)))(hgb:g≠q.b)(hn:n=l.length)(hc0:0<c)
  (hnc:n≤c) (hcs:c≤cur.size) (hcm:c≤maxLen) (hel:∀(i:Nat) (b:UInt8),l[i]?=some b→cur[i]?=some (.int .u8 b.toNat)) (hk:Keep (q.b::Zbu q w) w w2) (hnew:g∈Zbu q w∨w.heap.size≤g):
  bldRd tBl tU8 l q m (w2.setCell ⟨q.b,1,none⟩ (.slice (some ⟨g,0,none⟩) n c))∧Keep (q.b::Zbu q w) w (w2.setCell ⟨q.b,1,none⟩ (.slice (some ⟨g,0,none⟩) n c))∧∀k∈Zbu q (w2.setCell ⟨q.b,1,none⟩ (.slice (some ⟨g,0,none⟩) n c)),k∈Zbu q w∨w.heap.size≤k:=by
 subst hn;obtain⟨c,rfl⟩:∃k,c=k+1:=⟨c-1,by omega⟩;rw[setCell_eq_setRow _ _ _ _ _ _ _ hb2];have h3:(w2.setRow q.b (#[ptrB q.b,v0].setIfInBounds 1 (.slice (some ⟨g,0,none⟩) l.length (c+1)))).heap[q.b]?=some (.cells #[ptrB q.b,.slice (some ⟨g,0,none⟩) l.length (c+1)] tBl (0,0)):=setRow_heap _ _ _ _ _ _ hb2;refine⟨⟨_,_,h3,.inr rfl,.inr ⟨g,c,cur,rfl,hgb,by rw[setRow_other _ _ _ _ hgb];exact hg2,hnc,hcs,hcm,hel⟩⟩,hk.trans ((Keep.setRow _ _ _).sub (fun k h=>by rw[Zwo]at h;subst h;exact Zwz ..)),fun k h=>?_⟩;rw[ZdM h3,Zwo]at h;subst h;exact hnew
theorem Zp9 {q:Loc}{m:Mem}{w:World}{l:List UInt8}(s:ByteArray)(hs:0<s.size)(hl:l.length+s.size≤1000000)(h:bldRd tBl tU8 l q m w):
  Calls Tryz.prog 48 #[ptrB q.b,.string s] w fun e w'=>e=.returned (.tuple #[.int .i64 s.size,.nilIface])∧bldRd tBl tU8 (l++s.data.toList) q m w'∧Keep (q.b::Zbu q w) w w'∧∀k∈Zbu q w',k∈Zbu q w∨w.heap.size≤k:=by
 obtain⟨p,v,hb,hp,hv⟩:=h;obtain⟨w1,hcc,hb1,hk1⟩:∃w1,(Calls Tryz.prog 94 #[ptrB q.b] w fun e w'=>e=.returned (.tuple #[])∧w'=w1)∧w1.heap[q.b]?=some (.cells #[ptrB q.b,v] tBl (0,0))∧Keep [q.b] w w1:=by
  rcases hp with rfl|rfl
  ·refine⟨_,ZrG q.b v w hb,?_,?_⟩
   ·rw[setCell_eq_setRow _ _ _ _ _ _ _ hb];exact setRow_heap _ _ _ _ _ _ hb
   ·rw[setCell_eq_setRow _ _ _ _ _ _ _ hb];exact Keep.setRow _ _ _
  ·exact⟨w,Zur q.b v w hb,hb,Keep.rfl' _ _⟩
 have hbl:q.b<w.heap.size:=(Zwr.1 hb).1;have hb1l:q.b<w1.heap.size:=(Zwr.1 hb1).1;have hsz:=hk1.size;have hk1':Keep (q.b::Zbu q w) w w1:=hk1.sub (fun k h=>by rw[Zwo]at h;subst h;exact Zwz ..);obtain⟨i,z,hi,hz,hz1,hz2,hz3⟩:∃i z,Tryz.prog.info? 5=some i∧i.zero=some z∧i.size=1∧i.bytes=1∧z.cells.size=1:=by
  have h:(Tryz.prog.info? 5).map (fun i=>(i.zero,i.size,i.bytes))=some (some (.int .u8 0),1,1):=by kernel_rfl
  cases h':Tryz.prog.info? 5 with
  |none=>rw[h']at h;simp at h
  |some i=>
   rw[h',Zwu,Option.some.injEq,Prod.mk.injEq,Prod.mk.injEq]at h;exact⟨i,_,rfl,h.1,h.2.1,h.2.2,rfl⟩
 have hstr:∀w',(Builtin.firstCells i.size s.size (.string s)).run Tryz.prog w'=.ok (Lib.strCells s).toArray w':=fun w'=>Lib.run_firstCells_string w' i.size s
 have hsl:=Lib.strCells_length s;have hdl:s.data.toList.length=s.size:=rfl;have hsg:∀(j:Nat) (b:UInt8),s.data.toList[j]?=some b→(Lib.strCells s)[j]?=some (.int .u8 b.toNat):=fun j b hj=>by
  unfold Lib.strCells;rw[Zv0,hj];rfl
 rcases hv with⟨rfl,rfl⟩|⟨g,c,cur,rfl,hgb,hg,h1,h2,h3,h4⟩
 ·have hrun:∀ty,(Builtin.append_ #[76,9] ty #[.slice none 0 0,.string s]).run Tryz.prog w1=_:=fun ty=>
   Zfh (P:=Tryz.prog) (w:=w1) (ty:=ty) Tryz.underlying76 Tryz.underlying9 hi hz none 0 0 s s.size rfl [] (Lib.strCells s) (fun w' _=>run_firstCells_none w' i.size 0 0 0) (fun w' _=>hstr w') (by omega) (by omega) (growslice_fits (by omega) (by rw[hz2];omega))
  have hge:=grownCap_ge w1 (0+s.size) 0 tU8;have hle:=grownCap_le_maxLen w1 (0+s.size) 0 tU8 (by unfold maxLen;omega);generalize grownCap w1 (0+s.size) 0 tU8=G at hrun hge hle;have hb2:(w1.drew.alloc (.cells (([]++Lib.strCells s).toArray++Builtin.zeroCells z.cells (G-(0+s.size))) tU8)).heap[q.b]?=some (.cells #[ptrB q.b,.slice none 0 0] tBl (0,0)):=by rw[heap_alloc_old w1.drew _ hb1l];exact hb1
  refine(Zkx q.b 0 0 none _ _ _ s w w1 _ hcc hb1 hrun hb2).mono ?_;rintro e w' ⟨rfl,rfl⟩;refine⟨rfl,Zlu hb2 (heap_alloc_new w1.drew _) (by show w1.heap.size≠q.b;omega) ?_ (by omega) hge ?_ hle (fun j b hj=>?_) (hk1'.trans ((Zen w1 _).trans (Keep.of_ext (Ext.al _ _) _))) (.inr hsz)⟩
  ·rw[Zv7,hdl];rfl
  ·rw[Array.size_append,Zwy,Zv7,size_zeroCells,hz3,hsl,List.length_nil];omega
  ·have hlt:=(Zv1.1 hj).1;rw[List.nil_append]at hj hlt ⊢;rw[Array.getElem?_append_left (by rw[Zwy,hsl];omega),ZwH];exact hsg j b hj
 ·have hgl:g<w.heap.size:=(Zwr.1 hg).1;have hg1:w1.heap[g]?=some (.cells cur tU8 (0,0)):=by rw[hk1.block g hgl (by simpa using hgb)];exact hg
  have hins:Zbu q w=[g]:=ZdM hb;by_cases hroom:l.length+s.size≤c+1
  ·have hrun:∀ty,(Builtin.append_ #[76,9] ty #[.slice (some ⟨g,0,none⟩) l.length (c+1),.string s]).run Tryz.prog w1=_:=fun ty=>
    Zhj (P:=Tryz.prog) (w:=w1) (ty:=ty) Tryz.underlying76 Tryz.underlying9 hi g 0 l.length (c+1) cur hg1 s s.size rfl (Lib.strCells s) (hstr w1) (Lib.strCells_oneCell s) hroom (by rw[hz1,hsl];omega)
   have hb2:(w1.setRow g (splice cur.toList (0+l.length*i.size) (Lib.strCells s)).toArray).heap[q.b]?=some (.cells #[ptrB q.b,.slice (some ⟨g,0,none⟩) l.length (c+1)] tBl (0,0)):=by rw[setRow_other _ _ _ _ (Ne.symm hgb)];exact hb1
   refine(Zkx q.b l.length (c+1) _ _ _ _ s w w1 _ hcc hb1 hrun hb2).mono ?_;rintro e w' ⟨rfl,rfl⟩;have hcl:cur.toList.length=cur.size:=Zwt;refine⟨rfl,Zlu hb2 (setRow_heap _ _ cur _ _ _ hg1) hgb ?_ (by omega) hroom ?_ h3 (fun j b hj=>?_) (hk1'.trans ((Keep.setRow _ _ _).sub (fun k h=>by rw[Zwo]at h;subst h;rw[hins];simp))) (.inl (by rw[hins];simp))⟩
   ·rw[Zv7,hdl]
   ·rw[Zwy,Zav (by rw[hz1,hsl];omega),hcl];exact h2
   ·rw[ZwH,Zap (by rw[hz1,hsl];omega),hz1,ZwC,Nat.mul_one,hsl];rw[ZwF]at hj;split at hj
    ·rename_i hlt;rw[if_pos hlt,ZwO];exact h4 j b hj
    ·rename_i hlt
     have:=(Zv1.1 hj).1
     rw[if_neg hlt,if_pos (by omega)];exact hsg _ b hj
  ·have hof:∀w',(∀A,w'.cell? A=w1.cell? A)→(Builtin.firstCells i.size l.length (.slice (some ⟨g,0,none⟩) l.length (c+1))).run Tryz.prog w'=.ok (l.map fun b=>Value.int .u8 b.toNat).toArray w':=fun w' hw=>by
    rw[hz1];refine run_firstCells_some (P:=Tryz.prog) w' 1 l.length ⟨g,0,none⟩ l.length (c+1) _ (by rw[Zv6];omega) (fun j u hj=>?_);rw[Zv0]at hj;obtain⟨b,hb',rfl⟩:=Zv4.1 hj;rw[Addr.add_lit,hw,ZwC];exact(cell_of_row w1 g j cur _ _ hg1).trans (h4 j b hb')
   have hrun:∀ty,(Builtin.append_ #[76,9] ty #[.slice (some ⟨g,0,none⟩) l.length (c+1),.string s]).run Tryz.prog w1=_:=fun ty=>
    Zfh (P:=Tryz.prog) (w:=w1) (ty:=ty) Tryz.underlying76 Tryz.underlying9 hi hz (some ⟨g,0,none⟩) l.length (c+1) s s.size rfl (l.map fun b=>Value.int .u8 b.toNat) (Lib.strCells s) hof (fun w' _=>hstr w') (by omega) (by omega) (growslice_fits (by omega) (by rw[hz2];omega))
   have hge:=grownCap_ge w1 (l.length+s.size) (c+1) tU8;have hle:=grownCap_le_maxLen w1 (l.length+s.size) (c+1) tU8 (by unfold maxLen;omega);generalize grownCap w1 (l.length+s.size) (c+1) tU8=G at hrun hge hle;have hb2:(w1.drew.alloc (.cells (((l.map fun b=>Value.int .u8 b.toNat)++Lib.strCells s).toArray++Builtin.zeroCells z.cells (G-(l.length+s.size))) tU8)).heap[q.b]?=some (.cells #[ptrB q.b,.slice (some ⟨g,0,none⟩) l.length (c+1)] tBl (0,0)):=by rw[heap_alloc_old w1.drew _ hb1l];exact hb1
   refine(Zkx q.b l.length (c+1) _ _ _ _ s w w1 _ hcc hb1 hrun hb2).mono ?_;rintro e w' ⟨rfl,rfl⟩;refine⟨rfl,Zlu hb2 (heap_alloc_new w1.drew _) (by show w1.heap.size≠q.b;omega) ?_ (by omega) hge ?_ hle (fun j b hj=>?_) (hk1'.trans ((Zen w1 _).trans (Keep.of_ext (Ext.al _ _) _))) (.inr hsz)⟩
   ·rw[Zv7,hdl]
   ·rw[Array.size_append,Zwy,Zv7,Zv6,size_zeroCells,hz3,hsl];omega
   ·have hlt:=(Zv1.1 hj).1;rw[Zv7,hdl]at hlt;rw[Array.getElem?_append_left (by rw[Zwy,Zv7,Zv6,hsl];omega),ZwH];rw[ZwF]at hj ⊢;rw[Zv6];split at hj
    ·rename_i h;rw[if_pos h,Zv0,hj];rfl
    ·rename_i h;rw[if_neg h];exact hsg _ b hj
end
section
open Go.RowKit Go.Sort
theorem Zpk {w w':World}(h:Below w.heap.size w w'):Ext w w':=⟨h.os,h.tape,h.output,h.size,h.block⟩
def joinB (xs:List ByteArray)(sep:ByteArray):ByteArray:=⟨(Lib.join (xs.map (·.data.toList)) sep.data.toList).toArray⟩
theorem Zvq (xs:List ByteArray)(sep:ByteArray)(h1:xs.length≤1000000)(hlen:(Lib.join (xs.map (·.data.toList)) sep.data.toList).length≤140737488355328):Gives Tryz.prog 102 [strsP xs,.str sep] (.str (joinB xs sep)):=by
 refine Zd4 ⟨_,_,Tryz.func102,by kernel_rfl,rfl⟩ fun w m vs hg hm hsz hrd=>?_
 obtain⟨v,u,rfl⟩:=arg2 hsz;obtain rfl:=Zer (hrd 1 u _ rfl rfl);have hv:=hrd 0 v _ rfl rfl;unfold strsP at hv;generalize hX:xs.map PV.str=X at hv;cases hv with
 |lst a cap nn n ys ds l0 l1 l2 l3 l4 l5 l6 l7=>
 cases xs with
 |nil=>
  subst hX;exact(Tryz.strings_Join_none a cap sep w).mono fun e w' ⟨k1,k2⟩=>⟨_,k1,k2▸Ext.rfl' _,.str _⟩
 |cons x0 r=>
  have hl:X.length=(x0::r).length:=by rw[←hX,Zv6]
  obtain⟨b,o,rfl,_⟩:=l5 0 (.str x0) (by rw[←hX];rfl);have hc:∀(j:Nat) x,(x0::r)[j]?=some x→w.cell? ⟨b,o+j,none⟩=some (.string x):=fun j x hj=>by
   have hXj:X[j]?=some (.str x):=by rw[←hX,Zv0,hj];rfl
   obtain⟨b',o',e,hat⟩:=l5 j _ hXj;cases e;obtain⟨q1,q2,_⟩:=l6 j _ hXj;obtain⟨d,hd⟩:∃d,(ds j)[0]?=some d:=⟨(ds j)[0]'(by omega),ZvZ _⟩;have hrd':=l7 j _ 0 d _ hXj hd rfl;obtain rfl:=Zer hrd'
   have:=hm _ _ _ (hat.get 0 _ hd)
   rw[Nat.mul_one,Nat.add_zero]at this;exact this
  have hb0:=hc 0 x0 rfl;rw[hl];exact(Tryz.strings_Join b o cap (x0::r) sep w hc (ZaR hb0) (by omega) (by omega) hlen).mono fun e w' ⟨k1,k2⟩=>⟨_,k1,Zpk k2,.str _⟩
end
section
open Go.RowKit
set_option maxRecDepth 10000
attribute [local simp] AS.exp expG Box.ren AV.map AV.mapL Zaw noRet Site.isRet Box.allS AV.allS AV.allSL retB dropL AS.adds renL outG outOk Zau inG fnOf lookA Zww
attribute [local simp] Box.purge Site.isLoc
attribute [local simp] retFz frzL AS.frz AV.frz AV.frzL Box.frz AS.tidy AS.frzC frzsL retOk renB toLoc
inductive Wd where
 |num (n:Int)
 |txt (s:ByteArray)
def Wd.pv:Wd→PV
 |.num n=>.iface 3 (.int .i64 n)
 |.txt s=>.iface 9 (.str s)
def Wd.b:Wd→ByteArray
 |.num n=>itoaB n
 |.txt s=>s
def Wd.ok:Wd→Prop
 |.num n=>-9223372036854775808≤n∧n≤9223372036854775807
 |.txt _=>True
def jnS (ws:List Wd)(k:Nat):AS:=
 ⟨[(3,.vec (.loc 22 0) 1 0 k),(8,.pv (.lst false 1 (ws.map Wd.pv))),(9,.pv (.int .i64 ws.length)),(10,.pv (.int .i64 (k:Int)))],[(.loc 22 0,.arr 9 1 (((ws.take k).map Wd.b).map .str))]⟩
theorem ZeR (ws:List Wd)(hl:ws.length≤1000)(hw:∀x∈ws,x.ok)(hlen:(Lib.join ((ws.map Wd.b).map (·.data.toList)) blank.data.toList).length≤140737488355328):Gives Tryz.prog 52 [.lst false 1 (ws.map Wd.pv)] (.str (joinB (ws.map Wd.b) blank)):=by
 have hjc:=Zvq (ws.map Wd.b) blank (by rw[Zv6];omega) hlen;refine cFR [] L52 ?_;intro R hR;simp[-getElem?_pos,L52];refine Zae (fun m τ=>∃k:Nat,k≤ws.length∧m=ws.length-k∧τ=jnS ws k) ⟨ws.length,jnS ws 0,Sub.trans' (Sub.mk (by simp[jnS,AS.vecT]) (by simp[jnS,AS.vecT])) (vecT 22 9 1 3 rfl (by decide)),0,Zwb _,rfl,rfl⟩ ?_;rintro J hJ m τ ⟨k,hk,rfl,rfl⟩;by_cases hlt:k<ws.length
 ·obtain⟨x,hx⟩:∃x,ws[k]?=some x:=⟨ws[k],ZvZ hlt⟩;have hg:(ws.map Wd.pv)[k]?=some x.pv:=by rw[Zv0,hx];rfl
  have hxo:=hw x (Zv3 hx);have hwk:=wrapK (k:=k) (by omega);have hk1:k+1≤1000000:=by omega
  have hmn:min k ws.length=k:=Nat.min_eq_left (by omega);have hn:=hJ (ws.length-(k+1)) _ ⟨k+1,hlt,rfl,rfl⟩;unfold jnS at hn;rw[Zwf,hx,Zwp,Zwp]at hn;have hmeas:ws.length-(k+1)<ws.length-k:=by omega
  have hll:(((ws.take k).map Wd.b).map PV.str).length=k:=by rw[Zv6,Zv6,Zv8];omega
  unfold jnS;generalize((ws.take k).map Wd.b).map PV.str=T at hn hll ⊢;cases x with
  |num n=>
   simp only[Wd.pv]at hg;simp[-getElem?_pos,-List.getElem?_map,hlt,hg,nblt,nble];refine cG [.int .i64 n] (ZoY n hxo) ?_;simp[-getElem?_pos,nble,hk1,hll,hwk];exact⟨_,_,hmeas,Sub.mk (by simp) (by simp[Wd.b]),hn⟩
  |txt s=>
   simp only[Wd.pv]at hg;simp[-getElem?_pos,-List.getElem?_map,hlt,hg,nblt,nble,hk1,hwk,hll];refine⟨_,_,hmeas,Sub.trans' (Sub.mk ?_ ?_) (mvV 22 3 (T++[.str s]) (s:=.loc 29 0) (e:=9) rfl rfl ?_ rfl),hn⟩
   ·simp[AS.mvV]
   ·simp[AS.mvV,Wd.b]
   ·simp[hll]
 ·have he:k=ws.length:=by omega
  subst he;have htk:ws.take ws.length=ws:=Zwm;unfold jnS;rw[htk];have hm:List.take ws.length ((ws.map Wd.b).map PV.str)=(ws.map Wd.b).map PV.str:=Zv9 (by simp);simp[-getElem?_pos,-List.map_map];refine .inl (cP [.loc 22 0] [strsP (ws.map Wd.b),.str blank] (by simp) (by simp[-List.map_map,strsP,blank,hm]) hjc ?_);simp[-getElem?_pos];rw[←hR];exact⟨rfl,rfl⟩
def manyS (S:Int→Int→Bool)(ts:List Tt)(n:Int):Nat:=(ts.filter fun t=>decide (t.lot=n)&&S t.item t.day).length
theorem Zm1 {S:Int→Int→Bool}{ts:List Tt}{n:Int}{k:Nat}{t:Tt}(h:ts[k]?=some t):manyS S (ts.take (k+1)) n=manyS S (ts.take k) n+(if(decide (t.lot=n)&&S t.item t.day)=true then 1 else 0):=by
 unfold manyS;rw[Zwf,h,ZwM,Zv7];congr 1;simp only[Option.toList,ZwJ,List.filter_nil];cases(decide (t.lot=n)&&S t.item t.day)<;>simp
theorem ZiB {S:Int→Int→Bool}{ts:List Tt}{n:Int}:manyS S ts n≤ts.length:=ZwN _ _
def tLot:ByteArray:=⟨#[108,111,116]⟩
def ZlI:ByteArray:=⟨#[116,101,115,116,115]⟩
def ZcP:ByteArray:=⟨#[112,97,115,115,101,100]⟩
def Zct:ByteArray:=⟨#[114,101,99,97,108,108,101,100]⟩
def joinW (ws:List Wd):ByteArray:=joinB (ws.map Wd.b) blank
def Zc8 (ws:List Wd):Prop:=(Lib.join ((ws.map Wd.b).map (·.data.toList)) blank.data.toList).length≤140737488355328
def lw0 (x:Lt)(many:Nat)(v:Int):List Wd:=[.txt tLot,.num x.num,.txt ZlI,.num many,.txt (saidB v)]
def lw1 (x:Lt)(many:Nat)(v:Int):ByteArray:=if x.passed=true then joinW [.txt (joinW (lw0 x many v)),.txt ZcP]else joinW (lw0 x many v)
def Zej (x:Lt)(many:Nat)(v:Int):ByteArray:=if(x.passed&&!decide (v=1))=true then joinW [.txt (lw1 x many v),.txt Zct]else lw1 x many v
def ldS (W:Box)(x:Lt)(S:Int→Int→Bool)(ts:List Tt)(k:Nat):AS:=
 ⟨[(0,.ptr (.par 0) 0),(3,.ptr (.loc 3 0) 0),(5,.pv (.int .i64 ((manyS S (ts.take k) x.num:Nat):Int))),(13,.pv (.lst false 4 (ts.map Tt.pv))),(14,.pv (.int .i64 ts.length)),(15,.pv (.int .i64 (k:Int)))],
  [(.loc 3 0,.cells [.pv (.int .i64 x.num),.pv (.int .i64 x.pieces),.pv (.int .i64 x.limit),.pv (.bool x.passed)]),(.par 0,W)]⟩
theorem ZqX (l:List Ct)(bad:List Int)(ls:PV)(ts:List Tt)(rn:PV)(x:Lt)(hl:l.length≤1000)(hb:bad.length≤1000)(ht:ts.length≤900)(hx:ltOk x)(hfit:spFit l bad ts)
  (j0:Zc8 (lw0 x (manyS (stM l bad) ts x.num) (verdL l bad ts x))) (j1:Zc8 [.txt (joinW (lw0 x (manyS (stM l bad) ts x.num) (verdL l bad ts x))),.txt ZcP]) (j2:Zc8 [.txt (lw1 x (manyS (stM l bad) ts x.num) (verdL l bad ts x)),.txt Zct]):
  Zak Tryz.prog 49 [.ptr (.par 0) 0,.pv x.pv] [(.par 0,wkX (ctsP l) (bdsP bad) ls (ttsP ts) rn)] (fun r B=>r=.pv (.str (Zej x (manyS (stM l bad) ts x.num) (verdL l bad ts x)))∧B=[(.par 0,wkX (ctsP l) (bdsP bad) ls (ttsP ts) rn)]):=by
 have hvc:=Zet l bad ls ts rn x hl hb ht hx.2.2.1 hx.2.2.2 hfit;have hvd:verdM (stM l bad) (gdM l bad x.limit) x.num ts []=verdL l bad ts x:=rfl;rw[hvd]at hvc;have hrc:=Zhi l bad ls ts rn x hl hb ht hx.2.2.1 hx.2.2.2 hfit;rw[Lt.pv]at hvc hrc;refine cBR [.par 0] L49 ?_;intro R hR;simp[-getElem?_pos,L49,wkX,Lt.pv,ttsP];refine Zae (fun m τ=>∃k:Nat,k≤ts.length∧m=ts.length-k∧τ=ldS (wkX (ctsP l) (bdsP bad) ls (ttsP ts) rn) x (stM l bad) ts k) ⟨ts.length,ldS (wkX (ctsP l) (bdsP bad) ls (ttsP ts) rn) x (stM l bad) ts 0,Sub.mk (by simp[ldS,manyS]) (by simp[ldS,wkX,ttsP]),0,Zwb _,rfl,rfl⟩ ?_;rintro J hJ m τ ⟨k,hk,rfl,rfl⟩;by_cases hlt:k<ts.length
 ·obtain⟨t,hxt⟩:∃t,ts[k]?=some t:=⟨ts[k],ZvZ hlt⟩;have hg:(ts.map Tt.pv)[k]?=some t.pv:=by rw[Zv0,hxt];rfl
  simp only[Tt.pv]at hg;have hw:=wrapK (k:=k) (by omega);have hm1:=ZiB (S:=stM l bad) (ts:=ts.take k) (n:=x.num);rw[Zv8]at hm1;have hw2:=wrapK (k:=manyS (stM l bad) (ts.take k) x.num) (by omega);have hmeas:ts.length-(k+1)<ts.length-k:=by omega
  have hn:=hJ (ts.length-(k+1)) _ ⟨k+1,hlt,rfl,rfl⟩;unfold ldS at hn;rw[Zm1 hxt]at hn;have hsc:=Zew l bad ls (ttsP ts) rn hl hb x.num t.item t.day t.rd;have e1:decide (((Zaj l bad).bestM t.item t.day).2=0)=stM l bad t.item t.day:=rfl;rw[e1]at hsc;clear e1;by_cases htl:t.lot=x.num
  ·rw[decide_eq_true htl,Bool.true_and]at hn;simp[-getElem?_pos,-List.getElem?_map,ldS,wkX,ttsP,hlt,hg,nblt,nble,setAt,htl];refine cM [.ptr (.par 0) 0,.pv (.agg [.int .i64 x.num,.int .i64 t.item,.int .i64 t.day,.int .i64 t.rd])] [(.par 0,wkX (ctsP l) (bdsP bad) ls (ttsP ts) rn)] 27 [.par 0] (by simp[wkX,bdsP,ttsP]) hsc (by simp[wkX]) ?_;cases hsv:stM l bad t.item t.day with
   |true=>
    rw[hsv,if_pos rfl]at hn;simp[-getElem?_pos,wkX,hw,hw2];exact⟨_,_,hmeas,Sub.mk (by simp) (by simp[wkX,ttsP,bdsP]),hn⟩
   |false=>
    rw[hsv,if_neg (by simp)]at hn;simp[-getElem?_pos,wkX,hw];exact⟨_,_,hmeas,Sub.mk (by simp) (by simp[wkX,ttsP,bdsP]),hn⟩
  ·rw[decide_eq_false htl,Bool.false_and,if_neg (by simp)]at hn;simp[-getElem?_pos,-List.getElem?_map,ldS,wkX,ttsP,hlt,hg,nblt,nble,setAt,htl,hw];exact⟨_,_,hmeas,Sub.mk (by simp) (by simp[wkX,ttsP,bdsP]),hn⟩
 have he:k=ts.length:=by omega
 subst he;unfold ldS;rw[Zwm];have hml:=ZiB (S:=stM l bad) (ts:=ts) (n:=x.num);generalize manyS (stM l bad) ts x.num=many at hml j0 j1 j2 hR ⊢;generalize verdL l bad ts x=v at hvc hrc j0 j1 j2 hR;simp[-getElem?_pos,wkX];refine ZbG (fun τ=>τ=⟨[(0,.ptr (.par 0) 0),(3,.ptr (.loc 3 0) 0),(32,.pv (.iface 9 (.str tLot))),(35,.pv (.iface 3 (.int .i64 x.num))),(36,.pv (.iface 9 (.str ZlI))),(38,.pv (.iface 3 (.int .i64 many))),(43,.pv (.iface 9 (.str (saidB v))))],[(.loc 3 0,.cells [.pv (.int .i64 x.num),.pv (.int .i64 x.pieces),.pv (.int .i64 x.limit),.pv (.bool x.passed)]),(.par 0,wkX (ctsP l) (bdsP bad) ls (ttsP ts) rn)]⟩) ?_ ?_
 ·simp[-getElem?_pos,Zal,Zan]
  repeat' apply And.intro
  all_goals
   refine cM [.ptr (.par 0) 0,.pv (.agg [.int .i64 x.num,.int .i64 x.pieces,.int .i64 x.limit,.bool x.passed])] [(.par 0,wkX (ctsP l) (bdsP bad) ls (ttsP ts) rn)] 41 [.par 0] (by simp[wkX,bdsP,ttsP]) hvc (by simp[wkX]) ?_;simp[-getElem?_pos,wkX,Zal,Zan]
   repeat' apply And.intro
   all_goals
    first
     |refine .inl (cQ [] [.int .u8 v] (Zss v) ?_)
     |refine cQ [] [.int .u8 v] (Zss v) ?_
    simp[-getElem?_pos,Zal,Zan]
    repeat' apply And.intro
    all_goals exact Sub.mk (by simp[tLot,ZlI]) (by simp[wkX,bdsP,ttsP])
 ·rintro τ rfl;simp[-getElem?_pos,Zal,Zan,wkX];have w0:=ZeR (lw0 x many v) (show(5:Nat)≤1000 by decide) (fun y hy=>by
   simp[lw0]at hy;rcases hy with rfl|rfl|rfl|rfl|rfl
   ·trivial
   ·have h1:=hx.1;have h2:=hx.2.1;exact⟨by omega,by omega⟩
   ·trivial
   ·exact⟨by omega,by omega⟩
   ·trivial) j0
  refine .inl (cP [.loc 44 0] [.lst false 1 ((lw0 x many v).map Wd.pv)] (by simp) (by simp[lw0,Wd.pv]) w0 ?_);have e0:joinB ((lw0 x many v).map Wd.b) blank=joinW (lw0 x many v):=rfl;rw[e0];unfold Zej lw1 at hR;unfold lw1 at j2;cases hp:x.passed with
  |false=>
   rw[hp]at hR hrc;rw[Bool.false_and]at hR hrc;rw[if_neg (by simp),if_neg (by simp)]at hR;generalize joinW (lw0 x many v)=s0 at hR;simp[-getElem?_pos];refine cM [.ptr (.par 0) 0,.pv (.agg [.int .i64 x.num,.int .i64 x.pieces,.int .i64 x.limit,.bool false])] [(.par 0,wkX (ctsP l) (bdsP bad) ls (ttsP ts) rn)] 55 [.par 0] (by simp[wkX,bdsP,ttsP]) hrc (by simp[wkX]) ?_;simp[-getElem?_pos,wkX];rw[←hR];exact⟨rfl,by simp[wkX,bdsP,ttsP]⟩
  |true=>
   rw[hp]at hR hrc j2;rw[Bool.true_and]at hR hrc;rw[if_pos rfl]at hR j2;generalize joinW (lw0 x many v)=s0 at hR j1 j2;have w1:=ZeR [.txt s0,.txt ZcP] (show(2:Nat)≤1000 by decide) (fun y hy=>by
    simp at hy;rcases hy with rfl|rfl<;>trivial) j1
   simp[-getElem?_pos];refine .inl (cP [.loc 51 0] [.lst false 1 ([Wd.txt s0,.txt ZcP].map Wd.pv)] (by simp) (by simp[Wd.pv,ZcP]) w1 ?_);have e1:joinB ([Wd.txt s0,.txt ZcP].map Wd.b) blank=joinW [.txt s0,.txt ZcP]:=rfl;rw[e1];generalize joinW [.txt s0,.txt ZcP]=s1 at hR j2;have w2:=ZeR [.txt s1,.txt Zct] (show(2:Nat)≤1000 by decide) (fun y hy=>by
    simp at hy;rcases hy with rfl|rfl<;>trivial) j2
   simp[-getElem?_pos];refine cM [.ptr (.par 0) 0,.pv (.agg [.int .i64 x.num,.int .i64 x.pieces,.int .i64 x.limit,.bool true])] [(.par 0,wkX (ctsP l) (bdsP bad) ls (ttsP ts) rn)] 55 [.par 0] (by simp[wkX,bdsP,ttsP]) hrc (by simp[wkX]) ?_;by_cases hv1:v=1
   ·rw[if_neg (by simp[hv1])]at hR;simp[-getElem?_pos,wkX,hv1];rw[←hR];exact⟨rfl,by simp[wkX,bdsP,ttsP]⟩
   ·rw[if_pos (by simp[hv1])]at hR;simp[-getElem?_pos,wkX,hv1];refine .inl (cP [.loc 59 0] [.lst false 1 ([Wd.txt s1,.txt Zct].map Wd.pv)] (by simp) (by simp[Wd.pv,Zct]) w2 ?_);simp[-getElem?_pos];rw[←hR];exact⟨rfl,by simp[wkX,bdsP,ttsP]⟩
end
section
open Go.RowKit Go.Shelf
abbrev bldX (l:List UInt8):Box:=.ext (bldE tBl tU8 l)
theorem ws_c (l:List UInt8)(s:ByteArray)(hs:0<s.size)(hl:l.length+s.size≤1000000):
  Zak Tryz.prog 48 [.ptr (.par 0) 0,.pv (.str s)] [(.par 0,bldX l)] (fun r B=>r=.pv (.tup [.int .i64 s.size,.nilif])∧B=[(.par 0,bldX (l++s.data.toList))]):=by
 refine⟨⟨_,_,Tryz.func48,by kernel_rfl,rfl⟩,fun w m ρ vs hB hmw hsz hrd=>?_⟩;obtain⟨v0,v1,rfl⟩:=arg2 (by simpa using hsz);have h0:=hrd 0 v0 _ rfl rfl;have h1:=(hrd 1 v1 _ rfl rfl).pv_inv;have hv0:v0=ptrB (ρ (.par 0)).b:=by cases h0;rfl
 have hv1:v1=.string s:=by cases h1;rfl
 subst hv0 hv1;obtain⟨hr,hbx⟩:=hB.bx (.par 0) _ rfl;have hlent:lentB ρ w [(.par 0,bldX l)]=(ρ (.par 0)).b::Zbu (ρ (.par 0)) w:=by simp[lentB,hr,ins,bldE]
 have look:∀s' bx,List.lookup s' [((.par 0:Site),bldX (l++s.data.toList))]=some bx→s'=.par 0∧bx=bldX (l++s.data.toList):=fun s' bx h=>by
  by_cases e:s'=.par 0
  ·subst e;rw[Zai]at h;cases h;exact⟨rfl,rfl⟩
  ·rw[Zad e]at h;cases h
 have hfree:=hB.free (by simp);rw[hlent]at hfree;refine(Zp9 (m:=m) s hs hl hbx).mono ?_;rintro e w' ⟨rfl,k1,k2,k3⟩;have hmw':Le m w'.mem:=fun a o v hv=>by
  have hw:=hmw.1 a o v hv;exact(World.cell?_of_block (a:=⟨a,o,none⟩) (k2.block a (ZaR hw) (fun h=>by rw[hfree a h o]at hv;cases hv))).trans hw
 have hblk:∀k,blk ρ w' (.par 0) (bldX (l++s.data.toList)) k→k∈(ρ (.par 0)).b::Zbu (ρ (.par 0)) w∨w.heap.size≤k:=fun k h=>by
  rcases h with⟨_,rfl⟩|h
  ·exact .inl (Zwz ..)
  ·rcases k3 k h with h|h
   ·exact .inl (ZwR _ h)
   ·exact .inr h
 refine⟨_,.pv (.tup [.int .i64 s.size,.nilif]),[(.par 0,bldX (l++s.data.toList))],ρ,m,rfl,⟨rfl,rfl⟩,⟨fun s' bx h=>?_,fun s' s'' bx bx' i h h' _ _=>?_,fun s' bx i h hb o=>?_⟩,Le.refl m,hmw',fun _=>rfl,fun s' bx i h hb=>?_,fun _ _ _ h=>.inl h,?_,?_⟩
 ·obtain⟨rfl,rfl⟩:=look s' bx h;exact⟨hr,k1⟩
 ·rw[(look s' bx h).1,(look s'' bx' h').1]
 ·obtain⟨rfl,rfl⟩:=look s' bx h;rcases hblk i hb with h|h
  ·exact hfree i h o
  ·cases hv:m i o with
   |none=>rfl
   |some v=>have:=ZaR (hmw.1 _ _ _ hv);omega
 ·obtain⟨rfl,rfl⟩:=look s' bx h;rw[hlent];exact(hblk i hb).symm
 ·refine .pv _ _ (.tup _ _ rfl (fun j d c h h'=>?_))
  match j,h,h' with
  |0,h,h'=>cases h;cases h';exact .int _ _
  |1,h,h'=>cases h;cases h';exact .nilif
 ·rw[hlent];exact k2
set_option maxHeartbeats 2000000 in
set_option maxRecDepth 100000 in
theorem Zqc (b g c:Nat)(p:Value)(cur:Array Value)(l:List UInt8)(w:World)(hbk:w.heap[b]?=some (.cells #[p,.slice (some ⟨g,0,none⟩) l.length (c+1)] 130 (0,0)))(h0:l≠[])
  (hg:w.heap[g]?=some (.cells cur 5 (0,0))) (hnc:l.length≤cur.size) (hcm:l.length≤maxLen) (hel:∀(i:Nat) (b:UInt8),l[i]?=some b→cur[i]?=some (.int .u8 b.toNat)):
  Calls Tryz.prog 54 #[.pointer (some ⟨b,0,none⟩)] w fun e w'=>e=.returned (.string ⟨l.toArray⟩)∧w'=w.drew.freeze ⟨g,0,none⟩ l.length:=by
 have c1:w.drew.cell? ⟨b,1,none⟩=some (.slice (some ⟨g,0,none⟩) l.length (c+1)):=by
  have:w.drew.heap[b]?=some (.cells #[p,.slice (some ⟨g,0,none⟩) l.length (c+1)] 130 (0,0)):=hbk
  rw[Lib.cell_of_heap this];rfl
 have hSD:∀ts ty,(Builtin.unsafeSliceData_ ts ty #[.slice (some ⟨g,0,none⟩) l.length (c+1)]).run Tryz.prog w.drew=.ok (.pointer (some ⟨g,0,none⟩)) w.drew:=fun ts ty=>
  Lib.run_unsafeSliceData_row _ _ _ _ _ _ (by omega)
 have hUS:∀ty,(Builtin.unsafeString_ #[189,3] ty #[.pointer (some ⟨g,0,none⟩),.int .i64 l.length]).run Tryz.prog w.drew=.ok (.string ⟨l.toArray⟩) (w.drew.freeze ⟨g,0,none⟩ l.length):=fun ty=>by
  refine Lib.run_unsafeString_row w.drew 189 3 ty 5 Tryz.underlying189 (by kernel_rfl) g cur.size (by have hg':w.drew.heap[g]?=some (.cells cur 5 (0,0)):=hg;simp[World.shape?,hg']) l h0 hnc (by unfold maxLen at hcm;omega) ?_;intro j x hx;rw[Addr.add_lit,ZwC];exact(cell_of_row w.drew g j cur _ _ hg).trans (hel j x hx)
 have mixed:=mixed;go_enter Tryz.func54,Tryz.ntmps54;go_wp2;go_region_o
 all_goals (go_wp2;go_ret;exact⟨rfl,rfl⟩)
theorem str_c (l:List UInt8)(h0:l≠[]):
  Zak Tryz.prog 54 [.ptr (.par 0) 0] [(.par 0,bldX l)] (fun r B=>r=.pv (.str ⟨l.toArray⟩)∧B=[]):=by
 refine⟨⟨_,_,Tryz.func54,by kernel_rfl,rfl⟩,fun w m ρ vs hB hmw hsz hrd=>?_⟩;obtain⟨v0,rfl⟩:=arg1 (by simpa using hsz);have h0':=hrd 0 v0 _ rfl rfl;have hv0:v0=.pointer (some ⟨(ρ (.par 0)).b,0,none⟩):=by cases h0';rfl
 subst hv0;obtain⟨hr,hbx⟩:=hB.bx (.par 0) _ rfl;have hlent:lentB ρ w [(.par 0,bldX l)]=(ρ (.par 0)).b::Zbu (ρ (.par 0)) w:=by simp[lentB,hr,ins,bldE]
 have hfree:=hB.free (by simp);rw[hlent]at hfree;obtain⟨p,v,hb,_,⟨_,h⟩|⟨g,c,cur,rfl,hgb,hg,h1,h2,h3,h4⟩⟩:=hbx
 ·exact absurd h h0
 have hins:Zbu (ρ (.par 0)) w=[g]:=ZdM hb;rw[hins]at hlent hfree;refine(Zqc (ρ (.par 0)).b g c p cur l w hb h0 hg (by omega) (by omega) h4).mono ?_;rintro e w' ⟨rfl,rfl⟩;have hk:Keep [g] w (w.drew.freeze ⟨g,0,none⟩ l.length):=by
  unfold World.freeze;split
  ·exact Zen w _
  ·exact⟨rfl,rfl,rfl,by rw[Array.size_modify];exact Zv5 _,fun k hk hn=>by
    have hne:g≠k:=fun e=>hn (by simp[e])
    simp only[Array.getElem?_modify];rw[if_neg hne];rfl⟩
 refine⟨_,.pv (.str ⟨l.toArray⟩),[],ρ,m,rfl,⟨rfl,rfl⟩,Bxs.nil _ _ _,Le.refl m,fun a o v hv=>?_,fun _=>rfl,fun s' bx i h hb=>by simp[List.lookup]at h,fun _ _ _ h=>.inl h,.pv _ _ (.str _),?_⟩
 ·have hw:=hmw.1 a o v hv;exact(World.cell?_of_block (a:=⟨a,o,none⟩) (hk.block a (ZaR hw) (fun h=>by rw[hfree a (ZwR _ h) o]at hv;cases hv))).trans hw
 ·rw[hlent];exact hk.sub (fun k h=>ZwR _ h)
end
section
open Go.RowKit
def ZnF:ByteArray:=⟨#[99,101,114,116,115]⟩
def tHeld:ByteArray:=⟨#[104,101,108,100]⟩
def tBad:ByteArray:=⟨#[98,97,100]⟩
def tEnd:ByteArray:=⟨#[101,110,100]⟩
def lineB (w:Wk)(x:Lt):ByteArray:=Zej x (manyS (stM w.certs w.bad) w.tests x.num) (verdL w.certs w.bad w.tests x)
def repT (w:Wk)(k:Nat):List UInt8:=(w.lots.take k).flatMap fun x=>(lineB w x).data.toList++[10]
def heldN (w:Wk):Nat:=((Zaj w.certs w.bad).heldM []).1.length
def endN (F:Nat)(w:Wk):Int:=match(ZaV w.runs).earlP F with
 |.tup [_,.int _ y,_]=>y
 |_=>0
def ctW (w:Wk):List Wd:=[.txt ZnF,.num w.certs.length,.txt tHeld,.num (heldN w),.txt tBad,.num w.bad.length]
def repL (F:Nat)(w:Wk):List UInt8:=repT w w.lots.length++((joinW (ctW w)).data.toList++[10])++((joinW [.txt tEnd,.num (endN F w)]).data.toList++[10])
def rptE (F:Nat)(L:List ByteArray):PV:=if Zbn L=0 then .tup [.str ⟨(repL F (foldD (doB F) wk0 L).1).toArray⟩,.int .i64 0]else .tup [.str ⟨#[]⟩,.int .i64 3]
theorem Zjo {w:Wk}{k:Nat}{x:Lt}(h:w.lots[k]?=some x):repT w (k+1)=repT w k++((lineB w x).data.toList++[10]):=by
 unfold repT;rw[Zwf,h,List.flatMap_append];simp
theorem ZgL (x:Wd)(r:List Wd):(Lib.join (((x::r).map Wd.b).map (·.data.toList)) blank.data.toList).length=r.length+(x.b.size+(r.map fun y=>y.b.size).sum):=by
 rw[Zwd,Zwd,Lib.join_length]
 have:∀l:List Wd,Lib.lens ((l.map Wd.b).map (·.data.toList))=(l.map fun y=>y.b.size).sum:=fun l=>by
  unfold Lib.lens;rw[List.map_map,List.map_map];rfl
 have h2:=this (x::r);rw[Zwd,Zwd]at h2;rw[h2,Zv6,Zv6];simp[blank]
theorem Zc7 (x:Wd)(r:List Wd):(joinW (x::r)).size=r.length+(x.b.size+(r.map fun y=>y.b.size).sum):=by
 rw[←ZgL];rfl
theorem Zcp (n:Int)(h0:-9223372036854775808≤n)(h1:n≤9223372036854775807):(itoaB n).size≤21:=Lib.itoa_length_le n h0 h1
theorem ZmS (v:Int):(saidB v).size≤8:=by
 unfold saidB;split
 ·exact Zv5 8
 ·split
  ·exact Zv5 8
  ·exact ZvY rfl
theorem ZqT (x:Lt)(hx:ltOk x)(many:Nat)(hm:many≤1000)(v:Int):(joinW (lw0 x many v)).size≤62:=by
 unfold lw0;rw[Zc7];have h1:=Zcp x.num (by have:=hx.1;omega) (by have:=hx.2.1;omega);have h2:=Zcp many (by omega) (by omega);have h3:=ZmS v;have e1:tLot.size=3:=rfl;have e2:ZlI.size=5:=rfl;simp[Wd.b];omega
theorem ZjH (x:Lt)(hx:ltOk x)(many:Nat)(hm:many≤1000)(v:Int):
  Zc8 (lw0 x many v)∧Zc8 [.txt (joinW (lw0 x many v)),.txt ZcP]∧Zc8 [.txt (lw1 x many v),.txt Zct]∧(Zej x many v).size≤100:=by
 have h0:=ZqT x hx many hm v;have e1:ZcP.size=6:=rfl;have e2:Zct.size=8:=rfl;have h1:(lw1 x many v).size≤70:=by
  unfold lw1;split
  ·rw[Zc7];simp[Wd.b];omega
  ·omega
 refine⟨?_,?_,?_,?_⟩
 ·have:(Lib.join (((lw0 x many v).map Wd.b).map (·.data.toList)) blank.data.toList).length=(joinW (lw0 x many v)).size:=rfl
  unfold Zc8;omega
 ·unfold Zc8;rw[ZgL];simp[Wd.b];omega
 ·unfold Zc8;rw[ZgL];simp[Wd.b];omega
 ·unfold Zej;split
  ·rw[Zc7];simp[Wd.b];omega
  ·omega
theorem Zhy (S:Int→Int→Bool)(ts:List Tt)(n:Int)(h:ts.length≤900):manyS S ts n≤1000:=by
 have:=ZiB (S:=S) (ts:=ts) (n:=n)
 omega
theorem Zif {w:Wk}(hok:WkOk w):∀k,(repT w k).length≤k*101
 |0=>Zv5 0
 |k+1=>by
  have ih:=Zif hok k;cases h:w.lots[k]? with
  |none=>unfold repT at ih ⊢;rw[Zwf,h];simp at ih ⊢;omega
  |some x=>
   rw[Zjo h,Zv7,Zv7];have h2:=(ZjH x (hok.lt x (Zv3 h)) _ (Zhy (stM w.certs w.bad) w.tests x.num hok.t) (verdL w.certs w.bad w.tests x)).2.2.2
   have:(lineB w x).data.toList.length=(lineB w x).size:=rfl
   have e:(lineB w x).size≤100:=h2;simp only[Zws,List.length_nil];omega
theorem Zrt (w:Wk)(h1:w.certs.length≤1000)(h2:w.bad.length≤1000)(h3:heldN w≤1000000):Zc8 (ctW w)∧(joinW (ctW w)).size≤90:=by
 have a1:=Zcp w.certs.length (by omega) (by omega);have a2:=Zcp w.bad.length (by omega) (by omega);have a3:=Zcp (heldN w) (by omega) (by omega);have e1:ZnF.size=5:=rfl;have e2:tHeld.size=4:=rfl;have e3:tBad.size=3:=rfl;have h:(joinW (ctW w)).size≤90:=by
  unfold ctW;rw[Zc7];simp[Wd.b];omega
 refine⟨?_,h⟩
 have:(Lib.join (((ctW w).map Wd.b).map (·.data.toList)) blank.data.toList).length=(joinW (ctW w)).size:=rfl
 unfold Zc8;omega
theorem Zrn (n:Int)(h0:-9223372036854775808≤n)(h1:n≤9223372036854775807):Zc8 [.txt tEnd,.num n]∧(joinW [.txt tEnd,.num n]).size≤30:=by
 have a1:=Zcp n h0 h1;have e1:tEnd.size=3:=rfl;have h:(joinW [.txt tEnd,.num n]).size≤30:=by
  rw[Zc7];simp[Wd.b];omega
 refine⟨?_,h⟩
 have:(Lib.join (([Wd.txt tEnd,.num n].map Wd.b).map (·.data.toList)) blank.data.toList).length=(joinW [.txt tEnd,.num n]).size:=rfl
 unfold Zc8;omega
end
section
open Go.RowKit
set_option maxRecDepth 10000
attribute [local simp] AS.exp expG Box.ren AV.map AV.mapL Zaw noRet Site.isRet Box.allS AV.allS AV.allSL retB dropL AS.adds renL outG outOk Zau inG fnOf lookA Zww
attribute [local simp] Box.purge Site.isLoc
attribute [local simp] retFz frzL AS.frz AV.frz AV.frzL Box.frz AS.tidy AS.frzC frzsL retOk renB toLoc
theorem Ztv (x:ByteArray):(x++(⟨#[10]⟩:ByteArray)).data.toList=x.data.toList++[10]:=by
 rw[ByteArray.data_append,Array.toList_append]
theorem put_c (l:List UInt8)(x:ByteArray)(hl:l.length+(x.size+1)≤1000000):
  Zak Tryz.prog 47 [.pv (.str x),.ptr (.par 0) 0] [(.par 0,bldX l)] (fun r B=>r=.pv (.tup [])∧B=[(.par 0,bldX (l++(x.data.toList++[10])))]):=by
 have hsz:(x++(⟨#[10]⟩:ByteArray)).size=x.size+1:=by rw[ByteArray.size_append];rfl
 have hw:=ws_c l (x++⟨#[10]⟩) (by omega) (by omega);rw[Ztv]at hw;refine cB [.par 0] L47 ?_;have hble:(x.size+ByteArray.size ⟨#[10]⟩).ble 9223372036854775807=true:=by
  rw[Nat.ble_eq]
  have:ByteArray.size ⟨#[10]⟩=1:=rfl
  omega
 simp[-getElem?_pos,L47,hble];generalize x++(⟨#[10]⟩:ByteArray)=y at hw ⊢;refine cM [.ptr (.par 0) 0,.pv (.str y)] [(.par 0,bldX l)] 5 [.par 0] (by simp) hw (by simp) ?_;simp[-getElem?_pos]
theorem Zuf {F:Nat}(w:Wk):0≤endN F w∧endN F w≤40:=by
 unfold endN Qn.Qu.earlP;by_cases hc:(ZaV w.runs).check≠0
 ·rw[if_pos hc];exact⟨Int.le_refl 0,show(0:Int)≤40 by decide⟩
 ·rw[if_neg hc];cases hl:(ZaV w.runs).layP F with
  |none=>exact⟨Int.le_refl 0,show(0:Int)≤40 by decide⟩
  |some p=>
   have:=(Qn.layM_PW (Qn.Qu.ok_of (Decidable.not_not.1 hc)) _ _ _ Qn.PW.nil (Qn.units_lt (q:=ZaV w.runs)) p hl).l
   exact⟨by simp,by simp;omega⟩
theorem Zmn (w:Wk):heldN w≤1000000:=by
 have h:=Zrb (b:=Zaj w.certs w.bad) (bad:=[]);unfold heldN Bk.heldM;split
 ·split
  ·exact Zwh h (by decide)
  ·exact Zwb _
 ·exact Zwb _
def rpS (w:Wk)(k:Nat):AS:=
 ⟨[(5,.ptr (.loc 23 0) 0),(7,.ptr (.loc 7 0) 0),(8,.fn 47 [] [.ptr (.loc 7 0) 0]),(31,.pv (lotsP w.lots)),(32,.pv (.int .i64 w.lots.length)),(33,.pv (.int .i64 (k:Int)))],
  [(.loc 23 0,w.box),(.loc 7 0,bldX (repT w k))]⟩
theorem Zsm {F:Nat}(hF:407<F)(L:List ByteArray)(hl:L.length≤1000000):Gives Tryz.prog 24 [strsP L] (rptE F L):=by
 have hch:=Zep L hl;refine cSR L24 ?_;intro R hR;unfold rptE at hR;by_cases hc:Zbn L=0
 ·obtain⟨hl5,hs2⟩:=Ze8 hc;rw[hc]at hch;have hpc:=ZlX (Ze3 hF) wk0_I L (by omega) hs2;have hok:=ZlC _ _ (by omega) (Zda (Ze3 hF) (l:=L) (by omega) wk0_I hs2);rw[if_pos hc]at hR;generalize foldD (doB F) wk0 L=q at hpc hok hR;obtain⟨w,es⟩:=q;dsimp only at hpc hok hR;have hlo:=hok.l;simp[-getElem?_pos,L24];refine cG [strsP L] hch ?_;simp[-getElem?_pos];refine .inl (Zbh [] (fs:=[]) (xs:=[strsP L]) (cs:=[]) (d:=23) rfl rfl hpc ?_);rintro r B ⟨rfl,rfl⟩;refine⟨by simp[Wk.box,wkX],?_⟩;simp[-getElem?_pos,Wk.box,wkX,lotsP];refine Zae (fun m τ=>∃k:Nat,k≤w.lots.length∧m=w.lots.length-k∧τ=rpS w k) ⟨w.lots.length,rpS w 0,Sub.mk (by simp[rpS,lotsP]) (by simp[rpS,Wk.box,wkX,lotsP];simp[repT]),0,Zwb _,rfl,rfl⟩ ?_;rintro J hJ m τ ⟨k,hk,rfl,rfl⟩;by_cases hlt:k<w.lots.length
  ·obtain⟨x,hx⟩:∃x,w.lots[k]?=some x:=⟨w.lots[k],ZvZ hlt⟩;have hg:(w.lots.map Lt.pv)[k]?=some x.pv:=by rw[Zv0,hx];rfl
   have hxo:=hok.lt x (Zv3 hx);obtain⟨j0,j1,j2,hsz⟩:=ZjH x hxo _ (Zhy (stM w.certs w.bad) w.tests x.num hok.t) (verdL w.certs w.bad w.tests x);have hrc:=ZqX w.certs w.bad (lotsP w.lots) w.tests (runsP w.runs) x hok.c hok.b hok.t hxo hok.fit j0 j1 j2;have hrl:=Zif hok k;have hpt:=put_c (repT w k) (lineB w x) (by unfold lineB;omega);rw[←Zjo hx]at hpt;unfold lineB at hpt;simp only[Lt.pv]at hg;rw[Lt.pv]at hrc;have hw:=wrapK (k:=k) (by omega);have hn:=hJ (w.lots.length-(k+1)) _ ⟨k+1,hlt,rfl,rfl⟩;have hmeas:w.lots.length-(k+1)<w.lots.length-k:=by omega
   generalize Zej x (manyS (stM w.certs w.bad) w.tests x.num) (verdL w.certs w.bad w.tests x)=s at hrc hpt;simp[-getElem?_pos,-List.getElem?_map,rpS,Wk.box,wkX,lotsP,hlt,hg,nblt,nble,setAt];refine cM [.ptr (.par 0) 0,.pv (.agg [.int .i64 x.num,.int .i64 x.pieces,.int .i64 x.limit,.bool x.passed])] [(.par 0,wkX (ctsP w.certs) (bdsP w.bad) (lotsP w.lots) (ttsP w.tests) (runsP w.runs))] 40 [.loc 23 0] (by simp[wkX,lotsP]) hrc (by simp[wkX]) ?_;simp[-getElem?_pos,wkX];refine cM [.pv (.str s),.ptr (.par 0) 0] [(.par 0,bldX (repT w k))] 41 [.loc 7 0] (by simp) hpt (by simp) ?_;simp[-getElem?_pos,nble,hw];exact⟨_,_,hmeas,Sub.mk (by simp[rpS,lotsP]) (by simp[rpS,Wk.box,wkX,lotsP]),hn⟩
  ·have he:k=w.lots.length:=by omega
   subst he;have hrl:=Zif hok w.lots.length;have hri:=Zie w.certs w.bad (lotsP w.lots) (ttsP w.tests) (runsP w.runs) hok.c hok.b;have hhe:Zak Tryz.prog 50 ([(Zaj w.certs w.bad).pv,.emp (some true)].map .pv) [] (fun r B=>r=.pv (lstE ((Zaj w.certs w.bad).heldM []))∧B=[]):=by
    refine Zak.weakArgs (xs:=[(Zaj w.certs w.bad).pv,.emp (some true)]) (ys:=[(Zaj w.certs w.bad).pv,.lst false 1 ([].map intP)]) (ZvX (Zaj w.certs w.bad) (show ZaE.length≤1000 by decide) (Zwh (ZwN _ _) hok.c) [] (Zwb _)) rfl ?_;intro j x y m v h1 h2 hr
    match j with
    |0=>simp at h1 h2;subst h1 h2;exact hr
    |1=>simp at h1 h2;subst h1 h2;exact ZbM hr
    |j+2=>simp at h1
   have hjc:=Zrt w hok.c hok.b (Zmn w);have hct:=ZeR (ctW w) (show(6:Nat)≤1000 by decide) (fun y hy=>by
    have h1:=hok.c;have h2:=hok.b;have h3:=Zmn w;simp[ctW]at hy;rcases hy with rfl|rfl|rfl|rfl|rfl|rfl
    ·trivial
    ·exact⟨by omega,by omega⟩
    ·trivial
    ·exact⟨by omega,by omega⟩
    ·trivial
    ·exact⟨by omega,by omega⟩) hjc.1
   have ebd:=Zuf (F:=F) w;have hje:=Zrn (endN F w) (by omega) (by omega);have hed:=ZeR [.txt tEnd,.num (endN F w)] (show(2:Nat)≤1000 by decide) (fun y hy=>by
    simp at hy;rcases hy with rfl|rfl
    ·trivial
    ·exact⟨by omega,by omega⟩) hje.1
   have eC:joinB ((ctW w).map Wd.b) blank=joinW (ctW w):=rfl;have eE:joinB ([Wd.txt tEnd,.num (endN F w)].map Wd.b) blank=joinW [.txt tEnd,.num (endN F w)]:=rfl;rw[eC]at hct;rw[eE]at hed;have p1:=put_c (repT w w.lots.length) (joinW (ctW w)) (by omega);have p2:=put_c (repT w w.lots.length++((joinW (ctW w)).data.toList++[10])) (joinW [.txt tEnd,.num (endN F w)]) (by
    have:(joinW (ctW w)).data.toList.length=(joinW (ctW w)).size:=rfl
    simp only[Zv7,Zws,List.length_nil];omega)
   have hst:=str_c (repL F w) (by unfold repL;simp);have hqc:=Zoj (w.runs.map Qn.Rq.pv) (ctsP w.certs) (bdsP w.bad) (lotsP w.lots) (ttsP w.tests);have hec:=Qn.earliest_c hF (ZaV w.runs) (show(2:Nat)≤1000000 by decide) (show w.runs.length≤1000000 by have:=hok.r;omega) (fun l hl=>by
    simp[ZaV]at hl;rcases hl with rfl|rfl<;>decide)
   obtain⟨ex,ee,hee⟩:∃x e,(ZaV w.runs).earlP F=.tup [x,.int .i64 (endN F w),.int .i64 e]:=by
    obtain⟨x,y,h⟩:=Zpp F (ZaV w.runs);exact⟨x,_,by rw[h];unfold endN;rw[h]⟩
   rw[hee]at hec;clear hee hrl hjc hje eC eE;unfold repL at hst hR;generalize hCW:joinW (ctW w)=cw at *;generalize hEW:joinW [.txt tEnd,.num (endN F w)]=ew at *;generalize hRT:repT w w.lots.length=rt at *;simp[-getElem?_pos,rpS,Wk.box,wkX,hRT];refine cM [.ptr (.par 0) 0] [(.par 0,wkX (ctsP w.certs) (bdsP w.bad) (lotsP w.lots) (ttsP w.tests) (runsP w.runs))] 45 [.loc 23 0] (by simp[wkX,bdsP]) hri (by simp[wkX]) ?_;simp[-getElem?_pos,wkX];refine .inl (cQ [] [(Zaj w.certs w.bad).pv,.emp (some true)] hhe ?_);simp[-getElem?_pos,lstE,ctsP];refine .inl (cP [.loc 70 0] [.lst false 1 ((ctW w).map Wd.pv)] (by simp) (by simp[ctW,Wd.pv,ZnF,tHeld,tBad,heldN]) hct ?_);simp[-getElem?_pos];refine cM [.pv (.str cw),.ptr (.par 0) 0] [(.par 0,bldX rt)] 72 [.loc 7 0] (by simp) p1 (by simp) ?_;simp[-getElem?_pos];refine cM [.ptr (.par 0) 0] [(.par 0,wkX (ctsP w.certs) (bdsP w.bad) (lotsP w.lots) (ttsP w.tests) (.lst false 3 (w.runs.map Qn.Rq.pv)))] 75 [.loc 23 0] (by simp[wkX,bdsP,runsP,ctsP]) hqc (by simp[wkX,ZhB]) ?_;simp[-getElem?_pos,wkX];refine .inl (cQ [] [(ZaV w.runs).pv] hec ?_);simp[-getElem?_pos];refine .inl (cP [.loc 84 0] [.lst false 1 ([Wd.txt tEnd,.num (endN F w)].map Wd.pv)] (by simp) (by simp[Wd.pv,tEnd]) hed ?_);simp[-getElem?_pos];refine cM [.pv (.str ew),.ptr (.par 0) 0] [(.par 0,bldX (rt++(cw.data.toList++[10])))] 86 [.loc 7 0] (by simp) p2 (by simp) ?_;simp[-getElem?_pos];refine cM [.ptr (.par 0) 0] [(.par 0,bldX (rt++(cw.data.toList++[10])++(ew.data.toList++[10])))] 87 [.loc 7 0] (by simp) hst (by simp) ?_;simp[-getElem?_pos];rw[←hR];exact⟨by simp,rfl⟩
 ·have h3:=Ze7 hc;rw[h3]at hch;rw[if_neg hc]at hR;simp[-getElem?_pos,L24];refine cG [strsP L] hch ?_;simp[-getElem?_pos];rw[←hR];exact⟨rfl,rfl⟩
end
section
open Go.RowKit
set_option maxRecDepth 10000
attribute [local simp] AS.exp expG Box.ren AV.map AV.mapL Zaw noRet Site.isRet Box.allS AV.allS AV.allSL retB dropL AS.adds renL outG outOk Zau inG fnOf lookA Zww
attribute [local simp] Box.purge Site.isLoc

end
section
open Go.RowKit
set_option maxRecDepth 10000
attribute [local simp] AS.exp expG Box.ren AV.map AV.mapL Zaw noRet Site.isRet Box.allS AV.allS AV.allSL retB dropL AS.adds renL outG outOk Zau inG fnOf lookA Zww
attribute [local simp] Box.purge Site.isLoc
attribute [local simp] retFz frzL AS.frz AV.frz AV.frzL Box.frz AS.tidy AS.frzC frzsL retOk renB toLoc

def ZaP (L:List ByteArray):Bool:=L.all (fun s=>decide (s.size≤200))&&decide (L.length≤50)
theorem ZlH {α:Type}{l:List α}{p:α→Bool}{k:Nat}{x:α}(h:l[k]?=some x):(l.take (k+1)).all p=((l.take k).all p&&p x):=by
 rw[Zwf,h,List.all_append];simp
theorem Zku {α:Type}{l:List α}{p:α→Bool}{x:α}(h:x∈l)(hp:p x=false):l.all p=false:=by
 rw[List.all_eq_false];exact⟨x,h,by simp[hp]⟩
theorem ZeC (L:List ByteArray)(hl:L.length≤1000000):Gives Tryz.prog 9 [strsP L] (.bool (ZaP L)):=by
 refine cSR L9 ?_;intro R hR;simp[-getElem?_pos,L9,strsP];refine Zae (fun m τ=>∃k:Nat,k≤L.length∧m=L.length-k∧(L.take k).all (fun s=>decide (s.size≤200))=true∧τ=⟨[(0,.pv (.lst false 1 (L.map .str))),(3,.pv (.int .i64 (k:Int)))],[]⟩)
  ⟨L.length,⟨[(0,.pv (.lst false 1 (L.map .str))),(3,.pv (.int .i64 ((0:Nat):Int)))],[]⟩,Sub.mk (by simp) (by simp),0,Zwb _,rfl,rfl,rfl⟩ ?_
 rintro J hJ m τ ⟨k,hk,rfl,hall,rfl⟩;by_cases hlt:k<L.length
 ·obtain⟨s,hx⟩:∃s,L[k]?=some s:=⟨L[k],ZvZ hlt⟩;have hg:(L.map PV.str)[k]?=some (.str s):=by rw[Zv0,hx];rfl
  have hw:=wrapK (k:=k) (by omega);have hmeas:L.length-(k+1)<L.length-k:=by omega
  by_cases h2:200<s.size
  ·have hf:ZaP L=false:=by unfold ZaP;rw[Zku (Zv3 hx) (by simpa using h2)];rfl
   have h2':(200:Int)<(s.size:Int):=by omega
   rw[hf]at hR;simp[-getElem?_pos,-List.getElem?_map,hlt,hg,nblt,nble,h2,h2'];rw[←hR];exact⟨rfl,by simp⟩
  ·have hn:=hJ (L.length-(k+1)) _ ⟨k+1,hlt,rfl,by rw[ZlH hx,hall];simp;omega,rfl⟩;have h2':¬(200:Int)<(s.size:Int):=by omega
   simp[-getElem?_pos,-List.getElem?_map,hlt,hg,nblt,nble,h2,h2',hw];exact⟨_,_,hmeas,Sub.mk (by simp) (by simp),hn⟩
 ·have he:k=L.length:=by omega
  subst he;rw[Zwm]at hall;have hf:ZaP L=decide (L.length≤50):=by unfold ZaP;rw[hall,Bool.true_and]
  rw[hf]at hR;simp[-getElem?_pos,nble];rw[←hR];exact⟨by simp;try omega,by simp⟩
def thinB (L:List ByteArray):Bool:=(L.take 56).all (fun s=>decide (s.size≤210))&&decide (L.length≤55)
theorem Zg1 (L:List ByteArray)(hl:L.length≤9223372036854775807):Gives Tryz.prog 8 [strsP L] (.bool (thinB L)):=by
 refine cSR L8 ?_;intro R hR;simp[-getElem?_pos,L8,strsP];refine Zae (fun m τ=>∃k:Nat,k≤L.length∧k≤56∧m=L.length-k∧(L.take k).all (fun s=>decide (s.size≤210))=true∧τ=⟨[(0,.pv (.lst false 1 (L.map .str))),(3,.pv (.int .i64 (k:Int)))],[]⟩)
  ⟨L.length,⟨[(0,.pv (.lst false 1 (L.map .str))),(3,.pv (.int .i64 ((0:Nat):Int)))],[]⟩,Sub.mk (by simp) (by simp),0,Zwb _,Zwb _,rfl,rfl,rfl⟩ ?_
 rintro J hJ m τ ⟨k,hk,hk6,rfl,hall,rfl⟩;by_cases hlt:k<L.length
 ·have hlt':((k:Int)<(L.length:Int)):=by omega
  by_cases h6:k<56
  ·obtain⟨s,hx⟩:∃s,L[k]?=some s:=⟨L[k],ZvZ hlt⟩;have hg:(L.map PV.str)[k]?=some (.str s):=by rw[Zv0,hx];rfl
   have hw:=wrapK (k:=k) (by omega);have hmeas:L.length-(k+1)<L.length-k:=by omega
   have h6':((k:Int)<56):=by omega
   by_cases h2:210<s.size
   ·have hm:s∈L.take 56:=Zv3 (i:=k) (by rw[Zwi,if_pos h6];exact hx);have hf:thinB L=false:=by unfold thinB;rw[Zku hm (by simpa using h2)];rfl
    rw[hf]at hR;have h2':(210:Int)<(s.size:Int):=by omega
    simp[-getElem?_pos,-List.getElem?_map,hlt,hlt',h6,h6',hg,nblt,nble,h2,h2'];rw[←hR];exact⟨rfl,by simp⟩
   ·have hn:=hJ (L.length-(k+1)) _ ⟨k+1,hlt,h6,rfl,by rw[ZlH hx,hall];simp;omega,rfl⟩;have h2':¬(210:Int)<(s.size:Int):=by omega
    simp[-getElem?_pos,-List.getElem?_map,hlt,hlt',h6,h6',hg,nblt,nble,h2,h2',hw];exact⟨_,_,hmeas,Sub.mk (by simp) (by simp),hn⟩
  ·have he:k=56:=by omega
   subst he;have hf:thinB L=false:=by unfold thinB;rw[hall,decide_eq_false (by omega)];rfl
   rw[hf]at hR;have h55:¬(L.length:Int)≤55:=by omega
   have hl6:(56:Int)<(L.length:Int):=by omega
   clear hlt hlt' h6;simp[-getElem?_pos,nble,hl6,h55];rw[←hR];exact⟨rfl,by simp⟩
 ·have he:k=L.length:=by omega
  subst he;rw[Zwm]at hall;have hf:thinB L=decide (L.length≤55):=by unfold thinB;rw[Zv9 hk6,hall,Bool.true_and]
  rw[hf]at hR;simp[-getElem?_pos,nble];rw[←hR];exact⟨by simp;try omega,by simp⟩
theorem Zeq (L:List ByteArray)(hl:L.length≤1000000):Gives Tryz.prog 14 [strsP L] (strsP L):=by
 refine Zak.weak2 ?_;refine cF [.loc 5 0] L14 ?_;have h4:List.take L.length (L.map PV.str)=L.map PV.str:=Zv9 (by rw[Zv6];exact Zv5 _);simp[-getElem?_pos,L14,strsP,nble,hl,h4]
def Za5:List ByteArray:=[⟨#[99,101,114,116,32,49,32,50,32,48,32,49,48,32,49,48,48,32,45,49,32,49]⟩,⟨#[108,111,116,32,55,32,56,32,53,48,48]⟩,⟨#[116,101,115,116,32,55,32,50,32,50,48,32,53,49,49]⟩,⟨#[116,101,115,116,32,55,32,50,32,50,48,32,53,49,48]⟩]
def moreL:List ByteArray:=[⟨#[116,101,115,116,32,55,32,51,32,50,48,32,54,48,48]⟩,⟨#[98,97,100,32,49]⟩,⟨#[116,101,115,116,32,55,32,50,32,50,48,32,54,48,48]⟩]
def ZkJ:ByteArray:=⟨#[108,111,116,32,55,32,116,101,115,116,115,32,50,32,111,112,101,110,10,99,101,114,116,115,32,49,32,104,101,108,100,32,49,32,98,97,100,32,48,10,101,110,100,32,48,10]⟩
def Zf5:ByteArray:=⟨#[123,48,48,49,58,57,57,56,58,48,48,49,48,57,125,97,10]⟩
theorem Zla:Zak Tryz.prog 23 [] [] (fun r B=>r=.vec (.ret 0) 1 0 4∧B=[(.ret 0,.arr 9 1 (Za5.map .str))]):=by
 refine cB [.loc 1 0] L23 ?_;simp[-getElem?_pos,L23,Za5,nble]
theorem Zuu (A B:List Int)(hA:A.length≤1000000):Gives Tryz.prog 26 [.lst false 1 (A.map iP),.lst false 1 (B.map iP)] (.bool (decide (A=B))):=by
 refine cSR L26 ?_;intro R hR;by_cases hl:A.length=B.length
 ·have hl':((A.length:Int)=(B.length:Int)):=by omega
  simp[-getElem?_pos,L26,hl,hl'];refine Zae (fun m τ=>∃k:Nat,k≤A.length∧m=A.length-k∧A.take k=B.take k∧τ=⟨[(0,.pv (.lst false 1 (A.map iP))),(1,.pv (.lst false 1 (B.map iP))),(5,.pv (.int .i64 (k:Int)))],[]⟩)
   ⟨A.length,⟨[(0,.pv (.lst false 1 (A.map iP))),(1,.pv (.lst false 1 (B.map iP))),(5,.pv (.int .i64 ((0:Nat):Int)))],[]⟩,Sub.mk (by simp) (by simp),0,Zwb _,rfl,rfl,rfl⟩ ?_
  rintro J hJ m τ ⟨k,hk,rfl,hsame,rfl⟩;by_cases hlt:k<A.length
  ·obtain⟨s,hx⟩:∃s,A[k]?=some s:=⟨A[k],ZvZ hlt⟩;obtain⟨t,hy⟩:∃t,B[k]?=some t:=⟨B[k]'(by omega),ZvZ (by omega)⟩;have hg:(A.map iP)[k]?=some (.int .i64 s):=by rw[Zv0,hx];rfl
   have hg2:(B.map iP)[k]?=some (.int .i64 t):=by rw[Zv0,hy];rfl
   have hlt2:k<B.length:=by omega
   have hw:=wrapK (k:=k) (by omega);have hmeas:A.length-(k+1)<A.length-k:=by omega
   by_cases h2:s=t
   ·have hn:=hJ (A.length-(k+1)) _ ⟨k+1,hlt,rfl,by rw[Zwf,Zwf,hx,hy,hsame,h2],rfl⟩;simp[-getElem?_pos,-List.getElem?_map,hlt,hlt2,hg,hg2,nblt,nble,h2,hw];exact⟨_,_,hmeas,Sub.mk (by simp) (by simp),hn⟩
   ·have hf:decide (A=B)=false:=by
     rw[decide_eq_false_iff_not];intro e;rw[e,hy]at hx;cases hx;exact h2 rfl
    rw[hf]at hR;simp[-getElem?_pos,-List.getElem?_map,hlt,hlt2,hg,hg2,nblt,nble,h2];rw[←hR];exact⟨rfl,by simp⟩
  ·have he:k=A.length:=by omega
   subst he;rw[Zwm,hl,Zwm]at hsame;have hf:decide (A=B)=true:=by rw[decide_eq_true_eq];exact hsame
   rw[hf]at hR;simp[-getElem?_pos];rw[←hR];exact⟨rfl,by simp⟩
 ·have hl':¬((A.length:Int)=(B.length:Int)):=by omega
  have hf:decide (A=B)=false:=by
   rw[decide_eq_false_iff_not];intro e;exact hl (by rw[e])
  rw[hf]at hR;simp[-getElem?_pos,L26,hl,hl'];rw[←hR];exact⟨rfl,by simp⟩
theorem ZsT:plyE (doB 408) (Za5++moreL)=.tup [(foldD (doB 408) wk0 (Za5++moreL)).1.pv,.lst false 1 ([0,0,0,0,10,0,10].map iE),.int .i64 0]:=by
 unfold plyE;have h1:Zbn (Za5++moreL)=0:=by decide +kernel
 have h2:(foldD (doB 408) wk0 (Za5++moreL)).2=[0,0,0,0,10,0,10]:=by decide +kernel
 rw[if_pos h1,h2]
theorem ZaG {L:List ByteArray}(h:ZaP L=true):L.length≤50∧∀s∈L,s.size≤200:=by
 unfold ZaP at h;rw[Zv2,decide_eq_true_eq,Zwl]at h;exact⟨h.2,fun s hs=>by simpa using h.1 s hs⟩
theorem ZaB {L:List ByteArray}(h:ZaP L=true):Zbn L=0:=by
 obtain⟨h1,h2⟩:=ZaG h;have hf:fitB L=true:=by
  show L.all (fun s=>decide (s.size≤200))=true;rw[Zwl];exact fun s hs=>by simpa using h2 s hs
 unfold Zbn;rw[hf];have h3:¬50<L.length:=by omega
 simp[h3]
def Wk.cells (w:Wk):List AV:=[.pv (.lst false 7 (w.certs.map Ct.pv)),.pv (.lst false 1 (w.bad.map iP)),.pv (.lst false 4 (w.lots.map Lt.pv)),.pv (.lst false 4 (w.tests.map Tt.pv)),.pv (.lst false 3 (w.runs.map Qn.Rq.pv))]
section
variable {D:Wk→ByteArray→Wk×Int}
def keepD (D:Wk→ByteArray→Wk×Int):Wk→List ByteArray→List ByteArray
 |_,[]=>[]
 |st,s::l=>if(D st s).2=0 then s::keepD D (D st s).1 l else keepD D (D st s).1 l
end
end
section
open Go.RowKit
set_option maxRecDepth 10000
attribute [local simp] AS.exp expG Box.ren AV.map AV.mapL Zaw noRet Site.isRet Box.allS AV.allS AV.allSL retB dropL AS.adds renL outG outOk Zau inG fnOf lookA Zww
attribute [local simp] Box.purge Site.isLoc
attribute [local simp] retFz frzL AS.frz AV.frz AV.frzL Box.frz AS.tidy AS.frzC frzsL retOk renB toLoc
theorem ZsS:wdrE (doB 408) Za5 1=.tup [.lst false 1 ([0,1].map iP),.int .i64 0]:=by
 unfold wdrE;have h1:Zbn Za5=0:=by decide +kernel
 have h2:kn (foldD (doB 408) wk0 Za5).1 1=true:=by decide +kernel
 have h3:wdL (foldD (doB 408) wk0 Za5).1 1 (foldD (doB 408) wk0 Za5).1.tests.length=[0,1]:=by decide +kernel
 rw[if_pos h1,if_pos h2,h3]
theorem ZuY:rptE 408 Za5=.tup [.str ZkJ,.int .i64 0]:=by
 unfold rptE;have h1:Zbn Za5=0:=by decide +kernel
 have h2:repL 408 (foldD (doB 408) wk0 Za5).1=ZkJ.data.toList:=by decide +kernel
 rw[if_pos h1,h2]
theorem wk_wr:wrtE [⟨#[97]⟩]=.tup [.lst false 1 (bP Zf5.data.toList),.int .i64 0]:=by
 unfold wrtE;have h1:Zbn [⟨#[97]⟩]=0:=by decide +kernel
 have h2:fileL [⟨#[97]⟩] 0=Zf5.data.toList:=by decide +kernel
 rw[if_pos h1,h2]
theorem ZaA:Gives Tryz.prog 10 [] (.bool true):=by
 have hF:407<408:=by decide
 have c1:=Zfc hF (Za5++moreL) (by decide);rw[ZsT]at c1;have c2:=Zg4 hF Za5 (by decide) 1;rw[ZsS]at c2;have c3:=Zsm hF Za5 (by decide);rw[ZuY]at c3;have c4:=ZuX [⟨#[97]⟩] (by decide);rw[wk_wr]at c4;have c5:=Zuu [0,1] [0,1] (by decide);generalize hw:(foldD (doB 408) wk0 (Za5++moreL)).1=w at c1;refine cSR L10 ?_;intro R hR;simp[-getElem?_pos,L10];refine .inl (Zbh [] (fs:=[]) (xs:=[]) (cs:=[]) (d:=11) rfl rfl Zla ?_);rintro r B ⟨rfl,rfl⟩;refine⟨by simp,?_⟩;simp[-getElem?_pos,Za5,nble];refine .inl (cP [.loc 13 0] [strsP (Za5++moreL)] (by simp) (by simp[strsP,Za5,moreL]) c1 ?_);simp[-getElem?_pos,Wk.pv];refine .inl (Zbh [] (fs:=[]) (xs:=[]) (cs:=[]) (d:=19) rfl rfl Zla ?_);rintro r B ⟨rfl,rfl⟩;refine⟨by simp,?_⟩;simp[-getElem?_pos,Za5,nble];refine .inl (cP [.loc 19 0] [strsP Za5,.int .i64 1] (by simp) (by simp[strsP,Za5]) c2 ?_);simp[-getElem?_pos];refine .inl (Zbh [] (fs:=[]) (xs:=[]) (cs:=[]) (d:=24) rfl rfl Zla ?_);rintro r B ⟨rfl,rfl⟩;refine⟨by simp,?_⟩;simp[-getElem?_pos,Za5,nble];refine .inl (cP [.loc 24 0] [strsP Za5] (by simp) (by simp[strsP,Za5]) c3 ?_);simp[-getElem?_pos];refine .inl (cP [.loc 29 0] [strsP [⟨#[97]⟩]] (by simp) (by simp[strsP]) c4 ?_);simp[-getElem?_pos,iE,iP];refine .inl (cP [.loc 88 0] [.lst false 1 ([0,1].map iP),.lst false 1 ([0,1].map iP)] (by simp) (by simp[iP]) c5 ?_);have hs:Zdf (bP Zf5.data.toList)=some ((Zf5.data.toList).map fun b=>(b.toNat:Int)):=by decide +kernel
 have hs2:Zec ((Zf5.data.toList).map fun b=>(b.toNat:Int))=Zf5:=by decide +kernel
 have hr:ZkJ.toList=[108,111,116,32,55,32,116,101,115,116,115,32,50,32,111,112,101,110,10,99,101,114,116,115,32,49,32,104,101,108,100,32,49,32,98,97,100,32,48,10,101,110,100,32,48,10]:=by rw[Lib.toList_data];rfl
 have hr2:Zf5.toList=[123,48,48,49,58,57,57,56,58,48,48,49,48,57,125,97,10]:=by rw[Lib.toList_data];rfl
 simp[-getElem?_pos,hs,hs2,hr,hr2];rw[←hR];exact⟨by simp,by simp⟩

end
section
open Go.RowKit

end
section
open Go.RowKit
set_option maxRecDepth 10000
attribute [local irreducible] Bk.held Bk.nums Bk.heldU Bk.span
section
variable {b b':Bk}
structure More (b b':Bk):Prop where
 i:b'.items=b.items
 c:∀c∈b.certs,c∈b'.certs
theorem More.item (h:More b b')(i:Int):b'.item i=b.item i:=by unfold Bk.item;rw[h.i]
theorem More.held (hb:b.ok)(hb':b'.ok)(h:More b b'){x:Int}(hx:x∈b.held []):x∈b'.held []:=ZjV hb hb' (fun c _=>h.item _) h.c (fun _ h=>h) hx
theorem More.span_at (hb:b.ok)(hb':b'.ok)(h:More b b')(item day below:Int):(b'.itemSpan (b'.held []) (b'.span (b'.held [])) item day below).sub (b.itemSpan (b.held []) (b.span (b.held [])) item day below):=
 ZjN (h.item _) h.c (fun x hx=>h.held hb hb' hx) fun c hc _ hx=>ZnL hb hb' (fun c _=>h.item _) h.c c hc hx
theorem More.contra (hb:b.ok)(hb':b'.ok)(h:More b b')(hc:b.contra=true):b'.contra=true:=by
 unfold Bk.contra at hc ⊢;rw[Zwq]at hc ⊢;obtain⟨c,hc,e⟩:=hc;rw[Zv2,Zwk,decide_eq_true_eq]at e;refine⟨c,h.c c hc,?_⟩;have hs:=h.span_at hb hb' c.it c.day 1000;unfold Cr.sub at hs;rw[Zv2,Zwk,decide_eq_true_eq];exact⟨h.held hb hb' e.1,by omega⟩
end
end
section
open Go.RowKit
set_option maxRecDepth 10000
section
attribute [local irreducible] Bk.suspM earlE Bk.contra Bk.held Bk.span Bk.nums
theorem Zbx {bad:List Int}{x:Ct}:badP bad x=true↔x.num∈bad:=by
 unfold badP;simp
theorem Zmo {l:List Ct}{bad:List Int}{x:Ct}:x∈goodC l bad↔x∈l∧x.num∉bad:=by
 unfold goodC;rw[Zwe];constructor
 ·rintro⟨h1,h2⟩;refine⟨h1,fun h=>?_⟩;rw[Zbx.2 h]at h2;cases h2
 ·rintro⟨h1,h2⟩;refine⟨h1,?_⟩;cases hb:badP bad x with
  |false=>rfl
  |true=>exact absurd (Zbx.1 hb) h2
theorem ZjZ {l:List Ct}{bad bad':List Int}(h:∀n∈bad,n∈bad'):More (Zaj l bad') (Zaj l bad):=
 ⟨rfl,fun c hc=>by
  obtain⟨h1,h2⟩:=Zmo.1 hc;exact Zmo.2 ⟨h1,fun hh=>h2 (h _ hh)⟩⟩
theorem Znq {l:List Ct}{bad bad':List Int}(hl:Bk.ok ⟨ZaE,l⟩)(h:∀n∈bad,n∈bad')(hc:(Zaj l bad).contra=false):(Zaj l bad').contra=false:=by
 cases hx:(Zaj l bad').contra with
 |false=>rfl
 |true=>rw[(ZjZ h).contra (Zbf hl) (Zbf hl) hx]at hc;cases hc
end
section
attribute [local irreducible] earlE Bk.contra Bk.held Bk.span Bk.nums Bk.fault
theorem Zjc {b:Bk}(hb:b.ok)(h:b.suspM.2=7):b.contra=false:=by
 have hf:=Bk.ok_iff.2 hb;unfold Bk.suspM at h;rw[if_pos hf]at h;cases hc:b.contra with
 |false=>rfl
 |true=>rw[hc,if_pos rfl]at h;cases h
structure WkJ (st:Wk):Prop where
 nc:(Zaj st.certs st.bad).contra=false
 q:earlE 408 (ZaV st.runs)=0
theorem wk0_J:WkJ wk0:=⟨Zjc (b:=Zaj [] []) (Zbf ZjS) (by decide +kernel),by decide +kernel⟩
theorem WkJ.step {k:Nat}{st w:Wk}{g:FuncId}{nums:List Int}(h:WkI k st)(j:WkJ st)(hw:doW 408 st g nums=.ok w):WkJ w:=by
 unfold doW at hw;split at hw
 ·split at hw
  ·obtain⟨l,h1,rfl⟩:=Za3 hw;obtain⟨rfl,h2,h3,_⟩:=Zmz h1;exact⟨Zjc (Zbf h2) h3,j.q⟩
  ·cases hw
 split at hw
 ·split at hw
  ·obtain⟨l,h1,rfl⟩:=Za3 hw;obtain⟨h2,h3,rfl⟩:=ZpU h1;exact⟨Znq h.bk (fun n hn=>Zdl.2 (.inr hn)) j.nc,j.q⟩
  ·cases hw
 split at hw
 ·split at hw
  ·obtain⟨l,h1,rfl⟩:=Za3 hw;exact⟨j.nc,j.q⟩
  ·cases hw
 split at hw
 ·split at hw
  ·obtain⟨l,h1,rfl⟩:=Za3 hw;exact⟨j.nc,j.q⟩
  ·cases hw
 split at hw
 ·split at hw
  ·obtain⟨l,h1,rfl⟩:=Za3 hw;exact⟨j.nc,j.q⟩
  ·cases hw
 ·split at hw
  ·obtain⟨l,h1,rfl⟩:=Za3 hw;obtain⟨rfl,_,_,h4⟩:=ZkH h1;exact⟨j.nc,h4⟩
  ·cases hw
theorem WkJ.next {k:Nat}{st:Wk}(h:WkI k st)(j:WkJ st)(s:ByteArray):WkJ (doB 408 st s).1:=by
 unfold doB lineM;cases hp:Zay s with
 |none=>exact j
 |some q=>
  obtain⟨g,nums⟩:=q;dsimp only;cases hd:doW 408 st g nums with
  |error e=>exact j
  |ok w=>exact j.step h hd
theorem ZdC:∀{l:List ByteArray} {k:Nat} {st:Wk},WkI k st→WkJ st→WkI (k+l.length) (foldD (doB 408) st l).1∧WkJ (foldD (doB 408) st l).1
 |[],k,st,h,j=>⟨h,j⟩
 |x::l,k,st,h,j=>by
  have:=ZdC (l:=l) (h.next (F:=408) x) (j.next h x)
  rw[show k+1+l.length=k+(x::l).length by rw[Zws];omega]at this;exact this
end
end
end Go.Proofs.YtfpmaennjlggeaaGreatDoor
namespace Go.Proofs.YtfpmaennjlggeaaGreatDoor.Qn
section
open Go.RowKit





def busy (x:Int):Bool:=decide (x≠-1)



end
end Go.Proofs.YtfpmaennjlggeaaGreatDoor.Qn
namespace Go.Proofs.YtfpmaennjlggeaaGreatDoor
section
open Go.RowKit
set_option maxRecDepth 10000

end
section
open Go.RowKit
set_option maxRecDepth 10000
attribute [local simp] AS.exp expG Box.ren AV.map AV.mapL Zaw noRet Site.isRet Box.allS AV.allS AV.allSL retB dropL AS.adds renL outG outOk Zau inG fnOf lookA Zww
attribute [local simp] Box.purge Site.isLoc
attribute [local simp] retFz frzL AS.frz AV.frz AV.frzL Box.frz AS.tidy AS.frzC frzsL retOk renB toLoc

end
section
open Go.ChangeShapes Go.WideShapes Go.ChangeAt Go.RowKit
set_option maxRecDepth 100000

end
section
open Go.RowKit
theorem Zb6 {P:Program}{f:FuncId}{fn:Func}{s:ChangeSpec}{c:OpenClaim}(k0:(c.wf (OpenSpec.ofChange s))=true)(k1:(laidOutB P)=true)(k2:(mapsRowed P)=true)(k3:(fn.params.all (P.readableRec ·))=true)(k4:(namedTie P c.named s.vars)=true)(k5:((c.stops==[]))=true)(k6:((P.stops==[]))=true)(k7:((c.knobs==[]))=true)(k8:((P.stopKnobs==[]))=true)(k9:((c.inPlace==P.inPlace f))=true)(k10:((c.unfollowed==P.unfollowed f))=true)(k11:((c.recurses==P.recurses f))=true)(k12:((c.named==P.varsNamed f))=true)(k13:((c.maps==(fn.params.toList++s.plain.varTypes P).any (P.mapsRec ·)))=true)(k14:((c.ifaces==(fn.params.toList++s.plain.varTypes P).any (P.ifacesRec ·)))=true)(k15:((c.mapsOut==P.mapsAmong fn.resultTypes.toList))=true)(k16:((c.loops==(fn.params.toList++s.plain.varTypes P).any (P.loopsFrom ·)))=true)(k17:((c.wideKeys==(fn.params.toList++s.plain.varTypes P++fn.resultTypes.toList).any (P.wideKeysFrom ·)))=true)(k18:(s.vars.all (P.varReadable ·))=true)(k19:(fn.resultTypes.all (fun t=>P.readableRec t&&decide (t<P.types.size)))=true)(k20:((c.ifacesOut==fn.resultTypes.toList.any (P.ifacesRec ·)))=true)(k21:((c.loopsOut==fn.resultTypes.toList.any (P.loopsFrom ·)))=true)(k22:((c.plainKeys==P.plainKeys))=true)(k23:(c.shortTexts.isNone)=true)(k24:(P.stopsHeard)=true)(k25:(P.mayEnter)=true)(k26:((c.lifted==P.liftsFinal))=true)(k27:((P.make==some c.make))=true)(k28:((c.kinds==(if c.domain.isEmpty then[]else fn.params.toList.map fun t=>match P.underlying t with|some (.int k)=>some k|_=>none)))=true)(k29:((c.pinned==c.pinnedBy))=true)(k30:((c.veiled==(fn.params.toList++s.plain.varTypes P++fn.resultTypes.toList).any (P.veiledRec ·)))=true)(k31:(c.veiledFits P fn.params.toList (fn.params.toList++s.plain.varTypes P++fn.resultTypes.toList))=true):joinedFacts P f fn s c=true:=by
 unfold joinedFacts;simp only[Zv2];exact⟨⟨⟨⟨⟨⟨⟨⟨⟨⟨⟨⟨⟨⟨⟨⟨⟨⟨⟨⟨⟨⟨⟨⟨⟨⟨⟨⟨⟨⟨⟨k0,k1⟩,k2⟩,k3⟩,k4⟩,k5⟩,k6⟩,k7⟩,k8⟩,k9⟩,k10⟩,k11⟩,k12⟩,k13⟩,k14⟩,k15⟩,k16⟩,k17⟩,k18⟩,k19⟩,k20⟩,k21⟩,k22⟩,k23⟩,k24⟩,k25⟩,k26⟩,k27⟩,k28⟩,k29⟩,k30⟩,k31⟩
end
section
open Go.RowKit
set_option maxRecDepth 100000

end
section
open Go.ChangeShapes Go.WideShapes Go.ChangeAt Go.RowKit
set_option maxRecDepth 100000

end
section
open Go.RowKit
set_option maxRecDepth 10000
attribute [local simp] AS.exp expG Box.ren AV.map AV.mapL Zaw noRet Site.isRet Box.allS AV.allS AV.allSL retB dropL AS.adds renL outG outOk Zau inG fnOf lookA Zww
attribute [local simp] Box.purge Site.isLoc
attribute [local simp] retFz frzL AS.frz AV.frz AV.frzL Box.frz AS.tidy AS.frzC frzsL retOk renB toLoc
section
variable {P:Program}{K:AS→Prop}{Q:AEx→AS→Prop}{σ:AS}
end
end
section
open Go.RowKit
set_option maxRecDepth 10000
section
attribute [local irreducible] Bk.suspM earlE Bk.contra Bk.held Bk.span Bk.nums Bk.isHeld
end
end
section
open Go.RowKit



end
section
open Go.RowKit
set_option maxRecDepth 10000
attribute [local irreducible] Bk.suspM earlE Bk.contra Bk.held Bk.span Bk.nums Bk.isHeld stM verdM
end
section
open Go.RowKit
set_option maxRecDepth 10000
attribute [local irreducible] Bk.suspM earlE Bk.contra Bk.held Bk.span Bk.nums Bk.isHeld stM verdM
end
section
open Go.RowKit
set_option maxRecDepth 10000
attribute [local simp] AS.exp expG Box.ren AV.map AV.mapL Zaw noRet Site.isRet Box.allS AV.allS AV.allSL retB dropL AS.adds renL outG outOk Zau inG fnOf lookA Zww
attribute [local simp] Box.purge Site.isLoc
attribute [local simp] retFz frzL AS.frz AV.frz AV.frzL Box.frz AS.tidy AS.frzC frzsL retOk renB toLoc



end
section
open Go.ChangeShapes Go.WideShapes Go.ChangeAt Go.RowKit
set_option maxRecDepth 100000

end
section
open Go.RowKit
set_option maxRecDepth 100000

end
section
open Go.ChangeShapes Go.WideShapes Go.ChangeAt Go.RowKit
set_option maxRecDepth 100000

end
section
open Go.RowKit
set_option maxRecDepth 10000
attribute [local simp] AS.exp expG Box.ren AV.map AV.mapL Zaw noRet Site.isRet Box.allS AV.allS AV.allSL retB dropL AS.adds renL outG outOk Zau inG fnOf lookA Zww
attribute [local simp] Box.purge Site.isLoc
attribute [local simp] retFz frzL AS.frz AV.frz AV.frzL Box.frz AS.tidy AS.frzC frzsL retOk renB toLoc


end
section
open Go.RowKit

end
section
open Go.RowKit
set_option maxRecDepth 10000
attribute [local simp] AS.exp expG Box.ren AV.map AV.mapL Zaw noRet Site.isRet Box.allS AV.allS AV.allSL retB dropL AS.adds renL outG outOk Zau inG fnOf lookA Zww
attribute [local simp] Box.purge Site.isLoc
attribute [local simp] retFz frzL AS.frz AV.frz AV.frzL Box.frz AS.tidy AS.frzC frzsL retOk renB toLoc

attribute [local irreducible] Bk.suspM earlE Bk.contra Bk.held Bk.span Bk.nums Bk.isHeld stM verdM doB foldD Zay wordB
end
section
open Go.ChangeShapes Go.WideShapes Go.ChangeAt Go.RowKit
set_option maxRecDepth 100000

end
section
open Go.RowKit
set_option maxRecDepth 100000

end
section
open Go.ChangeShapes Go.WideShapes Go.ChangeAt Go.RowKit
set_option maxRecDepth 100000

end
section
open Go.RowKit
set_option maxRecDepth 10000
attribute [local simp] AS.exp expG Box.ren AV.map AV.mapL Zaw noRet Site.isRet Box.allS AV.allS AV.allSL retB dropL AS.adds renL outG outOk Zau inG fnOf lookA Zww
attribute [local simp] Box.purge Site.isLoc
attribute [local simp] retFz frzL AS.frz AV.frz AV.frzL Box.frz AS.tidy AS.frzC frzsL retOk renB toLoc

attribute [local irreducible] Bk.suspM earlE Bk.contra Bk.held Bk.span Bk.nums Bk.isHeld stM verdM doB foldD
end
section
open Go.ChangeShapes Go.WideShapes Go.ChangeAt Go.RowKit
set_option maxRecDepth 100000

end
section
open Go.RowKit
set_option maxRecDepth 100000

end
section
open Go.ChangeShapes Go.WideShapes Go.ChangeAt Go.RowKit
set_option maxRecDepth 100000

end
section
open Go.RowKit
set_option maxRecDepth 10000
attribute [local irreducible] Bk.suspM earlE Bk.contra Bk.held Bk.span Bk.nums Bk.isHeld stM verdM
end
section
open Go.RowKit
set_option maxRecDepth 10000
attribute [local simp] AS.exp expG Box.ren AV.map AV.mapL Zaw noRet Site.isRet Box.allS AV.allS AV.allSL retB dropL AS.adds renL outG outOk Zau inG fnOf lookA Zww
attribute [local simp] Box.purge Site.isLoc
attribute [local simp] retFz frzL AS.frz AV.frz AV.frzL Box.frz AS.tidy AS.frzC frzsL retOk renB toLoc
attribute [local irreducible] Bk.suspM earlE Bk.contra Bk.held Bk.span Bk.nums Bk.isHeld stM verdM doB foldD Zay wordB
end
section
open Go.ChangeShapes Go.WideShapes Go.ChangeAt Go.RowKit
set_option maxRecDepth 100000

end
section
open Go.RowKit
set_option maxRecDepth 100000

end
section
open Go.ChangeShapes Go.WideShapes Go.ChangeAt Go.RowKit
set_option maxRecDepth 100000

end
end Go.Proofs.YtfpmaennjlggeaaGreatDoor

