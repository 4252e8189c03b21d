import Derived.WalkKit
import Derived.Lib.Hide
import Derived.Lib.ItoaNum
import Derived.WalkSpells
import Derived.Deep.MidRow
import Derived.Laws.CopyRow
import Derived.Laws.Tables
import Derived.Laws.MakeOwn
import Derived.Laws.Small
import Derived.Great.BuildSlice
import Derived.Laws.Cover3
import Derived.Laws.Pointers
import Derived.DeepKeys3
import Derived.MapKept
import Derived.RangeFuncRecord
import Derived.Laws.Concat
import Derived.Laws.BytesString
import Derived.Laws.AppendOwn
import Derived.Deep.AppendSrc
import Derived.Lib.ConvBytes
set_option linter.unusedSimpArgs false
set_option linter.unusedVariables false
namespace Go.Proofs
set_option linter.defProp false
def tH:=@Nat.le_of_ble_eq_true
def bB:=@List.getElem?_eq_getElem
def bW:=@List.getElem?_map
def bZ:=@List.getElem?_eq_some_iff
def dJ:=@Bool.and_eq_true
def dK:=@List.mem_of_getElem?
def dZ:=@Option.map_eq_some_iff
def fG:=@Nat.le_refl
def fO:=@List.take_of_length_le
def fV:=@List.length_map
def gD:=@List.length_append
def gJ:=@List.length_take
def gV:=@Nat.zero_le
def iJ:=@List.mem_iff_getElem?
def iI:=@List.mem_map
def iL:=@List.map_cons
def iU:=@List.mem_filter
def jB:=@List.contains_iff_mem
def jN:=@List.mem_cons
def lC:=@Nat.le_trans
def mG:=@List.getElem?_take
def mF:=@List.map_append
def mJ:=@List.take_add_one
def mS:=@List.getElem?_drop
def nF:=@List.take_length
def q9:=@List.findIdx?_cons
def oU:=@List.any_eq_true
def pB:=@List.length_cons
def qE:=@Array.getElem?_eq_some_iff
def qS:=@Bool.eq_iff_iff
def rC:=@List.all_eq_true
def rY:=@List.mem_singleton
def rX:=@Nat.zero_add
def rW:=@Option.getD_some
def rV:=@Bool.or_eq_true
def sI:=@List.mem_append
def uH:=@List.length_drop
def uG:=@List.append_nil
def uV:=@Array.length_toList
def uU:=@Option.map_some
def uT:=@Array.getElem?_eq_getElem
def xL:=@List.filter_cons
def yU:=@Array.toList_inj
def yT:=@List.size_toArray
def yS:=@List.getElem?_append
def zX:=@List.getElem_mem
def F2:=@List.filter_append
def I1:=@Nat.mul_le_mul_right
def I0:=@List.getElem?_toArray
def H9:=@List.append_assoc
def H8:=@List.pairwise_cons
def H7:=@Int.toNat_natCast
def O3:=@Array.getElem?_toList
def O2:=@List.getElem?_set_self
def O1:=@List.length_filter_le
def Q2:=@List.pairwise_iff_getElem
def y8:=@List.drop_eq_getElem_cons
def DK:=@List.nodup_iff_pairwise_ne
def JC:=@List.findIdx?_eq_some_iff_getElem
end Go.Proofs
set_option maxHeartbeats 32000000
set_option maxRecDepth 100000
namespace Go.Proofs.YtlllhbmbnjnoiaaGreatDoor
open Go.RowKit
abbrev Ext (w w':World):Prop:=Below w.heap.size w w'
theorem Ext.tI (w:World):Ext w w:=Below.refl _ _
theorem Ext.trans' {a b c:World}(h:Ext a b)(k:Ext b c):Ext a c:=Below.trans h (Below.mono k h.size)
theorem Ext.al (w:World)(o:Obj):Ext w (w.alloc o):=(Below.refl _ _).alloc (fG _) o
theorem Ext.dr (w:World):Ext w w.drew:=(Below.refl _ _).drew
theorem up {b n:Nat}(h:b<n):b<n+1/\b<n+1+1/\b<n+1+1+1/\b<n+1+1+1+1/\b<n+1+1+1+1+1/\b<n+1+1+1+1+1+1:=by omega
theorem AG {w:World}{b o:Nat}{v:Value}(h:w.cell? ⟨b,o,none⟩=some v):b<w.heap.size:=by
 unfold World.cell? at h;cases hb:w.heap[b]? with
 |none=>simp[hb]at h
 |some x=>exact(qE.1 hb).1
theorem Ext.cell {w w':World}(h:Ext w w'){b o:Nat}{v:Value}(hc:w.cell? ⟨b,o,none⟩=some v):w'.cell? ⟨b,o,none⟩=some v:=
 (Below.cell h (p:=⟨b,o,none⟩) (AG hc)).trans hc
abbrev Mem:=Nat->Nat->Option Value
def _root_.Go.World.mem (w:World):Mem:=fun b o=>w.cell? ⟨b,o,none⟩
instance:Coe World Mem:=⟨World.mem⟩
def Le (m m':Mem):Prop:=∀b o v,m b o=some v->m' b o=some v
theorem Le.refl (m:Mem):Le m m:=fun _ _ _ h=>h
theorem Le.trans {a b c:Mem}(h:Le a b)(k:Le b c):Le a c:=fun x o v e=>k x o v (h x o v e)
theorem Ext.le {w w':World}(h:Ext w w'):Le w.mem w'.mem:=fun _ _ _ hc=>h.cell hc
def At (m:Mem)(b:Nat):Nat->List Value->Prop
 |_,[]=>True
 |o,c::cs=>m b o=some c/\At m b (o+1) cs
theorem At.mono {m m':Mem}(h:Le m m'){b:Nat}:∀{cs:List Value} {o:Nat},At m b o cs->At m' b o cs
 |[],_,_=>trivial
 |_::_,_,⟨h1,h2⟩=>⟨h _ _ _ h1,At.mono h h2⟩
theorem At.get {m:Mem}{b:Nat}:∀{cs:List Value} {o:Nat},At m b o cs->∀(j:Nat) (u:Value),cs[j]?=some u->m b (o+j)=some u
 |[],_,_,j,u,h=>by simp at h
 |c::cs,o,⟨h1,h2⟩,0,u,h=>by simp at h;subst h;exact h1
 |c::cs,o,⟨h1,h2⟩,j+1,u,h=>by
  have:=At.get h2 j u (by simpa using h)
  rwa [show o+(j+1)=o+1+j by omega]
theorem At.b9 {m:Mem}{b:Nat}:∀{cs:List Value} {o:Nat},(∀(j:Nat) (u:Value),cs[j]?=some u->m b (o+j)=some u)->At m b o cs
 |[],_,_=>trivial
 |c::cs,o,h=>⟨h 0 c rfl,At.b9 (fun j u hj=>by have:=h (j+1) u (by simpa using hj);rwa [show o+1+j=o+(j+1) by omega])⟩
structure R (α:Type) where
 n:Nat
 r:Mem->List Value->α->Prop
 mono:∀{m m':Mem} {cs:List Value} {x:α},Le m m'->r m cs x->r m' cs x
 len:∀{m:Mem} {cs:List Value} {x:α},r m cs x->cs.length=n
 one:∀{m:Mem} {cs:List Value} {x:α},r m cs x->∀u∈cs,u.oneCell'=true
 npos:0<n
section
variable {α:Type}{a:R α}{e:TypeId}{S:List Nat}{w w':World}{v:Value}{xs:List α}
end
theorem Zvj {b o j:Nat}:(⟨b,o,none⟩:Addr).add j=⟨b,o+j,none⟩:=by unfold Addr.add;split<;>simp_all
section
variable {P:Program}{α:Type}{a:R α}{t ty e:TypeId}{bytes:Nat}{S:List Nat}{w:World}{v:Value}{xs ys:List α}{ad:Option Addr}{cp:Nat}
end
def nI (m:Mem)(w:World):Prop:=(∃z,m 1 0=some (.int .i64 z))/\(∃t p,m 2 0=some (.iface t p))/\(∃t p,m 3 0=some (.iface t p))/\(∃v,m 0 0=some v)/\
 ∃t fr,w.heap[0]?=some (.cells (Lib.pow10Tab.map (Value.int .u64)).toArray t fr)
theorem nI.mono {m m':Mem}{w:World}(h:nI m w)(hm:Le m m'):nI m' w:=
 let ⟨⟨z,h1⟩,⟨t,p,h2⟩,⟨t',p',h3⟩,⟨v,h4⟩,h5⟩:=h
 ⟨⟨z,hm _ _ _ h1⟩,⟨t,p,hm _ _ _ h2⟩,⟨t',p',hm _ _ _ h3⟩,⟨v,hm _ _ _ h4⟩,h5⟩
theorem nI.keep {m:Mem}{w w':World}(h:nI m w)(hk:∀k o v,k<w.heap.size->m k o=some v->w'.heap[k]?=w.heap[k]?):nI m w':=by
 obtain⟨h1,h2,h3,⟨v,h4⟩,t,fr,h5⟩:=h;exact⟨h1,h2,h3,⟨v,h4⟩,t,fr,by rw[hk _ 0 v (qE.1 h5).1 h4];exact h5⟩
inductive PV where
 |int (k:IntKind) (n:Int)
 |bool (b:Bool)
 |str (s:ByteArray)
 |eU
 |dP
 |cT
 |eV
 |P3
 |emp (nl:Option Bool)
 |aF (nn:Bool) (n:Nat) (xs:List PV)
 |ref (cs:List PV)
 |fn (f:FuncId) (fs cs:List PV)
 |agg (cs:List PV)
 |bL (vs:List PV)
 |iface (t:TypeId) (x:PV)
 deriving Inhabited
def PV.cells:PV->List PV
 |.agg cs=>cs
 |x=>[x]
abbrev JK (A:Addr):Prop:=A.spot=A.spot
inductive dG (m:Mem):Value->PV->Prop where
 |int (k n):dG m (.int k n) (.int k n)
 |bool (b):dG m (.bool b) (.bool b)
 |str (s):dG m (.string s) (.str s)
 |eU:dG m (.pointer none) .eU
 |dP:dG m .nilFunc .dP
 |cT:dG m (.map none) .cT
 |eV:dG m .nilIface .eV
 |P3 (v:Value) (h:v.oneCell'=true):dG m v .P3
 |emp (a:Option Addr) (nl:Option Bool) (h0:nl=some true->a=none) (h1:nl=some false->a≠none) (h2:∀A,a=some A->JK A):dG m (.slice a 0 0) (.emp nl)
 |aF (a:Option Addr) (cap:Nat) (nn:Bool) (n:Nat) (xs:List PV) (ds:Nat->List Value) (h0:xs.length<=cap) (h1:cap<=9223372036854775807)
   (h2:a=none->cap=0) (h3:∀A,a=some A->JK A) (h4:nn=true->a≠none)
   (h5:∀(i:Nat) (x:PV),xs[i]?=some x->∃b o,a=some ⟨b,o,none⟩/\At m b (o+i*n) (ds i))
   (h6:∀(i:Nat) (x:PV),xs[i]?=some x->(ds i).length=n/\x.cells.length=n/\∀d∈ds i,d.oneCell'=true)
   (h7:∀(i:Nat) (x:PV) (j:Nat) (d:Value) (c:PV),xs[i]?=some x->(ds i)[j]?=some d->x.cells[j]?=some c->dG m d c):dG m (.slice a xs.length cap) (.aF nn n xs)
 |ref (b o:Nat) (cs:List PV) (ds:List Value) (h0:At m b o ds) (h1:ds.length=cs.length) (h2:∀d∈ds,d.oneCell'=true)
   (h3:∀(j:Nat) (d:Value) (c:PV),ds[j]?=some d->cs[j]?=some c->dG m d c):dG m (.pointer (some ⟨b,o,none⟩)) (.ref cs)
 |fn (f:FuncId) (vf vc:Array Value) (fs cs:List PV) (h0:vf.size=fs.length) (h1:vc.size=cs.length)
   (h2:∀(j:Nat) (d:Value) (c:PV),vf[j]?=some d->fs[j]?=some c->dG m d c) (h3:∀(j:Nat) (d:Value) (c:PV),vc[j]?=some d->cs[j]?=some c->dG m d c):dG m (.func (.func f) vf vc) (.fn f fs cs)
 |agg (vs:Array Value) (cs:List PV) (h0:vs.size=cs.length) (h1:∀d∈vs,d.oneCell'=true) (h2:∀(j:Nat) (d:Value) (c:PV),vs[j]?=some d->cs[j]?=some c->dG m d c):dG m (.agg vs) (.agg cs)
 |bL (vs:Array Value) (cs:List PV) (h0:vs.size=cs.length) (h2:∀(j:Nat) (d:Value) (c:PV),vs[j]?=some d->cs[j]?=some c->dG m d c):dG m (.tuple vs) (.bL cs)
 |iface (t:TypeId) (v:Value) (x:PV) (h:dG m v x):dG m (.iface t v) (.iface t x)
theorem dG.mono {m m':Mem}(hm:Le m m'){v:Value}{x:PV}(h:dG m v x):dG m' v x:=by
 induction h with
 |int k n=>exact .int k n
 |bool b=>exact .bool b
 |str s=>exact .str s
 |eU=>exact .eU
 |dP=>exact .dP
 |cT=>exact .cT
 |eV=>exact .eV
 |P3 v h=>exact .P3 v h
 |emp a nl h0 h1 h2=>exact .emp a nl h0 h1 h2
 |aF a cap nn n xs ds h0 h1 h2 h3 h4 h5 h6 h7 ih=>exact .aF a cap nn n xs ds h0 h1 h2 h3 h4 (fun i x hx=>let ⟨b,o,e,k⟩:=h5 i x hx;⟨b,o,e,k.mono hm⟩) h6 ih
 |ref b o cs ds h0 h1 h2 h3 ih=>exact .ref b o cs ds (h0.mono hm) h1 h2 ih
 |fn f vf vc fs cs h0 h1 h2 h3 ih1 BI=>exact .fn f vf vc fs cs h0 h1 ih1 BI
 |agg vs cs h0 h1 h2 ih=>exact .agg vs cs h0 h1 ih
 |bL vs cs h0 h2 ih=>exact .bL vs cs h0 ih
 |iface t v x h ih=>exact .iface t v x ih
inductive Site where
 |par (i:Nat)
 |loc (d j:Nat)
 |ret (j:Nat)
 deriving DecidableEq,Inhabited
def Site.fP (d:Nat):Site->Bool
 |.loc e _=>d==e
 |_=>false
structure Loc where
 b:Nat
 o:Nat
 cap:Nat
 real:Bool
 deriving Inhabited
inductive AV where
 |any
 |pv (x:PV)
 |ptr (s:Site) (off:Nat)
 |lB (s:Site) (n i off:Nat)
 |vec (s:Site) (n lo len:Nat)
 |mp (s:Site)
 |nJ (s:Site)
 |fn (f:FuncId) (fs cs:List AV)
 |agg (cs:List AV)
 |bL (vs:List AV)
 deriving Inhabited
def AV.cells:AV->List AV
 |.agg cs=>cs
 |.pv (.agg cs)=>cs.map .pv
 |a=>[a]
inductive bO (ρ:Site->Loc)(m:Mem):Value->AV->Prop where
 |any (v):bO ρ m v .any
 |pv (v x) (h:dG m v x):bO ρ m v (.pv x)
 |ptr (s off):bO ρ m (.pointer (some ⟨(ρ s).b,off,none⟩)) (.ptr s off)
 |lB (s n i off):bO ρ m (.pointer (some ⟨(ρ s).b,(ρ s).o+i*n+off,none⟩)) (.lB s n i off)
 |vec (s n lo len cap) (h0:len<=cap) (h1:lo+cap<=(ρ s).cap) (h2:(ρ s).real=true):bO ρ m (.slice (some ⟨(ρ s).b,(ρ s).o+lo*n,none⟩) len cap) (.vec s n lo len)
 |mZ (s n lo a) (h:∀A,a=some A->JK A):bO ρ m (.slice a 0 0) (.vec s n lo 0)
 |mp (s):bO ρ m (.map (some (ρ s).b)) (.mp s)
 |nJ (s):bO ρ m (.func (.yield (ρ s).b) #[] #[]) (.nJ s)
 |fn (f:FuncId) (vf vc:Array Value) (fs cs:List AV) (h0:vf.size=fs.length) (h1:vc.size=cs.length)
   (h2:∀(j:Nat) (d:Value) (c:AV),vf[j]?=some d->fs[j]?=some c->bO ρ m d c) (h3:∀(j:Nat) (d:Value) (c:AV),vc[j]?=some d->cs[j]?=some c->bO ρ m d c):bO ρ m (.func (.func f) vf vc) (.fn f fs cs)
 |agg (vs:Array Value) (cs:List AV) (h0:vs.size=cs.length) (h1:∀d∈vs,d.oneCell'=true) (h2:∀(j:Nat) (d:Value) (c:AV),vs[j]?=some d->cs[j]?=some c->bO ρ m d c):bO ρ m (.agg vs) (.agg cs)
 |bL (vs:Array Value) (cs:List AV) (h0:vs.size=cs.length) (h2:∀(j:Nat) (d:Value) (c:AV),vs[j]?=some d->cs[j]?=some c->bO ρ m d c):bO ρ m (.tuple vs) (.bL cs)
mutual
def AV.has (d:Nat):AV->Bool
 |.any=>false
 |.pv _=>false
 |.ptr s _=>s.fP d
 |.lB s _ _ _=>s.fP d
 |.vec s _ _ _=>s.fP d
 |.mp s=>s.fP d
 |.nJ s=>s.fP d
 |.fn _ fs cs=>AV.qT d fs||AV.qT d cs
 |.agg cs=>AV.qT d cs
 |.bL vs=>AV.qT d vs
def AV.qT (d:Nat):List AV->Bool
 |[]=>false
 |a::r=>AV.has d a||AV.qT d r
end
theorem AV.NM {d:Nat}:∀{l:List AV} {i:Nat} {a:AV},AV.qT d l=false->l[i]?=some a->a.has d=false
 |[],i,a,_,h=>by simp at h
 |b::r,0,a,hl,h=>by
  simp[AV.qT]at hl h;subst h;exact hl.1
 |b::r,i+1,a,hl,h=>by
  simp only[AV.qT,Bool.or_eq_false_iff]at hl;exact AV.NM hl.2 (by simpa using h)
theorem bO.mono {ρ bV:Site->Loc}{m m':Mem}(hm:Le m m'){d:Nat}(J8:∀s,s.fP d=false->bV s=ρ s){v:Value}{a:AV}(h:bO ρ m v a)(ha:a.has d=false):bO bV m' v a:=by
 induction h with
 |any v=>exact .any v
 |pv v x h=>exact .pv v x (h.mono hm)
 |ptr s off=>rw[AV.has]at ha;rw[<-J8 s ha];exact .ptr s off
 |lB s n i off=>rw[AV.has]at ha;rw[<-J8 s ha];exact .lB s n i off
 |vec s n lo len cap h0 h1 h2=>rw[AV.has]at ha;rw[<-J8 s ha]at h1 h2 ⊢;exact .vec s n lo len cap h0 h1 h2
 |mZ s n lo a h=>exact .mZ s n lo a h
 |mp s=>rw[AV.has]at ha;rw[<-J8 s ha];exact .mp s
 |nJ s=>rw[AV.has]at ha;rw[<-J8 s ha];exact .nJ s
 |fn f vf vc fs cs h0 h1 h2 h3 BI OV=>
  simp only[AV.has,Bool.or_eq_false_iff]at ha;exact .fn f vf vc fs cs h0 h1 (fun j d c k1 k2=>BI j d c k1 k2 (AV.NM ha.1 k2)) (fun j d c k1 k2=>OV j d c k1 k2 (AV.NM ha.2 k2))
 |agg vs cs h0 h1 h2 ih=>
  rw[AV.has]at ha;exact .agg vs cs h0 h1 (fun j d c k1 k2=>ih j d c k1 k2 (AV.NM ha k2))
 |bL vs cs h0 h2 ih=>
  rw[AV.has]at ha;exact .bL vs cs h0 (fun j d c k1 k2=>ih j d c k1 k2 (AV.NM ha k2))
theorem bO.more {ρ:Site->Loc}{m m':Mem}(hm:Le m m'){v:Value}{a:AV}(h:bO ρ m v a):bO ρ m' v a:=by
 induction h with
 |any v=>exact .any v
 |pv v x h=>exact .pv v x (h.mono hm)
 |ptr s off=>exact .ptr s off
 |lB s n i off=>exact .lB s n i off
 |vec s n lo len cap h0 h1 h2=>exact .vec s n lo len cap h0 h1 h2
 |mZ s n lo a h=>exact .mZ s n lo a h
 |mp s=>exact .mp s
 |nJ s=>exact .nJ s
 |fn f vf vc fs cs h0 h1 h2 h3 BI OV=>exact .fn f vf vc fs cs h0 h1 BI OV
 |agg vs cs h0 h1 h2 ih=>exact .agg vs cs h0 h1 ih
 |bL vs cs h0 h2 ih=>exact .bL vs cs h0 ih
structure Ic where
 rd:Loc->Mem->World->Prop
 ins:Loc->World->List Nat
 same:∀(l:Loc) (w w':World),w'.heap[l.b]?=w.heap[l.b]?->ins l w'=ins l w
 obj:∀(l:Loc) (m:Mem) (w:World),rd l m w->∃cs T,w.heap[l.b]?=some (.cells cs T (0,0))
 vX:∀(l:Loc) (m:Mem) (w:World) (k:Nat),rd l m w->k∈ins l w->∃cs T,w.heap[k]?=some (.cells cs T (0,0))
 more:∀(l:Loc) (m m':Mem) (w w':World),rd l m w->Le m m'->w'.heap[l.b]?=w.heap[l.b]?->(∀k∈ins l w,w'.heap[k]?=w.heap[k]?)->rd l m' w'
inductive aJ where
 |cells (cs:List AV)
 |arr (e:TypeId) (n:Nat) (xs:List PV)
 |map (es:List (PV×PV))
 |loop (C:Code×Code) (ps:List Nat) (nt:Nat) (tm:List (Nat×AV)) (st:Option Code)
 |ext (E:Ic)
 deriving Inhabited
def ins (w:World)(l:Loc):aJ->List Nat
 |.ext E=>E.ins l w
 |_=>[]
def fK (ρ:Site->Loc)(w:World)(s:Site)(b:aJ)(k:Nat):Prop:=((ρ s).real=true/\(ρ s).b=k)\/k∈ins w (ρ s) b
def kO (ρ:Site->Loc)(m:Mem)(w:World)(s:Site):aJ->Prop
 |.cells bS=>(ρ s).real=true/\∃cs T,w.heap[(ρ s).b]?=some (.cells cs T (0,0))/\cs.size=bS.length/\∀(i:Nat) (c:Value) (a:AV),cs[i]?=some c->bS[i]?=some a->c.oneCell'=true/\bO ρ m c a
 |.arr e n xs=>0<n/\(((ρ s).real=false/\xs=[]/\(ρ s).cap=0)\/((ρ s).real=true/\∃cs,w.heap[(ρ s).b]?=some (.cells cs e (0,0))/\(ρ s).o+(ρ s).cap*n<=cs.size/\xs.length<=(ρ s).cap/\(ρ s).cap<=maxLen/\
   ∀(i:Nat) (x:PV),xs[i]?=some x->x.cells.length=n/\∀(j:Nat) (c:PV),x.cells[j]?=some c->∃d,cs[(ρ s).o+i*n+j]?=some d/\d.oneCell'=true/\dG m d c))
 |.map es=>(ρ s).real=true/\∃fD clock,w.heap[(ρ s).b]?=some (.map fD clock)/\fD.size=es.length/\∀(i:Nat) (e:MapEntry) (p:PV×PV),fD[i]?=some e->es[i]?=some p->dG m e.key p.1/\dG m e.val p.2
 |.loop C ps nt tm st=>(ρ s).real=true/\∃r:Loop,w.heap[(ρ s).b]?=some (.loop r)/\(r.state=match st with|none=>.ready|some _=>.done)/\r.pending=st/\r.params=ps.toArray/\r.assign=C.1/\r.body=C.2/\r.tmps.size=nt/\
   ∀(t:Nat) (a:AV),tm.lookup t=some a->∃v,r.tmps[t]?=some v/\bO ρ m v a
 |.ext E=>(ρ s).real=true/\E.rd (ρ s) m w
def aJ.has (d:Nat):aJ->Bool
 |.cells bS=>AV.qT d bS
 |.loop _ _ _ tm _=>AV.qT d (tm.map (·.2))
 |_=>false
structure AS where
 tm:List (Nat×AV)
 bx:List (Site×aJ)
def AS.t (σ:AS)(k:Nat):Option AV:=σ.tm.lookup k
def AS.b (σ:AS)(s:Site):Option aJ:=σ.bx.lookup s
structure cW (bs:List Nat)(w w':World):Prop where
 os:w'.os=w.os
 tape:w'.tape=w.tape
 output:w'.output=w.output
 size:w.heap.size<=w'.heap.size
 block:∀k,k<w.heap.size->k∉bs->w'.heap[k]?=w.heap[k]?
theorem cW.tI (bs:List Nat)(w:World):cW bs w w:=⟨rfl,rfl,rfl,fG _,fun _ _ _=>rfl⟩
theorem cW.trans {bs:List Nat}{a b c:World}(h:cW bs a b)(k:cW bs b c):cW bs a c:=
 ⟨k.os.trans h.os,k.tape.trans h.tape,k.output.trans h.output,lC h.size k.size,fun i hi hn=>(k.block i (Nat.lt_of_lt_of_le hi h.size) hn).trans (h.block i hi hn)⟩
theorem cW.ext {w w':World}(h:cW [] w w'):Ext w w':=⟨h.os,h.tape,h.output,h.size,fun k hk=>h.block k hk (by simp)⟩
theorem cW.Ev {w w':World}(h:Ext w w')(bs:List Nat):cW bs w w':=⟨h.os,h.tape,h.output,h.size,fun k hk _=>h.block k hk⟩
structure Env (w0:World) where
 m:Mem
 ρ:Site->Loc
 rest:List Deferred
 uB:nI m w0
 strict:Bool
def WJ (D:Nat):Deferred:={ target:=.collected D,args:=#[]}
def Fh (m0 m:Mem)(pl:List Nat):Prop:=Le m0 m/\∀k∈pl,∀o,m0 k o=none
theorem Fh.trans {a b c:Mem}{pl:List Nat}(h:Fh a b pl)(k:Le b c):Fh a c pl:=⟨h.1.trans k,h.2⟩
def Ib (rest:List Deferred)(ds:List Nat)(l:List Deferred):Prop:=∃d1 d2,ds=d1++d2/\l=d1.map WJ++rest++d2.map WJ
theorem Ib.nil {ds:List Nat}{l:List Deferred}(h:Ib [] ds l):l=ds.map WJ:=by
 obtain⟨d1,d2,rfl,rfl⟩:=h;simp
def Nod (b:Bool)(ds:List Nat):Prop:=ds.Nodup/\(b=true->ds=[])
theorem xZ {b:Bool}:Nod b []:=⟨by simp,fun _=>rfl⟩
theorem B7:Ib [] [] []:=⟨[],[],rfl,rfl⟩
structure Sat (N:Nat)(w0:World)(m0:Env w0)(pl:List Nat)(σ:AS)(ρ:Site->Loc)(m:Mem)(act:Act)(w:World):Prop where
 sE:∃ds:List Nat,Ib m0.rest ds act.defers/\Nod m0.strict ds/\∀D∈ds,(w0.heap.size<=D\/D∈pl)/\w.heap[D]?=some (.deferred (some []))
 sz:act.tmps.size=N
 tm:∀t a,σ.t t=some a->∃v,act.tmps[t]?=some v/\bO ρ m v a
 bx:∀s b,σ.b s=some b->kO ρ m w s b
 dY:∀s s' b b' k,σ.b s=some b->σ.b s'=some b'->fK ρ w s b k->fK ρ w s' b' k->s=s'
 mem:Le m w.mem
 eL:∀s b k,σ.b s=some b->fK ρ w s b k->∀o,m k o=none
 fL:∀s b k,σ.b s=some b->fK ρ w s b k->w0.heap.size<=k\/k∈pl
 keep:cW pl w0 w
 base:Fh m0.m m pl
 qC:∀b o v,m b o=some v->m0.m b o=some v\/w0.heap.size<=b\/b∈pl
 par:∀i,ρ (.par i)=m0.ρ (.par i)
theorem mT {α β:Type}[BEq α][LawfulBEq α]{k:α}{v:β}{l:List (α×β)}:List.lookup k ((k,v)::l)=some v:=by simp[List.lookup]
theorem jC {α β:Type}[BEq α][LawfulBEq α]{k k':α}{v:β}{l:List (α×β)}(h:k≠k'):List.lookup k ((k',v)::l)=List.lookup k l:=by
 have:(k==k')=false:=by simpa using h
 simp[List.lookup,this]
theorem xN {ρ:Site->Loc}{w:World}{s:Site}{b:aJ}(hr:(ρ s).real=true):fK ρ w s b (ρ s).b:=.inl ⟨hr,rfl⟩
section
variable {N:Nat}{w0:World}{m0:Env w0}{pl:List Nat}{σ:AS}{ρ:Site->Loc}{m:Mem}{act:Act}{w:World}
theorem Sat.inj (h:Sat N w0 m0 pl σ ρ m act w)(s s':Site)(b b':aJ)(k:σ.b s=some b)(k':σ.b s'=some b')(r:(ρ s).real=true)(r':(ρ s').real=true)(e:(ρ s).b=(ρ s').b):s=s':=
 h.dY s s' b b' _ k k' (xN r) (by rw[e];exact xN r')
theorem Sat.off (h:Sat N w0 m0 pl σ ρ m act w)(s:Site)(b:aJ)(k:σ.b s=some b)(r:(ρ s).real=true):∀o,m (ρ s).b o=none:=h.eL s b _ k (xN r)
theorem Sat.own (h:Sat N w0 m0 pl σ ρ m act w)(s:Site)(b:aJ)(k:σ.b s=some b)(r:(ρ s).real=true):w0.heap.size<=(ρ s).b\/(ρ s).b∈pl:=h.fL s b _ k (xN r)
end
theorem Sat.uB {N:Nat}{w0:World}{m0:Env w0}{pl:List Nat}{σ:AS}{ρ:Site->Loc}{m:Mem}{act:Act}{w:World}(h:Sat N w0 m0 pl σ ρ m act w):nI m w:=
 (m0.uB.keep fun k o v hk hv=>h.keep.block k hk fun hp=>by rw[h.base.2 k hp o]at hv;cases hv).mono h.base.1
theorem Zqk {w w':World}{l:Loc}{b:aJ}(h:w'.heap[l.b]?=w.heap[l.b]?):ins w' l b=ins w l b:=by
 cases b with
 |ext E=>exact E.same _ _ _ h
 |_=>rfl
theorem kO.vX {ρ:Site->Loc}{m:Mem}{w:World}{s:Site}{b:aJ}(h:kO ρ m w s b){k:Nat}(hk:k∈ins w (ρ s) b):∃cs T,w.heap[k]?=some (.cells cs T (0,0)):=by
 cases b with
 |ext E=>exact E.vX _ _ _ _ h.2 hk
 |_=>cases hk
theorem kO.lt {ρ:Site->Loc}{m:Mem}{w:World}{s:Site}{b:aJ}(h:kO ρ m w s b)(hr:(ρ s).real=true):(ρ s).b<w.heap.size:=by
 cases b with
 |cells bS=>obtain⟨_,cs,T,h1,_⟩:=h;exact(qE.1 h1).1
 |arr e n xs=>
  obtain⟨_,h|⟨_,cs,h1,_⟩⟩:=h
  .rw[h.1]at hr;cases hr
  .exact(qE.1 h1).1
 |map es=>obtain⟨_,en,cl,h1,_⟩:=h;exact(qE.1 h1).1
 |loop C ps nt tm st=>obtain⟨_,r,h1,_⟩:=h;exact(qE.1 h1).1
 |ext E=>obtain⟨cs,T,h1⟩:=E.obj _ _ _ h.2;exact(qE.1 h1).1
theorem kO.G1 {ρ:Site->Loc}{m:Mem}{w:World}{s:Site}{b:aJ}{k:Nat}(h:kO ρ m w s b)(hk:fK ρ w s b k):k<w.heap.size:=by
 rcases hk with⟨hr,rfl⟩|hk
 .exact h.lt hr
 .obtain⟨cs,T,h1⟩:=h.vX hk;exact(qE.1 h1).1
theorem kO.obj {ρ:Site->Loc}{m:Mem}{w:World}{s:Site}{b:aJ}(h:kO ρ m w s b)(hr:(ρ s).real=true):w.heap[(ρ s).b]?≠some (.deferred (some [])):=by
 intro e;cases b with
 |cells bS=>obtain⟨_,cs,T,h1,_⟩:=h;rw[h1]at e;cases e
 |arr e' n xs=>
  obtain⟨_,h|⟨_,cs,h1,_⟩⟩:=h
  .rw[h.1]at hr;cases hr
  .rw[h1]at e;cases e
 |map es=>obtain⟨_,en,cl,h1,_⟩:=h;rw[h1]at e;cases e
 |loop C ps nt tm st=>obtain⟨_,r,h1,_⟩:=h;rw[h1]at e;cases e
 |ext E=>obtain⟨cs,T,h1⟩:=E.obj _ _ _ h.2;rw[h1]at e;cases e
theorem kO.Wy {ρ:Site->Loc}{m:Mem}{w:World}{s:Site}{b:aJ}{k:Nat}(h:kO ρ m w s b)(hk:fK ρ w s b k):w.heap[k]?≠some (.deferred (some [])):=by
 rcases hk with⟨hr,rfl⟩|hk
 .exact h.obj hr
 .obtain⟨cs,T,h1⟩:=h.vX hk;intro e;rw[h1]at e;cases e
theorem ZdR {α β:Type}[BEq α][LawfulBEq α]{k:α}{v:β}:∀{l:List (α×β)},l.lookup k=some v->∃i:Nat,(l.map (·.2))[i]?=some v
 |[],h=>by simp[List.lookup]at h
 |(a,b)::r,h=>by
  by_cases e:k=a
  .subst e;rw[mT]at h;cases h;exact⟨0,rfl⟩
  .rw[jC e]at h;obtain⟨i,hi⟩:=ZdR h;exact⟨i+1,by simpa using hi⟩
theorem dS {ρ:Site->Loc}{w w':World}{s:Site}{b:aJ}(h:w'.heap[(ρ s).b]?=w.heap[(ρ s).b]?){k:Nat}:fK ρ w' s b k↔fK ρ w s b k:=by
 unfold fK;rw[Zqk h]
theorem kO.dS {ρ:Site->Loc}{m:Mem}{w w':World}{s:Site}{b:aJ}(hB:kO ρ m w s b)(h:(ρ s).real=true->w'.heap[(ρ s).b]?=w.heap[(ρ s).b]?){k:Nat}:fK ρ w' s b k↔fK ρ w s b k:=by
 cases b with
 |ext E=>exact Go.Proofs.YtlllhbmbnjnoiaaGreatDoor.dS (h hB.1)
 |_=>exact Iff.rfl
theorem Q5 {ρ bV:Site->Loc}{w:World}{s:Site}{b:aJ}{k:Nat}(h:bV s=ρ s):fK bV w s b k↔fK ρ w s b k:=by unfold fK;rw[h]
theorem kO.gen {ρ bV:Site->Loc}{m m':Mem}{w w':World}{s s':Site}{b b':aJ}(h:kO ρ m w s b)(f:AV->AV)(hf:b'=match b with
   |.cells bS=>.cells (bS.map f)
   |.loop C ps nt tm st=>.loop C ps nt (tm.map fun p=>(p.1,f p.2)) st
   |b=>b) (hm:Le m m') (hs:bV s'=ρ s) (hv:∀v a,bO ρ m v a->(∃bS,b=.cells bS/\a∈bS)\/(∃C ps nt tm st t,b=.loop C ps nt tm st/\(t,a)∈tm)->bO bV m' v (f a))
  (hb:∀k,fK ρ w s b k->w'.heap[k]?=w.heap[k]?):kO bV m' w' s' b':=by
 subst hf;cases b with
 |cells bS=>
  obtain⟨h0,cs,T,h1,h2,h3⟩:=h;refine⟨by rw[hs];exact h0,cs,T,by rw[hs,hb _ (xN h0)];exact h1,by rw[fV];exact h2,fun i c a k1 k2=>?_⟩;rw[bW]at k2;obtain⟨a',k3,rfl⟩:=dZ.1 k2;exact⟨(h3 i c a' k1 k3).1,hv _ _ (h3 i c a' k1 k3).2 (.inl ⟨bS,rfl,dK k3⟩)⟩
 |arr e n xs=>
  obtain⟨h0,h|⟨h1,cs,h2,h3,h4,h5,h6⟩⟩:=h
  .exact⟨h0,.inl (by rw[hs];exact h)⟩
  .refine⟨h0,.inr ⟨by rw[hs];exact h1,cs,by rw[hs,hb _ (xN h1)];exact h2,by rw[hs];exact h3,by rw[hs];exact h4,by rw[hs];exact h5,fun i x k1=>⟨(h6 i x k1).1,fun j c k2=>?_⟩⟩⟩;obtain⟨d,k3,k4,k5⟩:=(h6 i x k1).2 j c k2;exact⟨d,by rw[hs];exact k3,k4,k5.mono hm⟩
 |map es=>
  obtain⟨h0,en,cl,h1,h2,h3⟩:=h;exact⟨by rw[hs];exact h0,en,cl,by rw[hs,hb _ (xN h0)];exact h1,h2,fun i e p k1 k2=>⟨(h3 i e p k1 k2).1.mono hm,(h3 i e p k1 k2).2.mono hm⟩⟩
 |loop C ps nt tm st=>
  obtain⟨h0,r,h1,h2,h3,h4,h5,h6,h7,h8⟩:=h;refine⟨by rw[hs];exact h0,r,by rw[hs,hb _ (xN h0)];exact h1,h2,h3,h4,h5,h6,h7,fun t a k=>?_⟩;have hl:∀l:List (Nat×AV),(l.map fun p=>(p.1,f p.2)).lookup t=(l.lookup t).map f:=by
   intro l;induction l with
   |nil=>rfl
   |cons p r ih=>
    obtain⟨x,y⟩:=p;by_cases e:t=x
    .subst e;simp[List.lookup]
    .rw[iL,jC e,jC e];exact ih
  rw[hl]at k;obtain⟨a',k3,rfl⟩:=dZ.1 k;obtain⟨v,k4,k5⟩:=h8 t a' k3;have gQ:∀l:List (Nat×AV),l.lookup t=some a'->(t,a')∈l:=by
   intro l;induction l with
   |nil=>intro h;simp[List.lookup]at h
   |cons p r ih=>
    obtain⟨x,y⟩:=p;intro h;by_cases e:t=x
    .subst e;rw[mT]at h;cases h;simp
    .rw[jC e]at h;simp[ih h]
  exact⟨v,k4,hv _ _ k5 (.inr ⟨C,ps,nt,tm,st,t,rfl,gQ _ k3⟩)⟩
 |ext E=>
  refine⟨by rw[hs];exact h.1,?_⟩;rw[hs];exact E.more _ _ _ _ _ h.2 hm (hb _ (xN h.1)) (fun k hk=>hb k (.inr hk))
theorem kO.more {ρ:Site->Loc}{m m':Mem}{w w':World}{s:Site}{b:aJ}(h:kO ρ m w s b)(hm:Le m m')(hb:∀k,fK ρ w s b k->w'.heap[k]?=w.heap[k]?):kO ρ m' w' s b:=
 h.gen id (by cases b<;>simp) hm rfl (fun v a hv _=>hv.more hm) hb
theorem aJ.ZxH {d:Nat}{b:aJ}(hd:b.has d=false){a:AV}(h:(∃bS,b=.cells bS/\a∈bS)\/(∃C ps nt tm st t,b=.loop C ps nt tm st/\(t,a)∈tm)):a.has d=false:=by
 rcases h with⟨bS,rfl,h⟩|⟨C,ps,nt,tm,st,t,rfl,h⟩
 .obtain⟨i,hi⟩:=iJ.1 h;exact AV.NM hd hi
 .obtain⟨i,hi⟩:=iJ.1 h;have HY:AV.qT d (tm.map (·.2))=false:=hd;exact AV.NM (i:=i) HY (by rw[bW,hi];rfl)
theorem kO.stay {ρ bV:Site->Loc}{m m':Mem}{w w':World}{s:Site}{b:aJ}(h:kO ρ m w s b)(hm:Le m m'){d:Nat}(J8:∀s,s.fP d=false->bV s=ρ s)(hs:s.fP d=false)(hd:b.has d=false)
  (hb:∀k,fK ρ w s b k->w'.heap[k]?=w.heap[k]?):kO bV m' w' s b:=
 h.gen id (by cases b<;>simp) hm (J8 s hs) (fun v a hv hw=>hv.mono hm J8 (aJ.ZxH hd hw)) hb
section
variable {N:Nat}{w0:World}{m0:Env w0}{pl:List Nat}{σ:AS}{ρ:Site->Loc}{m:Mem}{act:Act}{w w':World}
theorem Sat.Zx4 (h:Sat N w0 m0 pl σ ρ m act w){τ:AS}(ht:∀t a,τ.t t=some a->σ.t t=some a\/a=.any/\∃c,σ.t t=some c)(hb:∀s b,τ.b s=some b->σ.b s=some b):Sat N w0 m0 pl τ ρ m act w:=
 ⟨h.sE,h.sz,fun t a k=>by
  rcases ht t a k with k|⟨rfl,c,k⟩
  .exact h.tm t a k
  .obtain⟨v,k1,_⟩:=h.tm t c k;exact⟨v,k1,.any v⟩,fun s b k=>h.bx s b (hb s b k),fun s s' b b' i k k'=>h.dY s s' b b' i (hb s b k) (hb s' b' k'),h.mem,fun s b i k=>h.eL s b i (hb s b k),fun s b i k=>h.fL s b i (hb s b k),h.keep,h.base,h.qC,h.par⟩
theorem Sat.put (h:Sat N w0 m0 pl σ ρ m act w){d:Nat}(hd:d<N){v:Value}{a:AV}(hv:bO ρ m v a):Sat N w0 m0 pl { σ with tm:=(d,a)::σ.tm } ρ m (act.put (some d) v) w:=by
 refine⟨h.sE,by simp[Act.put,h.sz],fun t a' k=>?_,h.bx,h.dY,h.mem,h.eL,h.fL,h.keep,h.base,h.qC,h.par⟩;unfold AS.t at k;rcases Nat.decEq t d with dA|rfl
 .rw[jC dA]at k;obtain⟨u,k1,k2⟩:=h.tm t a' k;exact⟨u,by show(act.tmps.setIfInBounds d v)[t]?=some u;rw[Array.getElem?_setIfInBounds_ne (fun e=>dA e.symm)];exact k1,k2⟩
 .rw[mT]at k;cases k;exact⟨v,by show(act.tmps.setIfInBounds t v)[t]?=some v;rw[Array.getElem?_setIfInBounds_self_of_lt (by rw[h.sz];exact hd)],hv⟩
theorem Sat.ext (h:Sat N w0 m0 pl σ ρ m act w)(hx:Ext w w'):Sat N w0 m0 pl σ ρ m act w':=by
 have hq:∀s b,σ.b s=some b->∀k,fK ρ w' s b k↔fK ρ w s b k:=fun s b k i=>(h.bx s b k).dS (fun r=>hx.block _ ((h.bx s b k).lt r))
 exact⟨let ⟨ds,h1,h0,h2⟩:=h.sE;⟨ds,h1,h0,fun D hD=>⟨(h2 D hD).1,by rw[hx.block _ (qE.1 (h2 D hD).2).1];exact(h2 D hD).2⟩⟩,h.sz,h.tm,fun s b k=>(h.bx s b k).more (Le.refl _) (fun i r=>hx.block _ ((h.bx s b k).G1 r)),
  fun s s' b b' i k k' r r'=>h.dY s s' b b' i k k' ((hq s b k i).1 r) ((hq s' b' k' i).1 r'),h.mem.trans hx.le,fun s b i k r=>h.eL s b i k ((hq s b k i).1 r),fun s b i k r=>h.fL s b i k ((hq s b k i).1 r),h.keep.trans (cW.Ev hx pl),h.base,h.qC,h.par⟩
end
def AV.bG (d:Nat)(a:AV):AV:=if a.has d=true then .any else a
def aJ.bG (d:Nat):aJ->aJ
 |.cells bS=>.cells (bS.map (AV.bG d))
 |.loop C ps nt tm st=>.loop C ps nt (tm.map fun p=>(p.1,p.2.bG d)) st
 |b=>b
def AS.bG (d:Nat)(σ:AS):AS:=⟨σ.tm.map fun p=>(p.1,p.2.bG d),(σ.bx.filter fun p=>!p.1.fP d).map fun p=>(p.1,p.2.bG d)⟩
def AS.drop (s:Site)(σ:AS):AS:=⟨σ.tm,σ.bx.filter fun p=>!decide (p.1=s)⟩
def AS.set (s:Site)(b:aJ)(σ:AS):AS:=⟨σ.tm,(s,b)::σ.bx⟩
def AS.put (d:Nat)(a:AV)(σ:AS):AS:=⟨(d,a)::σ.tm,σ.bx⟩
def AS.add (s:Site)(b:aJ)(σ:AS):AS:=⟨σ.tm,(s,b)::σ.bx⟩
theorem AV.Ex (d:Nat)(a:AV):(a.bG d).has d=false:=by
 unfold AV.bG;split
 .rfl
 .rename_i h;simpa using h
theorem AV.Xh (d:Nat):∀l:List AV,AV.qT d (l.map (AV.bG d))=false
 |[]=>rfl
 |a::r=>by simp[AV.qT,AV.Ex,AV.Xh d r]
theorem aJ.Ex (d:Nat)(b:aJ):(b.bG d).has d=false:=by
 cases b with
 |cells bS=>exact AV.Xh d bS
 |arr e n xs=>rfl
 |map es=>rfl
 |loop C ps nt tm st=>
  show AV.qT d ((tm.map fun p=>(p.1,p.2.bG d)).map (·.2))=false;rw[List.map_map]
  have:((fun p:Nat×AV=>p.2)∘fun p:Nat×AV=>(p.1,p.2.bG d))=AV.bG d∘(fun p:Nat×AV=>p.2):=rfl
  rw[this,<-List.map_map];exact AV.Xh d _
 |ext E=>rfl
theorem SW {α β γ:Type}[BEq α][LawfulBEq α](f:β->γ)(k:α):∀l:List (α×β),(l.map fun p=>(p.1,f p.2)).lookup k=(l.lookup k).map f
 |[]=>rfl
 |(a,b)::r=>by
  by_cases h:k=a
  .subst h;simp[List.lookup]
  .rw[iL,jC h,jC h];exact SW f k r
theorem TG {α β:Type}[BEq α][LawfulBEq α](q:α->Bool)(k:α):∀l:List (α×β),(l.filter fun p=>q p.1).lookup k=if q k=true then l.lookup k else none
 |[]=>by simp
 |(a,b)::r=>by
  rw[xL];by_cases h:k=a
  .subst h;cases hq:q k
   .simp only[Bool.false_eq_true,if_false];rw[TG q k r];simp[hq]
   .simp[List.lookup]
  .cases hq:q a
   .simp only[Bool.false_eq_true,if_false];rw[TG q k r,jC h]
   .simp only[if_true];rw[jC h,jC h];exact TG q k r
theorem AS.Kq (d:Nat)(σ:AS)(k:Nat):(σ.bG d).t k=(σ.t k).map (AV.bG d):=SW _ _ _
theorem AS.NO (d:Nat)(σ:AS)(s:Site):(σ.bG d).b s=if s.fP d=true then none else(σ.b s).map (aJ.bG d):=by
 show((σ.bx.filter fun p=>!p.1.fP d).map fun p=>(p.1,p.2.bG d)).lookup s=_;rw[SW (aJ.bG d) s,show List.lookup s (List.filter (fun p=>!p.1.fP d) σ.bx)=_ from TG (fun s=>!s.fP d) s σ.bx];cases s.fP d<;>simp[AS.b]
theorem AS.JE (s:Site)(σ:AS)(s':Site):(σ.drop s).b s'=if s'=s then none else σ.b s':=by
 show(σ.bx.filter fun p=>!decide (p.1=s)).lookup s'=_;rw[show List.lookup s' (List.filter (fun p=>!decide (p.1=s)) σ.bx)=_ from TG (fun x=>!decide (x=s)) s' σ.bx];by_cases h:s'=s<;>simp[h,AS.b]
theorem AS.SJ (s:Site)(b:aJ)(σ:AS)(s':Site):(σ.add s b).b s'=if s'=s then some b else σ.b s':=by
 show((s,b)::σ.bx).lookup s'=_;by_cases h:s'=s
 .subst h;rw[mT,if_pos rfl]
 .rw[jC h,if_neg h];rfl
theorem AS.VW (s:Site)(b:aJ)(σ:AS)(s':Site):(σ.set s b).b s'=if s'=s then some b else σ.b s':=AS.SJ s b σ s'
theorem AS.ZxN (d:Nat)(a:AV)(σ:AS)(k:Nat):(σ.put d a).t k=if k=d then some a else σ.t k:=by
 show((d,a)::σ.tm).lookup k=_;by_cases h:k=d
 .subst h;rw[mT,if_pos rfl]
 .rw[jC h,if_neg h];rfl
structure qW (d:Nat)(σ:AS):Prop where
 t:∀k a,σ.t k=some a->a.has d=false
 b:∀s b,σ.b s=some b->s.fP d=false/\b.has d=false
theorem qW.bG (d:Nat)(σ:AS):qW d (σ.bG d):=by
 refine⟨fun k a h=>?_,fun s b h=>?_⟩
 .rw[AS.Kq]at h;obtain⟨c,_,rfl⟩:=dZ.1 h;exact AV.Ex d c
 .rw[AS.NO]at h;split at h
  .cases h
  .rename_i hs;obtain⟨c,_,rfl⟩:=dZ.1 h;exact⟨by simpa using hs,aJ.Ex d c⟩
section
variable {N:Nat}{w0:World}{m0:Env w0}{pl:List Nat}{σ:AS}{ρ:Site->Loc}{m:Mem}{act:Act}{w w':World}
theorem ZpJ {d:Nat}{v:Value}{a:AV}(h:bO ρ m v a):bO ρ m v (a.bG d):=by
 unfold AV.bG;split
 .exact .any v
 .exact h
theorem kO.bG {s:Site}{b:aJ}(d:Nat)(h:kO ρ m w s b):kO ρ m w s (b.bG d):=
 h.gen (AV.bG d) (by cases b<;>rfl) (Le.refl m) rfl (fun v a hv _=>ZpJ hv) (fun _ _=>rfl)
theorem Zn8 {w:World}{l:Loc}{b:aJ}{d:Nat}:ins w l (b.bG d)=ins w l b:=by
 cases b with
 |_=>rfl
theorem JS {s:Site}{b:aJ}{d k:Nat}:fK ρ w s (b.bG d) k↔fK ρ w s b k:=by unfold fK;rw[Zn8]
theorem Sat.bG (h:Sat N w0 m0 pl σ ρ m act w)(d:Nat):Sat N w0 m0 pl (σ.bG d) ρ m act w:=by
 have hb:∀s b,(σ.bG d).b s=some b->∃b',σ.b s=some b'/\b=b'.bG d:=fun s b k=>by
  rw[AS.NO]at k;split at k
  .cases k
  .obtain⟨b',k1,rfl⟩:=dZ.1 k;exact⟨b',k1,rfl⟩
 refine⟨h.sE,h.sz,fun t a k=>?_,fun s b k=>?_,fun s s' b b' i k k' r r'=>?_,h.mem,fun s b i k r=>?_,fun s b i k r=>?_,h.keep,h.base,h.qC,h.par⟩
 .rw[AS.Kq]at k;obtain⟨c,k1,rfl⟩:=dZ.1 k;obtain⟨v,k2,k3⟩:=h.tm t c k1;refine⟨v,k2,?_⟩;unfold AV.bG;split
  .exact .any v
  .exact k3
 .obtain⟨b',k1,rfl⟩:=hb s b k;exact(h.bx s b' k1).bG d
 .obtain⟨c,k1,rfl⟩:=hb s b k;obtain⟨c',C0,rfl⟩:=hb s' b' k';exact h.dY s s' c c' i k1 C0 (JS.1 r) (JS.1 r')
 .obtain⟨c,k1,rfl⟩:=hb s b k;exact h.eL s c i k1 (JS.1 r)
 .obtain⟨c,k1,rfl⟩:=hb s b k;exact h.fL s c i k1 (JS.1 r)
theorem Sat.drop (h:Sat N w0 m0 pl σ ρ m act w)(s:Site):Sat N w0 m0 pl (σ.drop s) ρ m act w:=
 h.Zx4 (fun t a k=>.inl k) (fun s' b k=>by
  rw[AS.JE]at k;split at k
  .cases k
  .exact k)
def iK (ρ:Site->Loc)(s:Site)(l:Loc):Site->Loc:=fun s'=>if s'=s then l else ρ s'
theorem Q7 (ρ:Site->Loc)(s:Site)(l:Loc):iK ρ s l s=l:=by simp[iK]
theorem z8 (ρ:Site->Loc){s s':Site}(l:Loc)(h:s'≠s):iK ρ s l s'=ρ s':=by simp[iK,h]
theorem Mb (ρ:Site->Loc)(d j:Nat)(l:Loc):∀s,s.fP d=false->iK ρ (.loc d j) l s=ρ s:=fun s hs=>z8 ρ l (fun e=>by subst e;simp[Site.fP]at hs)
def aJ.plain:aJ->Bool
 |.ext _=>false
 |_=>true
theorem DW {s:Site}{b:aJ}{k:Nat}(hb:b.plain=true)(h:fK ρ w s b k):(ρ s).real=true/\(ρ s).b=k:=by
 rcases h with h|h
 .exact h
 .cases b with
  |ext E=>cases hb
  |_=>cases h
theorem Zfp {w:World}{l:Loc}{b:aJ}(hb:b.plain=true)(k:Nat):k∉ins w l b:=fun h=>by
 cases b with
 |ext E=>cases hb
 |_=>cases h
theorem Md {s:Site}{b:aJ}{k:Nat}(hb:∀k,k∉ins w (ρ s) b)(h:fK ρ w s b k):(ρ s).real=true/\(ρ s).b=k:=h.elim id fun h=>absurd h (hb k)
theorem Sat.Zx8 (h:Sat N w0 m0 pl σ ρ m act w){d j:Nat}(hn:qW d σ){l:Loc}{box:aJ}(hb:kO (iK ρ (.loc d j) l) m w (.loc d j) box)
  (hi:l.real=true->∀s b,σ.b s=some b->¬fK ρ w s b l.b) (ho:l.real=true->∀o,m l.b o=none) (hw:l.real=true->w0.heap.size<=l.b\/l.b∈pl) (lZ:∀k,k∉ins w (iK ρ (.loc d j) l (.loc d j)) box):
  Sat N w0 m0 pl (σ.add (.loc d j) box) (iK ρ (.loc d j) l) m act w:=by
 have dA:∀s b,σ.b s=some b->s≠.loc d j:=fun s b k e=>by
  subst e
  have:=(hn.b _ b k).1
  simp[Site.fP]at this
 have J8:=Mb ρ d j l;have hu:=Q7 ρ (.loc d j) l;refine⟨h.sE,h.sz,fun t a k=>?_,fun s b k=>?_,fun s s' b b' i k k' r r'=>?_,h.mem,fun s b i k r=>?_,fun s b i k r=>?_,h.keep,h.base,h.qC,fun i=>(z8 ρ l (by simp)).trans (h.par i)⟩
 .obtain⟨v,k1,k2⟩:=h.tm t a k;exact⟨v,k1,k2.mono (Le.refl m) J8 (hn.t t a k)⟩
 .rw[AS.SJ]at k;split at k
  .rename_i e;subst e;cases k;exact hb
  .exact(h.bx s b k).stay (Le.refl m) J8 (hn.b s b k).1 (hn.b s b k).2 (fun _ _=>rfl)
 .rw[AS.SJ]at k k';split at k<;>split at k'
  .rename_i e1 e2;rw[e1,e2]
  .rename_i e1 e2;subst e1;cases k;obtain⟨q1,q2⟩:=Md lZ r;rw[hu]at q1 q2;rw[Q5 (z8 ρ l e2)]at r';exact absurd (by rw[q2];exact r') (hi q1 s' b' k')
  .rename_i e1 e2;subst e2;cases k';obtain⟨q1,q2⟩:=Md lZ r';rw[hu]at q1 q2;rw[Q5 (z8 ρ l e1)]at r;exact absurd (by rw[q2];exact r) (hi q1 s b k)
  .rename_i e1 e2;rw[Q5 (z8 ρ l e1)]at r;rw[Q5 (z8 ρ l e2)]at r';exact h.dY s s' b b' i k k' r r'
 .rw[AS.SJ]at k;split at k
  .rename_i e;subst e;cases k;obtain⟨q1,q2⟩:=Md lZ r;rw[hu]at q1 q2;subst q2;exact ho q1
  .rename_i e;rw[Q5 (z8 ρ l e)]at r;exact h.eL s b i k r
 .rw[AS.SJ]at k;split at k
  .rename_i e;subst e;cases k;obtain⟨q1,q2⟩:=Md lZ r;rw[hu]at q1 q2;subst q2;exact hw q1
  .rename_i e;rw[Q5 (z8 ρ l e)]at r;exact h.fL s b i k r
theorem Sat.add (h:Sat N w0 m0 pl σ ρ m act w){d j:Nat}(hn:qW d σ){l:Loc}{box:aJ}(hb:kO (iK ρ (.loc d j) l) m w (.loc d j) box)
  (hi:l.real=true->∀s b,σ.b s=some b->¬fK ρ w s b l.b) (ho:l.real=true->∀o,m l.b o=none) (hw:l.real=true->w0.heap.size<=l.b\/l.b∈pl) (lZ:box.plain=true:=by rfl):
  Sat N w0 m0 pl (σ.add (.loc d j) box) (iK ρ (.loc d j) l) m act w:=h.Zx8 hn hb hi ho hw (Zfp lZ)
theorem Sat.Es (h:Sat N w0 m0 pl σ ρ m act w){k:Nat}(hk:w.heap.size<=k)(o:Nat):m k o=none:=by
 cases hm:m k o with
 |none=>rfl
 |some v=>have:=AG (h.mem k o v hm);omega
theorem Sat.lt (h:Sat N w0 m0 pl σ ρ m act w){s:Site}{b:aJ}(hb:σ.b s=some b)(hr:(ρ s).real=true):(ρ s).b<w.heap.size:=(h.bx s b hb).lt hr
theorem Sat.G1 (h:Sat N w0 m0 pl σ ρ m act w){s:Site}{b:aJ}(hb:σ.b s=some b){k:Nat}(hr:fK ρ w s b k):k<w.heap.size:=(h.bx s b hb).G1 hr
theorem Sat.Zx5 (h:Sat N w0 m0 pl σ ρ m act w)(d j:Nat)(hn:qW d σ)(cs:Array Value)(T:TypeId)(cap:Nat){box:aJ}
  (hb:kO (iK ρ (.loc d j) ⟨w.heap.size,0,cap,true⟩) m (w.alloc (.cells cs T)) (.loc d j) box) (lZ:∀k,k∉ins (w.alloc (.cells cs T)) (iK ρ (.loc d j) ⟨w.heap.size,0,cap,true⟩ (.loc d j)) box):
  Sat N w0 m0 pl (σ.add (.loc d j) box) (iK ρ (.loc d j) ⟨w.heap.size,0,cap,true⟩) m act (w.alloc (.cells cs T)):=
 (h.ext (Ext.al w _)).Zx8 hn hb (fun _ s b k r=>by
  have hx:Ext w (w.alloc (.cells cs T)):=Ext.al w _
  have:=h.G1 k (((h.bx s b k).dS (fun r=>hx.block _ (h.lt k r))).1 r)
  simp at this) (fun _ o=>h.Es (fG _) o) (fun _=>.inl h.keep.size) lZ
theorem Sat.new (h:Sat N w0 m0 pl σ ρ m act w)(d j:Nat)(hn:qW d σ)(cs:Array Value)(T:TypeId)(cap:Nat){box:aJ}
  (hb:kO (iK ρ (.loc d j) ⟨w.heap.size,0,cap,true⟩) m (w.alloc (.cells cs T)) (.loc d j) box) (lZ:box.plain=true:=by rfl):
  Sat N w0 m0 pl (σ.add (.loc d j) box) (iK ρ (.loc d j) ⟨w.heap.size,0,cap,true⟩) m act (w.alloc (.cells cs T)):=h.Zx5 d j hn cs T cap hb (Zfp lZ)
theorem Sat.write (h:Sat N w0 m0 pl σ ρ m act w){k:Nat}(hk:∀s b,σ.b s=some b->¬fK ρ w s b k)(hm:∀o,m k o=none)(hp:w0.heap.size<=k\/k∈pl)(pX:w.heap[k]?≠some (.deferred (some []))\/act.defers=[])
  (hx:cW [k] w w'):Sat N w0 m0 pl σ ρ m act w':=by
 have bT:∀s b,σ.b s=some b->∀i,fK ρ w s b i->w'.heap[i]?=w.heap[i]?:=fun s b hs i r=>hx.block _ (h.G1 hs r) (by
  rw[rY];intro e;subst e;exact hk s b hs r)
 have hq:∀s b,σ.b s=some b->∀i,fK ρ w' s b i↔fK ρ w s b i:=fun s b k i=>(h.bx s b k).dS (fun r=>bT s b k _ (xN r))
 refine⟨let ⟨ds,h1,h0,h2⟩:=h.sE;⟨ds,h1,h0,fun D hD=>⟨(h2 D hD).1,by
  obtain⟨k1,k2⟩:=h2 D hD;rw[hx.block D (qE.1 k2).1 (by
   rw[rY];intro e;subst e;rcases pX with pX|pX
   .exact pX k2
   .rw[pX]at h1;obtain⟨d1,d2,rfl,h3⟩:=h1;have h4:=List.append_eq_nil_iff.1 h3.symm;have h5:=List.map_eq_nil_iff.1 (List.append_eq_nil_iff.1 h4.1).1;have h6:=List.map_eq_nil_iff.1 h4.2;subst h5 h6;cases hD)]
  exact k2⟩⟩,h.sz,h.tm,fun s b hs=>(h.bx s b hs).more (Le.refl _) (bT s b hs),fun s s' b b' i k k' r r'=>h.dY s s' b b' i k k' ((hq s b k i).1 r) ((hq s' b' k' i).1 r'),fun b o v hv=>?_,fun s b i k r=>h.eL s b i k ((hq s b k i).1 r),fun s b i k r=>h.fL s b i k ((hq s b k i).1 r),?_,h.base,h.qC,h.par⟩
 .have hw:=h.mem b o v hv;have aI:=AG hw;have dA:b≠k:=fun e=>by subst e;rw[hm o]at hv;cases hv
  exact(World.cell?_of_block (a:=⟨b,o,none⟩) (hx.block b aI (by simpa using dA))).trans hw
 .refine⟨hx.os.trans h.keep.os,hx.tape.trans h.keep.tape,hx.output.trans h.keep.output,lC h.keep.size hx.size,fun i hi hn=>?_⟩;have dA:i≠k:=fun e=>by
   subst e;rcases hp with hp|hp
   .omega
   .exact hn hp
  exact(hx.block i (Nat.lt_of_lt_of_le hi h.keep.size) (by simpa using dA)).trans (h.keep.block i hi hn)
theorem Sat.ZxB (h:Sat N w0 m0 pl σ ρ m act w){s:Site}{b:aJ}(hs:σ.b s=some b)(hr:(ρ s).real=true)(hx:cW [(ρ s).b] w w'){box:aJ}(hb:kO ρ m w' s box)(hq:∀k,k∈ins w' (ρ s) box->k∈ins w (ρ s) b):
  Sat N w0 m0 pl (σ.set s box) ρ m act w':=by
 have hd:Sat N w0 m0 pl (σ.drop s) ρ m act w':=(h.drop s).write (k:=(ρ s).b) (fun s' b' k r=>by
  rw[AS.JE]at k;split at k
  .cases k
  .rename_i dA;exact dA (h.dY s' s b' b _ k hs r (xN hr))) (h.off s b hs hr) (h.own s b hs hr) (.inl ((h.bx s b hs).obj hr)) hx
 have IC:∀k,fK ρ w' s box k->fK ρ w s b k:=fun k r=>r.imp id (hq k)
 have hold:∀s' b',s'≠s->σ.b s'=some b'->∀k,fK ρ w' s' b' k->fK ρ w s' b' k:=fun s' b' dA k i r=>
  ((h.bx s' b' k).dS (fun r'=>hx.block _ (h.lt k r') (by
   rw[rY];exact fun e=>dA (h.inj s' s b' b k hs r' hr e)))).1 r
 refine⟨hd.sE,hd.sz,hd.tm,fun s' b' k=>?_,fun s1 s2 b1 b2 i k1 k2 r1 r2=>?_,hd.mem,fun s' b' i k r=>?_,fun s' b' i k r=>?_,hd.keep,hd.base,hd.qC,hd.par⟩
 .rw[AS.VW]at k;split at k
  .rename_i e;subst e;cases k;exact hb
  .rename_i dA;exact hd.bx s' b' (by rw[AS.JE,if_neg dA];exact k)
 .have g:∀s' b',(σ.set s box).b s'=some b'->fK ρ w' s' b' i->∃c,σ.b s'=some c/\fK ρ w s' c i:=fun s' b' k r=>by
   rw[AS.VW]at k;split at k
   .rename_i e;subst e;cases k;exact⟨b,hs,IC i r⟩
   .rename_i dA;exact⟨b',k,hold s' b' dA k i r⟩
  obtain⟨c1,g1,r1⟩:=g s1 b1 k1 r1;obtain⟨c2,g2,r2⟩:=g s2 b2 k2 r2;exact h.dY s1 s2 c1 c2 i g1 g2 r1 r2
 .rw[AS.VW]at k;split at k
  .rename_i e;subst e;cases k;exact h.eL s' b i hs (IC i r)
  .rename_i dA;exact h.eL s' b' i k (hold s' b' dA k i r)
 .rw[AS.VW]at k;split at k
  .rename_i e;subst e;cases k;exact h.fL s' b i hs (IC i r)
  .rename_i dA;exact h.fL s' b' i k (hold s' b' dA k i r)
theorem Sat.Ew (h:Sat N w0 m0 pl σ ρ m act w){s:Site}{b:aJ}(hs:σ.b s=some b)(hr:(ρ s).real=true)(hx:cW [(ρ s).b] w w'){box:aJ}(hb:kO ρ m w' s box)(lZ:box.plain=true:=by rfl):
  Sat N w0 m0 pl (σ.set s box) ρ m act w':=h.ZxB hs hr hx hb (fun k hk=>by
 cases box with
 |ext E=>cases lZ
 |_=>cases hk)
theorem Sat.Zx6 (h:Sat N w0 m0 pl σ ρ m act w){m':Mem}(hm:Le m m')(hw:Le m' w.mem)(ho:∀s b k,σ.b s=some b->fK ρ w s b k->∀o,m' k o=none)(hf:∀b o v,m' b o=some v->m b o=some v\/w0.heap.size<=b\/b∈pl):Sat N w0 m0 pl σ ρ m' act w:=by
 refine⟨h.sE,h.sz,fun t a k=>?_,fun s b k=>?_,h.dY,hw,ho,h.fL,h.keep,h.base.trans hm,fun b o v hv=>by
  rcases hf b o v hv with k|k
  .exact h.qC b o v k
  .exact .inr k,h.par⟩
 .obtain⟨v,k1,k2⟩:=h.tm t a k;exact⟨v,k1,k2.more hm⟩
 .exact(h.bx s b k).more hm (fun _ _=>rfl)
end
section
variable {P:Program}{w:World}
def eH (P:Program)(t:TypeId):Option Nat:=(P.info? t).map (·.size)
def sL (P:Program)(t:TypeId):Bool:=match P.underlying t with
 |some (.struct _)|some (.array _ _)=>true
 |_=>false
theorem run_sizeOf {t:TypeId}{n:Nat}(h:eH P t=some n)(w:World):(sizeOf t).run P w=.ok n w:=by
 unfold eH at h;cases hx:P.info? t with
 |none=>simp[hx]at h
 |some i=>
  simp[hx]at h;simp[sizeOf,typeInfo,hx,h]
theorem Zfl {t:TypeId}{d:TypeDesc}(h:P.underlying t=some d)(w:World):(isAgg t).run P w=.ok (sL P t) w:=by
 unfold isAgg sL;rw[Sem.run_bind,run_underlying h w];simp only[Result.andThen_ok,h];cases d<;>rfl
theorem Znm {t:TypeId}{d:TypeDesc}(hu:P.underlying t=some d)(hr:sL P t=false){b o:Nat}{v:Value}(hc:w.cell? ⟨b,o,none⟩=some v):
  (Instr.loadAt t (.pointer (some ⟨b,o,none⟩))).run P w=.ok v w:=by
 simp only[Instr.loadAt,Instr.sureAddr,Sem.run_bind,Sem.run_pure,Result.andThen_ok,loadVar,Zfl hu,hr];simp[load,Sem.run,hc]
theorem Znl {t:TypeId}{d:TypeDesc}(hu:P.underlying t=some d)(hr:sL P t=true){b o:Nat}{cs:List Value}(hc:At w.mem b o cs)(hi:eH P t=some cs.length):
  (Instr.loadAt t (.pointer (some ⟨b,o,none⟩))).run P w=.ok (.agg cs.toArray) w:=by
 refine run_loadAt_mid w b o t cs d (fun j v hv=>hc.get j v hv) hu ?_ hi;unfold sL at hr;rw[hu]at hr;cases d<;>first|rfl|(simp at hr)
theorem ZsY {t:TypeId}{b o:Nat}{v:Value}{cur:Array Value}{T:TypeId}(hi:eH P t=some v.cells.size)(hh:w.heap[b]?=some (.cells cur T (0,0)))(hl:o+v.cells.size<=cur.size)(h1:∀u∈v.cells,u.oneCell'=true):
  (Instr.storeAt t (.pointer (some ⟨b,o,none⟩)) v).run P w=.ok () (w.setRow b (cur.toList.take o++v.cells.toList++cur.toList.drop (o+v.cells.size)).toArray):=by
 have hs:=run_storeCells_at P b o T v.cells.toList 0 cur w hh (by simpa using hl) (fun u hu=>h1 u (by simpa using hu));simp only[Nat.add_zero,uV]at hs;simp only[Instr.storeAt,Instr.sureAddr,Sem.run_bind,Sem.run_pure,Result.andThen_ok,storeVar,run_sizeOf hi];simp[hs]
def GV (P:Program)(t f:Nat):Option Nat:=match P.underlying t with
 |some (.struct fs)=>match fs[f]? with
  |some fl=>if(eH P fl.type).getD 0=0 then none else some fl.offset
  |none=>none
 |_=>none
theorem NT (b o k:Nat):(⟨b,o,none⟩:Addr).add k=⟨b,o+k,none⟩:=Zvj
theorem Pd {t f off:Nat}(h:GV P t f=some off)(b o:Nat):(Instr.fieldAt t (.pointer (some ⟨b,o,none⟩)) f).run P w=.ok (.pointer (some ⟨b,o+off,none⟩)) w:=by
 unfold GV at h;split at h
 .rename_i fs hu;split at h
  .rename_i fl hf;split at h
   .cases h
   .rename_i hz;cases h;cases hs:eH P fl.type with
    |none=>rw[hs]at hz;simp at hz
    |some n=>
     rw[hs]at hz;simp at hz;simp[Instr.fieldAt,run_underlying hu,hf,Instr.sureAddr,fieldPlace,run_sizeOf hs,hz,NT]
  .cases h
 .cases h
def eG (P:Program)(t:TypeId):Option (TypeId×Nat×Option Nat):=match P.underlying t with
 |some (.slice e)=>(eH P e).map fun n=>(e,n,none)
 |some (.array l e)=>(eH P e).map fun n=>(e,n,some l)
 |_=>none
theorem KF {t e n:Nat}(h:eG P t=some (e,n,none)):P.underlying t=some (.slice e)/\eH P e=some n:=by
 unfold eG at h;split at h
 .rename_i e' hu;cases hs:eH P e' with
  |none=>rw[hs]at h;simp at h
  |some k=>
   rw[hs]at h;simp only[uU,Option.some.injEq,Prod.mk.injEq]at h;obtain⟨rfl,rfl,_⟩:=h;exact⟨hu,hs⟩
 .rename_i l e' hu;cases hs:eH P e'<;>rw[hs]at h<;>simp at h
 .cases h
theorem Hl {t e n l:Nat}(h:eG P t=some (e,n,some l)):P.underlying t=some (.array l e)/\eH P e=some n:=by
 unfold eG at h;split at h
 .rename_i e' hu;cases hs:eH P e'<;>rw[hs]at h<;>simp at h
 .rename_i l' e' hu;cases hs:eH P e' with
  |none=>rw[hs]at h;simp at h
  |some k=>
   rw[hs]at h;simp only[uU,Option.some.injEq,Prod.mk.injEq]at h;obtain⟨rfl,rfl,rfl⟩:=h;exact⟨hu,hs⟩
 .cases h
theorem Pc {t e n:Nat}(h:eG P t=some (e,n,none))(b o len cap:Nat)(k:IntKind){i:Int}(h0:0<=i)(h1:i<len):
  (Instr.indexAt t (.slice (some ⟨b,o,none⟩) len cap) (.int k i)).run P w=.ok (.pointer (some ⟨b,o+i.toNat*n,none⟩)) w:=by
 obtain⟨hu,hs⟩:=KF h;simp[Instr.indexAt,run_underlying hu,asIntOf,run_sizeOf hs,h0,h1,NT]
theorem ZpI {t e n l:Nat}(h:eG P t=some (e,n,some l))(b o:Nat)(k:IntKind){i:Int}(h0:0<=i)(h1:i<l):
  (Instr.indexAt t (.pointer (some ⟨b,o,none⟩)) (.int k i)).run P w=.ok (.pointer (some ⟨b,o+i.toNat*n,none⟩)) w:=by
 obtain⟨hu,hs⟩:=Hl h;simp[Instr.indexAt,run_underlying hu,asIntOf,Instr.sureAddr,run_sizeOf hs,h0,h1,NT]
theorem W0 {t e n:Nat}(h:eG P t=some (e,n,none))(ty:TypeId)(a:Option Addr)(len cap:Nat):(Builtin.len_ #[t] ty #[.slice a len cap]).run P w=.ok (.int .i64 len) w:=by
 obtain⟨hu,hs⟩:=KF h;simp[Builtin.len_,run_underlying hu,goInt]
theorem Znn {t e n l:Nat}(h:eG P t=some (e,n,some l))(ty:TypeId)(v:Value):(Builtin.len_ #[t] ty #[v]).run P w=.ok (.int .i64 l) w:=by
 obtain⟨hu,hs⟩:=Hl h;cases v<;>simp[Builtin.len_,run_underlying hu,goInt]
def gS (P:Program)(t:TypeId):Option Value:=(P.info? t).bind (·.zero)
theorem KE {t:TypeId}{z:Value}(h:gS P t=some z)(w:World):(zeroValue t).run P w=.ok z w:=by
 unfold gS at h;cases hx:P.info? t with
 |none=>simp[hx]at h
 |some i=>
  simp[hx]at h;simp[zeroValue,typeInfo,hx,h]
theorem Zno {t:TypeId}{z:Value}(h:gS P t=some z):(Instr.alloc t true (.tuple #[])).run P w=.ok (.pointer (some ⟨w.heap.size,0,none⟩)) (w.alloc (.cells z.cells t)):=by
 simp[Instr.alloc,KE h,newVar,newRow]
theorem YT (t:TypeId)(v:Value):(Instr.box t v).run P w=.ok (.pointer (some ⟨w.heap.size,0,none⟩)) (w.alloc (.cells v.cells t)):=by
 simp[Instr.box,newVar,newRow]
end
inductive bA where
 |t (k:Nat)
 |c (x:PV)
 deriving Inhabited
def AS.o (σ:AS):bA->AV
 |.t k=>(σ.t k).getD .any
 |.c x=>.pv x
def nP:Value->Option PV
 |.int k n=>some (.int k n)
 |.bool b=>some (.bool b)
 |.string s=>some (.str s)
 |.pointer none=>some .eU
 |.slice none 0 0=>some (.emp (some true))
 |.nilFunc=>some .dP
 |.map none=>some .cT
 |.nilIface=>some .eV
 |_=>none
def aV:Operand->Option bA
 |.tmp k=>some (.t k)
 |.const v=>(nP v).map .c
 |.func f=>some (.c (.fn f [] []))
 |.global _=>none
theorem Lm {v:Value}{x:PV}(h:nP v=some x)(m:Mem):dG m v x:=by
 unfold nP at h;split at h<;>first|(cases h;constructor)|(cases h)
 .intro _;rfl
 .intro e;cases e
 .intro A e;cases e
def AV.one:AV->Bool
 |.any=>false
 |.pv (.agg _)=>false
 |.pv (.bL _)=>false
 |.agg _=>false
 |.bL _=>false
 |_=>true
theorem bO.one {ρ:Site->Loc}{m:Mem}{v:Value}{a:AV}(h:bO ρ m v a)(ha:a.one=true):v.oneCell'=true:=by
 cases h with
 |any=>cases ha
 |pv v x h=>cases h<;>first|rfl|assumption|(simp[AV.one]at ha)
 |_=>first|rfl|(simp[AV.one]at ha)
def eA:List AV->Option (List PV)
 |[]=>some []
 |a::r=>match a,eA r with
  |.pv x,some l=>some (x::l)
  |_,_=>none
def s5 (l:List AV):AV:=match eA l with
 |some xs=>.pv (.agg xs)
 |none=>.agg l
def aR {α:Type}(l:List α)(off:Nat)(c:List α):List α:=l.take off++c++l.drop (off+c.length)
theorem SX:∀{l:List AV} {xs:List PV},eA l=some xs->l=xs.map .pv
 |[],xs,h=>by simp[eA]at h;subst h;rfl
 |a::r,xs,h=>by
  unfold eA at h;split at h
  .rename_i x l h1;cases h;rw[iL,SX h1]
  .cases h
section
variable {N:Nat}{w0:World}{m0:Env w0}{pl:List Nat}{σ:AS}{ρ:Site->Loc}{m:Mem}{act:Act}{w w':World}
def AV.wide:AV->Bool
 |.agg _=>true
 |.pv (.agg _)=>true
 |_=>false
theorem bO.Zxu {v:Value}{a:AV}(h:bO ρ m v a)(ha:a≠.any):v.cells.size=a.cells.length/\∀(j:Nat) (d:Value) (c:AV),v.cells[j]?=some d->a.cells[j]?=some c->bO ρ m d c/\(a.wide=true->d.oneCell'=true):=by
 have single:∀{v:Value} {a:AV},bO ρ m v a->v.cells=#[v]->a.cells=[a]->a.wide=false->v.cells.size=a.cells.length/\∀(j:Nat) (d:Value) (c:AV),v.cells[j]?=some d->a.cells[j]?=some c->bO ρ m d c/\(a.wide=true->d.oneCell'=true):=by
  intro v a h h1 h2 h3;rw[h1,h2];refine⟨rfl,fun j d c k1 k2=>?_⟩;cases j with
  |zero=>simp at k1 k2;subst k1 k2;exact⟨h,fun e=>by rw[h3]at e;cases e⟩
  |succ j=>simp at k2
 have h':=h;cases h with
 |any=>exact absurd rfl ha
 |agg vs cs h0 h1 h2=>exact⟨h0,fun j d c k1 k2=>⟨h2 j d c k1 k2,fun _=>h1 d (Array.mem_of_getElem? k1)⟩⟩
 |pv v x hx=>
  cases hx with
  |agg vs cs h0 h1 h2=>
   refine⟨by simp only[AV.cells,Value.cells,fV];exact h0,fun j d c k1 k2=>?_⟩;simp only[AV.cells,bW]at k2;obtain⟨x,k3,rfl⟩:=dZ.1 k2;exact⟨.pv _ _ (h2 j d x k1 k3),fun _=>h1 d (Array.mem_of_getElem? k1)⟩
  |P3 _ hv=>exact single h' (by cases v<;>first|rfl|cases hv) rfl rfl
  |_=>exact single h' rfl rfl rfl
 |_=>exact single h' rfl rfl rfl
theorem Sat.aV (h:Sat N w0 m0 pl σ ρ m act w){x:Operand}{y:bA}(e:Go.Proofs.YtlllhbmbnjnoiaaGreatDoor.aV x=some y):bO ρ m (act.eval x) (σ.o y):=by
 cases x with
 |tmp k=>
  simp[Go.Proofs.YtlllhbmbnjnoiaaGreatDoor.aV]at e;subst e;show bO ρ m (act.tmps.getD k undef) ((σ.t k).getD .any);cases ht:σ.t k with
  |none=>exact .any _
  |some a=>
   obtain⟨v,k1,k2⟩:=h.tm k a ht;rw[Array.getD_eq_getD_getElem?,k1];exact k2
 |const v=>
  simp only[Go.Proofs.YtlllhbmbnjnoiaaGreatDoor.aV,dZ]at e;obtain⟨x,k1,rfl⟩:=e;exact .pv _ _ (Lm k1 m)
 |func f=>
  simp[Go.Proofs.YtlllhbmbnjnoiaaGreatDoor.aV]at e;subst e;exact .pv _ _ (.fn f #[] #[] [] [] rfl rfl (fun j d c k=>by simp at k) (fun j d c k=>by simp at k))
 |global g=>simp[Go.Proofs.YtlllhbmbnjnoiaaGreatDoor.aV]at e
theorem Hd {vs:Array Value}{l:List AV}(h0:vs.size=l.length)(h1:∀d∈vs,d.oneCell'=true)(h2:∀(j:Nat) (d:Value) (c:AV),vs[j]?=some d->l[j]?=some c->bO ρ m d c):bO ρ m (.agg vs) (s5 l):=by
 unfold s5;split
 .rename_i xs hx;have e:=SX hx;subst e;refine .pv _ _ (.agg vs xs (by simpa using h0) h1 (fun j d c k1 k2=>?_))
  have:=h2 j d (.pv c) k1 (by rw[bW,k2];rfl)
  cases this with
  |pv _ _ h=>exact h
 .exact .agg vs l h0 h1 h2
def OG (l:List AV):AV:=match eA l with
 |some xs=>.pv (.bL xs)
 |none=>.bL l
def EV (f:FuncId)(fs cs:List AV):AV:=match eA fs,eA cs with
 |some a,some b=>.pv (.fn f a b)
 |_,_=>.fn f fs cs
theorem Zsc {vs:Array Value}{l:List AV}(h0:vs.size=l.length)(h2:∀(j:Nat) (d:Value) (c:AV),vs[j]?=some d->l[j]?=some c->bO ρ m d c):bO ρ m (.tuple vs) (OG l):=by
 unfold OG;split
 .rename_i xs hx;have e:=SX hx;subst e;refine .pv _ _ (.bL vs xs (by simpa using h0) (fun j d c k1 k2=>?_))
  have:=h2 j d (.pv c) k1 (by rw[bW,k2];rfl)
  cases this with
  |pv _ _ h=>exact h
 .exact .bL vs l h0 h2
theorem Zu0 {f:FuncId}{vf vc:Array Value}{fs cs:List AV}(h0:vf.size=fs.length)(h1:vc.size=cs.length)(h2:∀(j:Nat) (d:Value) (c:AV),vf[j]?=some d->fs[j]?=some c->bO ρ m d c)
  (h3:∀(j:Nat) (d:Value) (c:AV),vc[j]?=some d->cs[j]?=some c->bO ρ m d c):bO ρ m (.func (.func f) vf vc) (EV f fs cs):=by
 unfold EV;split
 .rename_i a b hx hy;have e:=SX hx;have e':=SX hy;subst e e';refine .pv _ _ (.fn f vf vc a b (by simpa using h0) (by simpa using h1) (fun j d c k1 k2=>?_) (fun j d c k1 k2=>?_))
  .have:=h2 j d (.pv c) k1 (by rw[bW,k2];rfl)
   cases this with
   |pv _ _ h=>exact h
  .have:=h3 j d (.pv c) k1 (by rw[bW,k2];rfl)
   cases this with
   |pv _ _ h=>exact h
 .exact .fn f vf vc fs cs h0 h1 h2 h3
def DF (op:BinOp)(k k':IntKind)(a b:Int):Option PV:=
 match op with
 |.shl=>if b<0 then none else some (.int k (k.wrap (a*2^(min b.toNat k.bits))))
 |.shr=>if b<0 then none else some (.int k (a.fdiv (2^(min b.toNat k.bits))))
 |.add=>if k=k' then some (.int k (k.wrap (a+b)))else none
 |.sub=>if k=k' then some (.int k (k.wrap (a-b)))else none
 |.mul=>if k=k' then some (.int k (k.wrap (a*b)))else none
 |.quo=>if k=k' then(if b=0 then none else some (.int k (k.wrap (a.tdiv b))))else none
 |.rem=>if k=k' then(if b=0 then none else some (.int k (a.tmod b)))else none
 |.eql=>if k=k' then some (.bool (decide (a=b)))else none
 |.neq=>if k=k' then some (.bool (decide (a≠b)))else none
 |.lss=>if k=k' then some (.bool (decide (a<b)))else none
 |.leq=>if k=k' then some (.bool (decide (a<=b)))else none
 |.gtr=>if k=k' then some (.bool (decide (b<a)))else none
 |.geq=>if k=k' then some (.bool (decide (b<=a)))else none
 |.and=>if k=k' then some (.int k (k.wrap (BitVec.ofInt k.bits a&&& BitVec.ofInt k.bits b).toNat))else none
 |.or=>if k=k' then some (.int k (k.wrap (BitVec.ofInt k.bits a||| BitVec.ofInt k.bits b).toNat))else none
 |.xor=>if k=k' then some (.int k (k.wrap (BitVec.ofInt k.bits a ^^^ BitVec.ofInt k.bits b).toNat))else none
 |.andNot=>none
def DG (op:BinOp)(a b:Bool):Option PV:=
 match op with
 |.eql=>some (.bool (a==b))
 |.neq=>some (.bool (a != b))
 |_=>none
theorem ZtR (a b:Int):decide (a=b)=(a==b):=by rw[qS];simp
theorem ZtQ (a b:Int):decide (a≠b)=(a != b):=by rw[qS];simp
theorem Zq3 {P:Program}{op:BinOp}{k k':IntKind}{a b:Int}{r:PV}(h:DF op k k' a b=some r)(t:TypeId)(x y:Operand):
  ∃v,(∀w:World,(do eqGuard op t x y (.int k a) (.int k' b);binOp op t (.int k a) (.int k' b):Sem Value).run P w=.ok v w)/\∀m,dG m v r:=by
 have hg:∀w,(eqGuard op t x y (.int k a) (.int k' b)).run P w=.ok () w:=by
  intro w;unfold eqGuard;cases op<;>simp
 simp only[Sem.run_bind,hg,Result.andThen_ok];unfold DF at h;cases op<;>simp only at h
 case shl=>
  split at h
  .cases h
  .rename_i hb;cases h
   (refine⟨_,?_,fun m=>.int _ _⟩;intro w;simp[binOp,Op.shift,hb])
 case shr=>
  split at h
  .cases h
  .rename_i hb;cases h
   (refine⟨_,?_,fun m=>.int _ _⟩;intro w;simp[binOp,Op.shift,hb])
 case quo=>
  split at h
  .rename_i hk;subst hk;split at h
   .cases h
   .rename_i hb;cases h
    (refine⟨_,?_,fun m=>.int _ _⟩;intro w;simp[binOp,Op.intDiv,hb])
  .cases h
 case rem=>
  split at h
  .rename_i hk;subst hk;split at h
   .cases h
   .rename_i hb;cases h
    (refine⟨_,?_,fun m=>.int _ _⟩;intro w;simp[binOp,Op.intDiv,hb])
  .cases h
 case andNot=>cases h
 case eql=>
  split at h
  .rename_i hk;subst hk;cases h;exact⟨.bool (a==b),by intro w;simp[binOp,Op.intCmp],fun m=>by rw[ZtR];exact .bool _⟩
  .cases h
 case neq=>
  split at h
  .rename_i hk;subst hk;cases h;exact⟨.bool (a != b),by intro w;simp[binOp,Op.intCmp],fun m=>by rw[ZtQ];exact .bool _⟩
  .cases h
 all_goals
  split at h
  .rename_i hk;subst hk;cases h;first
   |(refine⟨_,?_,fun m=>.int _ _⟩;intro w;simp[binOp,Op.intArith];done)
   |(refine⟨_,?_,fun m=>.int _ _⟩;intro w;simp[binOp,Op.intBits];done)
   |(refine⟨_,?_,fun m=>.bool _⟩;intro w;simp[binOp,Op.intCmp];done)
  .cases h
theorem Zq4 {P:Program}{op:BinOp}{a b:Bool}{r:PV}(h:DG op a b=some r)(t:TypeId)(x y:Operand)(ht:P.underlying t=some .bool):
  ∃v,(∀w:World,(do eqGuard op t x y (.bool a) (.bool b);binOp op t (.bool a) (.bool b):Sem Value).run P w=.ok v w)/\∀m,dG m v r:=by
 have hg:∀w,(eqGuard op t x y (.bool a) (.bool b)).run P w=.ok () w:=by
  intro w;unfold eqGuard;cases op<;>simp
 simp only[Sem.run_bind,hg,Result.andThen_ok];unfold DG at h;cases op<;>simp only at h<;>cases h
 ·(refine⟨_,?_,fun m=>.bool _⟩;intro w;simp only[binOp,Sem.run_bind,run_equal_bool w t a b ht,Result.andThen_ok];rfl)
 ·(refine⟨_,?_,fun m=>.bool _⟩;intro w;simp only[binOp,Sem.run_bind,run_equal_bool w t a b ht,Result.andThen_ok];rfl)
end
mutual
def AV.cD (s:Site)(nb:Nat)(xs:List PV):AV->AV
 |.any=>.any
 |.pv x=>.pv x
 |.ptr s' off=>if s'=s then(if nb=0 then .pv (.ref (xs.drop off))else .any)else .ptr s' off
 |.lB s' n i off=>if s'=s then .any else .lB s' n i off
 |.vec s' n lo len=>if s'=s then(if 0<n/\n=nb/\lo+len<=xs.length then .pv (.aF false n ((xs.drop lo).take len))else .any)else .vec s' n lo len
 |.mp s'=>if s'=s then .any else .mp s'
 |.nJ s'=>if s'=s then .any else .nJ s'
 |.fn f fs cs=>EV f (AV.aY s nb xs fs) (AV.aY s nb xs cs)
 |.agg cs=>s5 (AV.aY s nb xs cs)
 |.bL vs=>OG (AV.aY s nb xs vs)
def AV.aY (s:Site)(nb:Nat)(xs:List PV):List AV->List AV
 |[]=>[]
 |a::r=>AV.cD s nb xs a::AV.aY s nb xs r
end
def aJ.cD (s:Site)(nb:Nat)(xs:List PV):aJ->aJ
 |.cells bS=>.cells (AV.aY s nb xs bS)
 |.loop C ps nt tm st=>.loop C ps nt (tm.map fun p=>(p.1,p.2.cD s nb xs)) st
 |b=>b
mutual
def AV.dC (q:Site->Bool):AV->Bool
 |.any=>true
 |.pv _=>true
 |.ptr s _=>q s
 |.lB s _ _ _=>q s
 |.vec s _ _ _=>q s
 |.mp s=>q s
 |.nJ s=>q s
 |.fn _ fs cs=>AV.gW q fs&&AV.gW q cs
 |.agg cs=>AV.gW q cs
 |.bL vs=>AV.gW q vs
def AV.gW (q:Site->Bool):List AV->Bool
 |[]=>true
 |a::r=>AV.dC q a&&AV.gW q r
end
def AV.live (q:Site->Bool)(a:AV):AV:=match a.dC q with
 |true=>a
 |false=>.any
def aJ.live (q:Site->Bool):aJ->aJ
 |.cells bS=>.cells (bS.map (AV.live q))
 |.loop C ps nt tm st=>.loop C ps nt (tm.map fun p=>(p.1,p.2.live q)) st
 |b=>b
def AS.tidy (σ:AS):AS:=⟨σ.tm,σ.bx.map fun p=>(p.1,p.2.live fun s=>(σ.b s).isSome)⟩
def AS.cD (s:Site)(σ:AS):AS:=match σ.b s with
 |none=>σ.tidy
 |some (.arr _ n xs)=>⟨σ.tm.map fun p=>(p.1,p.2.cD s n xs),(σ.bx.filter fun p=>!decide (p.1=s)).map fun p=>(p.1,p.2.cD s n xs)⟩
 |some (.cells gE)=>match eA gE with
  |some xs=>⟨σ.tm.map fun p=>(p.1,p.2.cD s 0 xs),(σ.bx.filter fun p=>!decide (p.1=s)).map fun p=>(p.1,p.2.cD s 0 xs)⟩
  |none=>σ
 |_=>σ
def AS.JD (a:AV)(σ:AS):AS:=match a with
 |.vec s _ _ _=>σ.cD s
 |_=>σ
def AS.b8:List AV->AS->AS
 |[],σ=>σ
 |a::r,σ=>AS.b8 r (σ.JD a)
def AS.wV (a:AV)(σ:AS):AS:=match a with
 |.agg cs=>σ.b8 cs
 |a=>σ.JD a
def AS.DN:List bA->AS->AS
 |[],σ=>σ
 |x::r,σ=>AS.DN r (σ.wV (σ.o x))
def AS.tO (σ:AS):List bA->Option (List PV)
 |[]=>some []
 |x::r=>match σ.o x,σ.tO r with
  |.pv x,some l=>some (x::l)
  |_,_=>none
def wJ (σ:AS):List AV->List (Nat×Nat×bA)->Option (List AV)
 |l,[]=>some l
 |l,(off,n,x)::r=>if(σ.o x).cells.length=n/\off+n<=l.length/\((σ.o x).wide=true\/(σ.o x).one=true)then wJ σ (aR l off (σ.o x).cells) r else none
def setAt (x:PV)(off:Nat)(p:PV):PV:=match x with
 |.agg l=>.agg (aR l off p.cells)
 |_=>p
def AS.cont (σ:AS)(a:AV)(n:Nat):Option (List PV):=match a with
 |.pv (.aF _ n' xs)=>if n'=n then some xs else none
 |.pv (.emp _)=>some []
 |.vec s n' lo len=>match σ.b s with
  |some (.arr _ eT xs)=>if n'=n/\eT=n/\lo+len<=xs.length then some ((xs.drop lo).take len)else none
  |_=>none
 |_=>none
inductive QK where
 |sl
 |pt
 |mp
 deriving Inhabited,DecidableEq
def dH:QK->AV->Option Bool
 |.sl,.pv (.emp nl)=>nl
 |.sl,.pv (.aF nn _ xs)=>if nn=true then some false else match xs with
  |[]=>none
  |_::_=>some false
 |.sl,.vec _ _ _ len=>if len=0 then none else some false
 |.pt,.pv .eU=>some true
 |.pt,.pv (.ref _)=>some false
 |.pt,.ptr _ _=>some false
 |.pt,.lB _ _ _ _=>some false
 |.mp,.pv .cT=>some true
 |.mp,.mp _=>some false
 |_,_=>none
def s7:QK->AV->Prop
 |.sl,.pv (.emp _)=>True
 |.sl,.pv (.aF _ _ _)=>True
 |.sl,.vec _ _ _ _=>True
 |_,_=>False
inductive CK where
 |int (k:IntKind)
 |bool
 |str
 deriving DecidableEq,Inhabited
structure KT where
 wide:Bool
 ks:List CK
 deriving DecidableEq,Inhabited
def CK.ok:CK->PV->Bool
 |.int k,.int k' _=>decide (k'=k)
 |.bool,.bool _=>true
 |.str,.str _=>true
 |_,_=>false
def bU:List CK->List PV->Bool
 |[],[]=>true
 |k::ks,x::xs=>k.ok x&&bU ks xs
 |_,_=>false
def KT.ok (t:KT):PV->Bool
 |.agg cs=>t.wide&&bU t.ks cs
 |x=>!t.wide&&bU t.ks [x]
def wK:PV->PV->Bool
 |.int _ a,.int _ b=>a==b
 |.bool a,.bool b=>a==b
 |.str a,.str b=>a.toList==b.toList
 |_,_=>false
def lP:List PV->List PV->Bool
 |[],[]=>true
 |x::xs,y::ys=>wK x y&&lP xs ys
 |_,_=>false
def gR (x y:PV):Bool:=lP x.cells y.cells
def eX (k:PV):List (PV×PV)->Option PV
 |[]=>none
 |(k',v)::r=>match gR k k' with
  |true=>some v
  |false=>eX k r
def mK (k v:PV):List (PV×PV)->List (PV×PV)
 |[]=>[(k,v)]
 |(k',v')::r=>match gR k k' with
  |true=>(k,v)::r
  |false=>(k',v')::mK k v r
def zZ (kt:KT)(es:List (PV×PV)):Bool:=es.all fun p=>kt.ok p.1
def gI (ok:Bool)(v:Option PV)(z:PV):AV:=match ok with
 |true=>.pv (.bL [v.getD z,.bool v.isSome])
 |false=>.pv (v.getD z)
def oG (W:Nat):Nat->List PV->List PV
 |0,_=>[]
 |k+1,xs=>.agg (xs.take W)::oG W k (xs.drop W)
def AP (s:ByteArray)(z:Int):Option UInt8:=if 0<=z then s[z.toNat]? else none
def qG (s:ByteArray):List PV:=s.data.toList.map fun b=>.int .u8 b.toNat
def DT:List PV->Option (List Int)
 |[]=>some []
 |.int .u8 n::r=>(DT r).map (n::·)
 |_=>none
def NP (ns:List Int):ByteArray:=⟨(ns.map fun n=>UInt8.ofNat n.toNat).toArray⟩
def Z6 (T e:TypeId)(l:List UInt8)(q:Loc)(_:Mem)(w:World):Prop:=
 ∃p v,w.heap[q.b]?=some (.cells #[p,v] T (0,0))/\(p=.pointer none\/p=.pointer (some ⟨q.b,0,none⟩))/\
  ((v=.slice none 0 0/\l=[])\/∃g c cur,v=.slice (some ⟨g,0,none⟩) l.length (c+1)/\g≠q.b/\w.heap[g]?=some (.cells cur e (0,0))/\l.length<=c+1/\c+1<=cur.size/\c+1<=maxLen/\∀(i:Nat) (b:UInt8),l[i]?=some b->cur[i]?=some (.int .u8 b.toNat))
def yW (q:Loc)(w:World):List Nat:=match w.heap[q.b]? with
 |some (.cells cs _ _)=>match cs[(1:Nat)]? with
  |some (.slice (some A) _ (_+1))=>[A.block]
  |_=>[]
 |_=>[]
theorem Hu {q:Loc}{w:World}{p:Value}{T:TypeId}{t:Nat×Nat}{g o n c:Nat}(h:w.heap[q.b]?=some (.cells #[p,.slice (some ⟨g,o,none⟩) n (c+1)] T t)):yW q w=[g]:=by
 unfold yW;rw[h];rfl
theorem ZiY {q:Loc}{w:World}{p:Value}{T:TypeId}{t:Nat×Nat}(h:w.heap[q.b]?=some (.cells #[p,.slice none 0 0] T t)):yW q w=[]:=by
 unfold yW;rw[h];rfl
def DD (T e:TypeId)(l:List UInt8):Ic where
 rd:=Z6 T e l
 ins:=yW
 same q w w' h:=by unfold yW;rw[h]
 obj q m w h:=by
  obtain⟨p,v,h1,_⟩:=h;exact⟨_,_,h1⟩
 vX q m w k h hk:=by
  obtain⟨p,v,h1,_,⟨rfl,_⟩|⟨g,c,cur,rfl,_,h3,_⟩⟩:=h
  .rw[ZiY h1]at hk;cases hk
  .rw[Hu h1]at hk;rw[rY]at hk;subst hk;exact⟨_,_,h3⟩
 more q m m' w w' h _ hb hk:=by
  obtain⟨p,v,h1,h2,⟨rfl,h3⟩|⟨g,c,cur,rfl,h4,h3,h5⟩⟩:=h
  .exact⟨p,_,by rw[hb];exact h1,h2,.inl ⟨rfl,h3⟩⟩
  .have hg:=hk g (by rw[Hu h1];exact List.mem_singleton_self _);exact⟨p,_,by rw[hb];exact h1,h2,.inr ⟨g,c,cur,rfl,h4,by rw[hg];exact h3,h5⟩⟩
inductive V5 where
 |eqv (neg:Bool) (kt:KT) (x y:bA)
 |F9
 |look (kt:KT) (z:PV) (ok:Bool) (x i:bA)
 |iK (kt:KT) (x i v:bA)
 |BB (x:bA)
 |copy (n:Nat) (x y:bA)
 |clear (n:Nat) (z:PV) (x:bA)
 |ED (n:Nat) (x hi:bA)
 |YI (n W:Nat) (x hi:bA)
 |rI (x:bA)
 |A5 (x i:bA)
 |TT (x:bA) (lo hi:Option bA)
 |rK (x y:bA)
 |AO (e:TypeId) (x:bA)
 |TU (x:bA)
 |sF (t:TypeId) (x:bA)
 |LF (neg:Bool) (x:bA)
 |KR (t:TypeId) (z:PV) (x:bA)
 |B3 (x:bA)
 |VQ (e:TypeId) (n bytes:Nat) (x y:bA)
 |Ek (T e:TypeId)
 deriving Inhabited
inductive lU where
 |dV (x:bA)
 |pick (c a b:bA)
 |bin (bt:Bool) (op:BinOp) (x y:bA)
 |not (x:bA)
 |neg (x:bA)
 |box (n:Nat) (x:bA)
 |alloc (z:PV)
 |build (z:PV) (ps:List (Nat×Nat×bA))
 |aQ (e n:Nat) (ps:List bA)
 |load (row:Bool) (n:Nat) (x:bA)
 |store (n:Nat) (x y:bA)
 |fa (off:Nat) (x:bA)
 |MT (row:Bool) (off n:Nat) (x:bA)
 |ia (n:Nat) (arr:Option Nat) (x i:bA)
 |len (arr:Option Nat) (x:bA)
 |ext (x:bA) (i:Nat)
 |yB (f:FuncId) (fs cs:List bA)
 |vN (x:bA)
 |iW (mx:Bool) (x y:bA)
 |conv (k:IntKind) (x:bA)
 |app (e n bytes:Nat) (x y:bA)
 |jA (e n bytes:Nat) (x y:bA)
 |UC (e n bytes:Nat) (z:PV) (l c:bA)
 |I9 (n:Nat) (arr:Option Nat) (x:bA) (lo hi mx:Option bA)
 |call (f:bA) (args:List bA)
 |yA (k:QK) (neg:Bool) (x:bA)
 |x (y:V5)
 |other
 deriving Inhabited
def AS.ob (σ:AS)(x:Option bA)(z:Int):Option Int:=match x with
 |none=>some z
 |some x=>match σ.o x with
  |.pv (.int _ a)=>some a
  |_=>none
def cC (l:V5)(d:Nat)(K:AV->AS->Prop)(σ:AS):Prop:=
 match l with
 |.eqv neg kt x y=>match σ.o x,σ.o y with
  |.pv a,.pv b=>kt.ok a=true/\kt.ok b=true/\K (.pv (.bool (gR a b != neg))) σ
  |_,_=>False
 |.F9=>K (.mp (.loc d 0)) ((σ.bG d).add (.loc d 0) (.map []))
 |.look kt z ok x i=>match σ.o i with
  |.pv k=>kt.ok k=true/\match σ.o x with
   |.mp s=>match σ.b s with
    |some (.map es)=>zZ kt es=true/\K (gI ok (eX k es) z) σ
    |_=>False
   |.pv .cT=>K (gI ok none z) σ
   |_=>False
  |_=>False
 |.iK kt x i v=>match σ.o i with
  |.pv k=>kt.ok k=true/\match σ.o x with
   |.mp s=>match(σ.wV (σ.o v)).b s,(σ.wV (σ.o v)).o v with
    |some (.map es),.pv val=>zZ kt es=true/\K .any ((σ.wV (σ.o v)).set s (.map (mK k val es)))
    |_,_=>False
   |_=>False
  |_=>False
 |.BB x=>match σ.o x with
  |.mp s=>match σ.b s with
   |some (.map es)=>K (.pv (.int .i64 es.length)) σ
   |_=>False
  |.pv .cT=>K (.pv (.int .i64 0)) σ
  |_=>False
 |.copy n x y=>match σ.cont (σ.o y) n with
  |some ys=>match σ.o x with
   |.pv (.emp _)=>K (.pv (.int .i64 0)) σ
   |.vec s n' lo len=>match σ.b s with
    |some (.arr e eT xs)=>(n'=n/\eT=n/\lo+len<=xs.length)/\K (.pv (.int .i64 (ys.take len).length)) (σ.set s (.arr e n (aR xs lo (ys.take len))))
    |_=>False
   |_=>False
  |none=>False
 |.clear n z x=>match σ.o x with
  |.pv (.emp _)=>K (.pv (.bL [])) σ
  |.vec s n' lo len=>match σ.b s with
   |some (.arr e eT xs)=>(n'=n/\eT=n/\lo+len<=xs.length)/\K (.pv (.bL [])) (σ.set s (.arr e n (aR xs lo (List.replicate len z))))
   |_=>False
  |_=>False
 |.ED n x hi=>match σ.o hi with
  |.pv (.int _ h)=>match σ.o x with
   |.ptr s off=>match σ.b s with
    |some (.cells gE)=>match eA gE with
     |some xs=>(0<=h/\h<=n/\off+n<=xs.length)/\K (.pv (.aF false 1 ((xs.drop off).take h.toNat))) (σ.cD s)
     |none=>False
    |_=>False
   |.pv (.ref xs)=>(0<=h/\h<=n/\n<=xs.length)/\K (.pv (.aF false 1 (xs.take h.toNat))) σ
   |_=>False
  |_=>False
 |.YI n W x hi=>match σ.o hi with
  |.pv (.int _ h)=>match σ.o x with
   |.ptr s off=>match σ.b s with
    |some (.cells gE)=>match eA gE with
     |some xs=>(0<=h/\h<=n/\off+n*W<=xs.length)/\K (.pv (.aF false W (oG W h.toNat (xs.drop off)))) (σ.cD s)
     |none=>False
    |_=>False
   |_=>False
  |_=>False
 |.rI x=>match σ.o x with
  |.pv (.str s)=>K (.pv (.int .i64 s.size)) σ
  |_=>False
 |.A5 x i=>match σ.o x,σ.o i with
  |.pv (.str s),.pv (.int _ z)=>match AP s z with
   |some b=>K (.pv (.int .u8 b.toNat)) σ
   |none=>False
  |_,_=>False
 |.TT x lo hi=>match σ.o x with
  |.pv (.str s)=>match σ.ob lo 0,σ.ob hi s.size with
   |some l,some h=>(0<=l/\l<=h/\h<=s.size)/\K (.pv (.str (s.extract l.toNat h.toNat))) σ
   |_,_=>False
  |_=>False
 |.rK x y=>match σ.o x,σ.o y with
  |.pv (.str a),.pv (.str b)=>a.size+b.size<=9223372036854775807/\K (.pv (.str (a++b))) σ
  |_,_=>False
 |.AO e x=>match σ.o x with
  |.pv (.str s)=>s.size<=1000000/\K (.pv (.aF false 1 (qG s))) σ
  |_=>False
 |.TU x=>match σ.cont (σ.o x) 1 with
  |some xs=>match DT xs with
   |some ns=>K (.pv (.str (NP ns))) σ
   |none=>False
  |none=>False
 |.sF t x=>match σ.o x with
  |.pv a=>K (.pv (.iface t a)) σ
  |_=>False
 |.LF neg x=>match σ.o x with
  |.pv .eV=>K (.pv (.bool (!neg))) σ
  |.pv (.iface _ _)=>K (.pv (.bool neg)) σ
  |_=>False
 |.KR t z x=>match σ.o x with
  |.pv .eV=>K (.pv (.bL [z,.bool false])) σ
  |.pv (.iface u a)=>K (.pv (.bL (if u=t then[a,.bool true]else[z,.bool false]))) σ
  |_=>False
 |.B3 _=>False
 |.VQ e n bytes x y=>match σ.o y with
  |.pv (.str s0)=>match σ.o x with
   |.pv (.emp _)=>(qG s0).length*bytes<=140737488355328/\(qG s0).length<=9223372036854775807/\K (.vec (.loc d 0) n 0 (qG s0).length) ((σ.bG d).add (.loc d 0) (.arr e n (qG s0)))
   |.vec s n' lo len=>match σ.b s with
    |some (.arr e' eT xs)=>(e'=e/\n'=n/\eT=n/\lo+len=xs.length)/\(len+(qG s0).length)*bytes<=140737488355328/\len+(qG s0).length<=9223372036854775807/\K (.vec (.loc d 0) n 0 (len+(qG s0).length)) (((σ.drop s).bG d).add (.loc d 0) (.arr e n (xs.drop lo++qG s0)))
    |_=>False
   |_=>False
  |_=>False
 |.Ek T e=>K (.ptr (.loc d 0) 0) ((σ.bG d).add (.loc d 0) (.ext (DD T e [])))
def bY (l:lU)(d:Nat)(K:AV->AS->Prop)(σ:AS):Prop:=
 match l with
 |.dV x=>K (σ.o x) σ
 |.pick c a b=>match σ.o c with
  |.pv (.bool t)=>K (if t=true then σ.o a else σ.o b) σ
  |_=>False
 |.bin bt op x y=>match σ.o x,σ.o y with
  |.pv (.int k a),.pv (.int k' b)=>match DF op k k' a b with
   |some r=>K (.pv r) σ
   |none=>False
  |.pv (.bool a),.pv (.bool b)=>bt=true/\match DG op a b with
   |some r=>K (.pv r) σ
   |none=>False
  |_,_=>False
 |.not x=>match σ.o x with
  |.pv (.bool a)=>K (.pv (.bool (!a))) σ
  |_=>False
 |.yA k neg x=>match dH k (σ.o x)with
  |some b=>K (.pv (.bool (b != neg))) σ
  |none=>s7 k (σ.o x)/\K (.pv (.bool true)) σ/\K (.pv (.bool false)) σ
 |.x y=>cC y d K σ
 |.neg x=>match σ.o x with
  |.pv (.int k a)=>K (.pv (.int k (k.wrap (0-a)))) σ
  |_=>False
 |.box n x=>((σ.bG d).o x).cells.length=n/\(((σ.bG d).o x).wide=true\/((σ.bG d).o x).one=true)/\K (.ptr (.loc d 0) 0) ((σ.bG d).add (.loc d 0) (.cells ((σ.bG d).o x).cells))
 |.alloc z=>K (.ptr (.loc d 0) 0) ((σ.bG d).add (.loc d 0) (.cells (z.cells.map .pv)))
 |.build z ps=>match wJ σ (z.cells.map .pv) ps with
  |some l=>K (s5 l) σ
  |none=>False
 |.aQ e n ps=>match(σ.DN ps).tO ps with
  |some []=>K (.pv (.emp (some false))) σ
  |some xs=>(∀x∈xs,x.cells.length=n/\((AV.pv x).wide=true\/(AV.pv x).one=true))/\K (.vec (.loc d 0) n 0 xs.length) (((σ.DN ps).bG d).add (.loc d 0) (.arr e n xs))
  |none=>False
 |.load row n x=>match σ.o x with
  |.pv (.ref cs)=>if row=true then n<=cs.length/\K (.pv (.agg (cs.take n))) σ else match cs with
   |c::_=>K (.pv c) σ
   |[]=>False
  |.ptr s off=>match σ.b s with
   |some (.cells bS)=>if row=true then off+n<=bS.length/\K (s5 ((bS.drop off).take n)) σ else match bS[off]? with
    |some a=>K a σ
    |none=>False
   |_=>False
  |.lB s n' i off=>match σ.b s with
   |some (.arr _ eT xs)=>match xs[i]? with
    |some x=>n'=eT/\if row=true then off+n<=x.cells.length/\K (.pv (.agg ((x.cells.drop off).take n))) σ else match x.cells[off]? with
     |some c=>K (.pv c) σ
     |none=>False
    |none=>False
   |_=>False
  |_=>False
 |.store n x y=>match σ.o x with
  |.ptr s off=>match σ.b s with
   |some (.cells bS)=>(σ.o y).cells.length=n/\((σ.o y).wide=true\/(σ.o y).one=true)/\off+n<=bS.length/\K .any (σ.set s (.cells (aR bS off (σ.o y).cells)))
   |_=>False
  |.lB s n' i off=>match(σ.wV (σ.o y)).b s,(σ.wV (σ.o y)).o y with
    |some (.arr e eT xs),.pv p=>match xs[i]? with
     |some x=>n'=eT/\0<n/\p.cells.length=n/\((AV.pv p).wide=true\/(AV.pv p).one=true)/\off+n<=x.cells.length/\K .any ((σ.wV (σ.o y)).set s (.arr e eT (xs.set i (setAt x off p))))
     |none=>False
    |_,_=>False
  |_=>False
 |.fa off x=>match σ.o x with
  |.pv (.ref cs)=>off<=cs.length/\K (.pv (.ref (cs.drop off))) σ
  |.ptr s o=>K (.ptr s (o+off)) σ
  |.lB s n i o=>K (.lB s n i (o+off)) σ
  |_=>False
 |.MT row off n x=>if row=true then off+n<=(σ.o x).cells.length/\(σ.o x).wide=true/\K (s5 (((σ.o x).cells.drop off).take n)) σ else match(σ.o x).cells[off]? with
  |some a=>(σ.o x).wide=true/\K a σ
  |none=>False
 |.ia n arr x i=>match σ.o i with
  |.pv (.int _ z)=>match arr with
   |none=>match σ.o x with
    |.pv (.aF _ n' xs)=>if 0<=z then match xs[z.toNat]? with
      |some y=>n'=n/\K (.pv (.ref y.cells)) σ
      |none=>False
     else False
    |.vec s n' lo len=>n'=n/\0<=z/\z<len/\K (.lB s n (lo+z.toNat) 0) σ
    |_=>False
   |some l=>0<=z/\z<l/\match σ.o x with
    |.pv (.ref cs)=>z.toNat*n<=cs.length/\K (.pv (.ref (cs.drop (z.toNat*n)))) σ
    |.ptr s o=>K (.ptr s (o+z.toNat*n)) σ
    |.lB s n' j o=>K (.lB s n' j (o+z.toNat*n)) σ
    |_=>False
  |_=>False
 |.len arr x=>match arr with
  |some l=>K (.pv (.int .i64 l)) σ
  |none=>match σ.o x with
   |.pv (.aF _ _ xs)=>K (.pv (.int .i64 xs.length)) σ
   |.pv (.emp _)=>K (.pv (.int .i64 0)) σ
   |.vec _ _ _ len=>K (.pv (.int .i64 len)) σ
   |_=>False
 |.ext x i=>match σ.o x with
  |.pv (.bL vs)=>match vs[i]? with
   |some v=>K (.pv v) σ
   |none=>False
  |.bL vs=>match vs[i]? with
   |some v=>K v σ
   |none=>False
  |_=>False
 |.yB f fs cs=>match σ.tO fs,σ.tO cs with
  |some a,some b=>K (.pv (.fn f a b)) σ
  |_,_=>K (.fn f (fs.map σ.o) (cs.map σ.o)) σ
 |.vN x=>match σ.o x with
  |.pv (.ref cs)=>K (.pv (.ref cs)) σ
  |.ptr s o=>K (.ptr s o) σ
  |.lB s n i o=>K (.lB s n i o) σ
  |_=>False
 |.iW mx x y=>match σ.o x,σ.o y with
  |.pv (.int k a),.pv (.int _ b)=>K (.pv (.int k (if mx=true then(if b>a then b else a)else(if b<a then b else a)))) σ
  |_,_=>False
 |.conv k x=>match σ.o x with
  |.pv (.int _ a)=>K (.pv (.int k (k.wrap a))) σ
  |_=>False
 |.app e n bytes x y=>match σ.cont (σ.o y) n with
  |some ys=>match σ.o x with
   |.pv (.emp _)=>ys.length*bytes<=140737488355328/\ys.length<=9223372036854775807/\K (.vec (.loc d 0) n 0 ys.length) ((σ.bG d).add (.loc d 0) (.arr e n ys))
   |.vec s n' lo len=>match σ.b s with
    |some (.arr e' eT xs)=>((e'=e/\n'=n/\eT=n/\lo+len=xs.length)/\(len+ys.length)*bytes<=140737488355328/\len+ys.length<=9223372036854775807/\K (.vec (.loc d 0) n 0 (len+ys.length)) (((σ.drop s).bG d).add (.loc d 0) (.arr e n (xs.drop lo++ys))))\/
      ((e'=e/\n'=n/\eT=n/\lo+len<=xs.length)/\(len+ys.length)*bytes<=140737488355328/\len+ys.length<=9223372036854775807/\K (.vec (.loc d 0) n 0 (len+ys.length)) ((σ.bG d).add (.loc d 0) (.arr e n ((xs.drop lo).take len++ys)))/\K (.vec s n lo (len+ys.length)) (σ.set s (.arr e n (xs.take (lo+len)++ys))))
    |_=>False
   |_=>False
  |none=>False
 |.jA e n bytes x y=>match σ.cont (σ.o y) n with
  |some ys=>match σ.o x with
   |.pv (.emp _)=>ys.length*bytes<=140737488355328/\ys.length<=9223372036854775807/\K (.vec (.loc d 0) n 0 ys.length) ((σ.bG d).add (.loc d 0) (.arr e n ys))
   |_=>False
  |none=>False
 |.UC e n bytes z l c=>match σ.o l,σ.o c with
  |.pv (.int _ a),.pv (.int _ b)=>0<=a/\a<=b/\b<=1000000/\bytes<=1000/\K (.vec (.loc d 0) n 0 a.toNat) ((σ.bG d).add (.loc d 0) (.arr e n (List.replicate a.toNat z)))
  |_,_=>False
 |.I9 n arr x lo hi mx=>match mx with
  |some _=>False
  |none=>match σ.ob lo 0 with
   |some l=>match arr with
    |none=>match σ.o x with
     |.pv (.aF nn n' xs)=>match σ.ob hi xs.length with
      |some h=>0<=l/\l<=h/\h<=xs.length/\n'=n/\K (.pv (.aF nn n ((xs.take h.toNat).drop l.toNat))) σ
      |none=>False
     |.pv (.emp nl)=>match σ.ob hi 0 with
      |some h=>l=0/\h=0/\K (.pv (.emp nl)) σ
      |none=>False
     |.vec s n' OS len=>match σ.ob hi len with
      |some h=>0<=l/\l<=h/\h<=len/\n'=n/\K (.vec s n (OS+l.toNat) (h.toNat-l.toNat)) σ
      |none=>False
     |_=>False
    |some _=>False
   |none=>False
 |_=>False
section
variable {N:Nat}{w0:World}{m0:Env w0}{pl:List Nat}{σ:AS}{ρ:Site->Loc}{m m':Mem}{act:Act}{w w':World}
def Mem.with (m:Mem)(w:World)(l:Loc):Mem:=fun b o=>if l.real=true/\b=l.b then w.cell? ⟨b,o,none⟩else m b o
theorem Mem.Xc {m:Mem}(h:Le m w.mem)(l:Loc):Le m (m.with w l):=fun b o v hv=>by
 unfold Mem.with
 split
 .exact h b o v hv
 .exact hv
theorem Mem.Zxy {m:Mem}(h:Le m w.mem)(l:Loc):Le (m.with w l) w.mem:=fun b o v hv=>by
 unfold Mem.with at hv;split at hv
 .exact hv
 .exact h b o v hv
theorem c8 {cs:Array Value}{k n j:Nat}:((cs.toList.drop k).take n)[j]?=if j<n then cs[k+j]? else none:=by
 rw[mG];split
 .rw[mS,O3]
 .rfl
theorem Hp {cs:Array Value}{k n:Nat}(h:k+n<=cs.size):((cs.toList.drop k).take n).length=n:=by
 rw[gJ,uH,uV];omega
theorem V4 {a c n:Nat}(h:a<c):a*n+n<=c*n:=by
 have:(a+1)*n<=c*n:=I1 _ h
 rw[Nat.add_mul]at this;omega
theorem Zo0 {s:Site}{e n:Nat}{xs:List PV}(hb:kO ρ m w s (.arr e n xs))(hm:Le m m')(nD:(ρ s).real=true->∀o v,w.cell? ⟨(ρ s).b,o,none⟩=some v->m' (ρ s).b o=some v){lo len:Nat}(hl:lo+len<=xs.length){v:Value}(hv:bO ρ m v (.vec s n lo len)):
  dG m' v (.aF false n ((xs.drop lo).take len)):=by
 have hlen:((xs.drop lo).take len).length=len:=by rw[gJ,uH];omega
 cases hv with
 |mZ _ _ _ a h=>
  have e0:((xs.drop lo).take 0)=[]:=by simp
  rw[e0];exact .aF a 0 false n [] (fun _=>[]) (by simp) (by simp) (fun _=>rfl) h (fun e=>(by cases e)) (fun i x hx=>by simp at hx) (fun i x hx=>by simp at hx) (fun i x j d c hx=>by simp at hx)
 |vec _ _ _ _ cap h0 h1 h2=>
  obtain⟨hn,hb|⟨_,cs,k1,k2,k3,k4,k5⟩⟩:=hb
  .rw[hb.1]at h2;cases h2
  have get:∀i x,((xs.drop lo).take len)[i]?=some x->xs[lo+i]?=some x/\i<len:=fun i x hx=>by
   rw[mG]at hx;split at hx
   .rename_i hi;rw[mS]at hx;exact⟨hx,hi⟩
   .cases hx
  have fit:∀i,i<len->(ρ s).o+(lo+i)*n+n<=cs.size:=fun i hi=>by
   have:(lo+i)*n+n<=(ρ s).cap*n:=V4 (by omega)
   omega
  have hh:=dG.aF (m:=m') (some ⟨(ρ s).b,(ρ s).o+lo*n,none⟩) cap false n ((xs.drop lo).take len) (fun i=>(cs.toList.drop ((ρ s).o+(lo+i)*n)).take n) (by rw[hlen];exact h0) (by have:(ρ s).cap<=9223372036854775807:=(by simpa[maxLen]using k4);omega)
   (fun e=>(by cases e)) (fun A hA=>(by cases hA;rfl)) (fun e=>(by cases e)) (fun i x hx=>?_) (fun i x hx=>?_) (fun i x j d c hx hd hc=>?_)
  .rw[hlen]at hh;exact hh
  .obtain⟨g1,g2⟩:=get i x hx;refine⟨_,_,rfl,At.b9 (fun j u hj=>?_)⟩;rw[c8]at hj;split at hj
   .refine nD h2 _ _ ?_;rw[show(ρ s).o+lo*n+i*n+j=(ρ s).o+(lo+i)*n+j by rw[Nat.add_mul];omega];simp[World.cell?,k1,hj]
   .cases hj
  .obtain⟨g1,g2⟩:=get i x hx;refine⟨Hp (fit i g2),(k5 _ _ g1).1,fun d hd=>?_⟩;obtain⟨j,hj⟩:=iJ.1 hd;rw[c8]at hj;split at hj
   .rename_i rS;obtain⟨kc,kx⟩:=k5 _ _ g1;have VC:j<x.cells.length:=by omega
    obtain⟨d',q1,q2,_⟩:=kx j _ (bB VC);rw[hj]at q1;cases q1;exact q2
   .cases hj
  .obtain⟨g1,g2⟩:=get i x hx;rw[c8]at hd;split at hd
   .obtain⟨kc,kx⟩:=k5 _ _ g1;obtain⟨d',q1,_,q3⟩:=kx j c hc;rw[hd]at q1;cases q1;exact q3.mono hm
   .cases hd
theorem Gz {s:Site}{nb:Nat}{xs:List PV}:∀{l:List AV} {i:Nat},(AV.aY s nb xs l)[i]?=(l[i]?).map (AV.cD s nb xs)
 |[],i=>by simp[AV.aY]
 |a::r,0=>by simp[AV.aY]
 |a::r,i+1=>by
  simp only[AV.aY,List.getElem?_cons_succ];exact Gz
theorem Ha {s:Site}{nb:Nat}{xs:List PV}:∀{l:List AV},(AV.aY s nb xs l).length=l.length
 |[]=>rfl
 |a::r=>by simp only[AV.aY,pB,Ha]
theorem bO.Ep {s:Site}{nb:Nat}{xs:List PV}(hm:Le m m')(Po:∀v off,bO ρ m v (.ptr s off)->bO ρ m' v (if nb=0 then .pv (.ref (xs.drop off))else .any))
  (YF:∀v n lo len,bO ρ m v (.vec s n lo len)->bO ρ m' v (if 0<n/\n=nb/\lo+len<=xs.length then .pv (.aF false n ((xs.drop lo).take len))else .any)) {v:Value} {a:AV} (h:bO ρ m v a):bO ρ m' v (a.cD s nb xs):=by
 induction h with
 |any v=>exact .any v
 |pv v x h=>exact .pv v x (h.mono hm)
 |ptr s' off=>
  rw[AV.cD];split
  .rename_i e;subst e;exact Po _ off (.ptr _ off)
  .exact .ptr s' off
 |lB s' n i off=>
  rw[AV.cD];split
  .exact .any _
  .exact .lB s' n i off
 |vec s' n lo len cap h0 h1 h2=>
  rw[AV.cD];split
  .rename_i e;subst e;exact YF _ n lo len (.vec _ n lo len cap h0 h1 h2)
  .exact .vec s' n lo len cap h0 h1 h2
 |mZ s' n lo a h=>
  rw[AV.cD];split
  .rename_i e;subst e;exact YF _ n lo 0 (.mZ _ n lo a h)
  .exact .mZ s' n lo a h
 |mp s'=>
  rw[AV.cD];split
  .exact .any _
  .exact .mp s'
 |nJ s'=>
  rw[AV.cD];split
  .exact .any _
  .exact .nJ s'
 |fn f vf vc fs cs h0 h1 h2 h3 BI OV=>
  rw[AV.cD];refine Zu0 (by rw[Ha];exact h0) (by rw[Ha];exact h1) (fun j d c k1 k2=>?_) (fun j d c k1 k2=>?_)
  .rw[Gz]at k2;obtain⟨a,k3,rfl⟩:=dZ.1 k2;exact BI j d a k1 k3
  .rw[Gz]at k2;obtain⟨a,k3,rfl⟩:=dZ.1 k2;exact OV j d a k1 k3
 |agg vs cs h0 h1 h2 ih=>
  rw[AV.cD];refine Hd (by rw[Ha];exact h0) h1 (fun j d c k1 k2=>?_);rw[Gz]at k2;obtain⟨a,k3,rfl⟩:=dZ.1 k2;exact ih j d a k1 k3
 |bL vs cs h0 h2 ih=>
  rw[AV.cD];refine Zsc (by rw[Ha];exact h0) (fun j d c k1 k2=>?_);rw[Gz]at k2;obtain⟨a,k3,rfl⟩:=dZ.1 k2;exact ih j d a k1 k3
theorem bO.cD {s:Site}{e nb:Nat}{xs:List PV}(hb:kO ρ m w s (.arr e nb xs))(hm:Le m m')(nD:(ρ s).real=true->∀o v,w.cell? ⟨(ρ s).b,o,none⟩=some v->m' (ρ s).b o=some v){v:Value}{a:AV}(h:bO ρ m v a):bO ρ m' v (a.cD s nb xs):=by
 have h0:¬nb=0:=by have:=hb.1;omega
 refine bO.Ep hm (fun v off _=>?_) (fun v n lo len hv=>?_) h
 .rw[if_neg h0];exact .any v
 .split
  .rename_i hc;obtain⟨_,rfl,hl⟩:=hc;exact .pv _ _ (Zo0 hb hm nD hl hv)
  .exact .any v
theorem dG.Kr {v:Value}{x:PV}(h:dG m v x)(hv:v.oneCell'=true):x.cells=[x]:=by
 cases h<;>first|rfl|(simp[Value.oneCell']at hv)
theorem Zge {s:Site}{gE:List AV}{xs:List PV}(hb:kO ρ m w s (.cells gE))(hx:eA gE=some xs)(hm:Le m m')(nD:∀o v,w.cell? ⟨(ρ s).b,o,none⟩=some v->m' (ρ s).b o=some v):
  ∃ds:List Value,ds.length=xs.length/\At m' (ρ s).b 0 ds/\∀(j:Nat) (d:Value) (c:PV),ds[j]?=some d->xs[j]?=some c->d.oneCell'=true/\dG m' d c:=by
 obtain⟨_,cs,T,k1,k2,k3⟩:=hb;have hu:=SX hx;subst hu;refine⟨cs.toList,by rw[uV,k2,fV],At.b9 (fun j u hj=>nD _ _ ?_),fun j d c h1 h2=>?_⟩
 .rw[O3]at hj;simp[World.cell?,k1,hj]
 .rw[O3]at h1;have h3:(xs.map AV.pv)[j]?=some (.pv c):=by rw[bW,h2];rfl
  obtain⟨q1,q2⟩:=k3 j d _ h1 h3;refine⟨q1,?_⟩;cases q2 with
  |pv _ _ h=>exact h.mono hm
theorem bO.Zx9 {s:Site}{gE:List AV}{xs:List PV}(hb:kO ρ m w s (.cells gE))(hx:eA gE=some xs)(hm:Le m m')(nD:∀o v,w.cell? ⟨(ρ s).b,o,none⟩=some v->m' (ρ s).b o=some v){v:Value}{a:AV}(h:bO ρ m v a):bO ρ m' v (a.cD s 0 xs):=by
 obtain⟨ds,hl,p5,lG⟩:=Zge hb hx hm nD;refine bO.Ep hm (fun v off hv=>?_) (fun v n lo len hv=>?_) h
 .rw[if_pos rfl];cases hv;refine .pv _ _ (.ref (ρ s).b off (xs.drop off) (ds.drop off) (At.b9 (fun j u hj=>?_)) (by simp[hl]) (fun d hd=>?_) (fun j d c h1 h2=>?_))
  .rw[mS]at hj
   have:=p5.get _ _ hj
   rwa [rX]at this
  .obtain⟨j,hj⟩:=iJ.1 hd;rw[mS]at hj;have aI:off+j<xs.length:=by rw[<-hl];exact(bZ.1 hj).1
   exact(lG _ d _ hj (bB aI)).1
  .rw[mS]at h1 h2;exact(lG _ d c h1 h2).2
 .rw[if_neg (fun e=>by omega)];exact .any v
theorem kO.live (q:Site->Bool){s:Site}{b:aJ}(h:kO ρ m w s b):kO ρ m w s (b.live q):=by
 have hl:∀(v:Value) (a:AV),bO ρ m v a->bO ρ m v (a.live q):=fun v a h=>by
  unfold AV.live;split
  .exact h
  .exact .any v
 exact h.gen (AV.live q) (by cases b<;>rfl) (Le.refl m) rfl (fun v a hv _=>hl v a hv) (fun _ _=>rfl)
theorem Zql {w:World}{l:Loc}{b:aJ}{q:Site->Bool}:ins w l (b.live q)=ins w l b:=by
 cases b with
 |_=>rfl
theorem Ztw {w:World}{l:Loc}{b:aJ}{s:Site}{n:Nat}{xs:List PV}:ins w l (b.cD s n xs)=ins w l b:=by
 cases b with
 |_=>rfl
theorem Zlg {s:Site}{nb:Nat}{xs:List PV}:∀l:List AV,AV.aY s nb xs l=l.map (AV.cD s nb xs)
 |[]=>rfl
 |a::r=>by simp only[AV.aY,iL,Zlg r]
theorem Sat.tidy (h:Sat N w0 m0 pl σ ρ m act w):Sat N w0 m0 pl σ.tidy ρ m act w:=by
 have hb:∀s b,σ.tidy.b s=some b->∃b',σ.b s=some b'/\b=b'.live fun s=>(σ.b s).isSome:=fun s b k=>by
  have k':(σ.bx.map fun p=>(p.1,p.2.live fun s=>(σ.b s).isSome)).lookup s=some b:=k;rw[SW (aJ.live fun s=>(σ.b s).isSome) s]at k';obtain⟨b',k1,rfl⟩:=dZ.1 k';exact⟨b',k1,rfl⟩
 have hq:∀s b i,fK ρ w s (b.live fun s=>(σ.b s).isSome) i↔fK ρ w s b i:=fun s b i=>by unfold fK;rw[Zql]
 refine⟨h.sE,h.sz,h.tm,fun s b k=>?_,fun s s' b b' i k k' r r'=>?_,h.mem,fun s b i k r=>?_,fun s b i k r=>?_,h.keep,h.base,h.qC,h.par⟩
 .obtain⟨b',k1,rfl⟩:=hb s b k;exact(h.bx s b' k1).live _
 .obtain⟨c,k1,rfl⟩:=hb s b k;obtain⟨c',C0,rfl⟩:=hb s' b' k';exact h.dY s s' c c' i k1 C0 ((hq _ _ _).1 r) ((hq _ _ _).1 r')
 .obtain⟨c,k1,rfl⟩:=hb s b k;exact h.eL s c i k1 ((hq _ _ _).1 r)
 .obtain⟨c,k1,rfl⟩:=hb s b k;exact h.fL s c i k1 ((hq _ _ _).1 r)
theorem Sat.Ep (h:Sat N w0 m0 pl σ ρ m act w)(s:Site){b0:aJ}(hs:σ.b s=some b0)(n:Nat)(xs:List PV)(H:∀v a,bO ρ m v a->bO ρ (m.with w (ρ s)) v (a.cD s n xs)):
  Sat N w0 m0 pl ⟨σ.tm.map fun p=>(p.1,p.2.cD s n xs),(σ.bx.filter fun p=>!decide (p.1=s)).map fun p=>(p.1,p.2.cD s n xs)⟩ ρ (m.with w (ρ s)) act w:=by
 have hm:=Mem.Xc h.mem (ρ s);have bq:∀s' b,AS.b ⟨σ.tm.map fun p=>(p.1,p.2.cD s n xs),(σ.bx.filter fun p=>!decide (p.1=s)).map fun p=>(p.1,p.2.cD s n xs)⟩ s'=some b->s'≠s/\∃b',σ.b s'=some b'/\b=b'.cD s n xs:=fun s' b k=>by
  have k':List.lookup s' ((σ.bx.filter fun p=>!decide (p.1=s)).map fun p=>(p.1,p.2.cD s n xs))=some b:=k;rw[SW (aJ.cD s n xs) s',show List.lookup s' (σ.bx.filter fun p=>!decide (p.1=s))=_ from TG (fun x=>!decide (x=s)) s' σ.bx]at k';obtain⟨b',k1,rfl⟩:=dZ.1 k';split at k1
  .rename_i dA;exact⟨by simpa using dA,b',k1,rfl⟩
  .cases k1
 have hq:∀s' b i,fK ρ w s' (b.cD s n xs) i↔fK ρ w s' b i:=fun s b i=>by unfold fK;rw[Ztw]
 refine⟨h.sE,h.sz,fun t a k=>?_,fun s' b k=>?_,fun s1 s2 b1 b2 i k1 k2 r1 r2=>?_,Mem.Zxy h.mem _,fun s' b i k r o=>?_,fun s' b i k r=>?_,h.keep,h.base.trans hm,fun b o v hv=>?_,h.par⟩
 .have k':List.lookup t (σ.tm.map fun p=>(p.1,p.2.cD s n xs))=some a:=k;rw[SW (AV.cD s n xs) t]at k';obtain⟨a',k1,rfl⟩:=dZ.1 k';obtain⟨v,k2,k3⟩:=h.tm t a' k1;exact⟨v,k2,H _ _ k3⟩
 .obtain⟨dA,b',k1,rfl⟩:=bq s' b k;exact(h.bx s' b' k1).gen (AV.cD s n xs) (by cases b'<;>first|rfl|(show aJ.cells _=_;rw[Zlg])) hm rfl (fun v a hv _=>H v a hv) (fun _ _=>rfl)
 .obtain⟨_,b1',g1,rfl⟩:=bq s1 b1 k1;obtain⟨_,b2',g2,rfl⟩:=bq s2 b2 k2;exact h.dY s1 s2 b1' b2' i g1 g2 ((hq _ _ _).1 r1) ((hq _ _ _).1 r2)
 .obtain⟨dA,b',k1,rfl⟩:=bq s' b k;have r':=(hq _ _ _).1 r;unfold Mem.with
  rw[if_neg (fun e=>dA (h.dY s' s b' _ i k1 hs r' (.inl ⟨e.1,e.2.symm⟩)))];exact h.eL s' b' i k1 r' o
 .obtain⟨_,b',g1,rfl⟩:=bq s' b k;exact h.fL s' b' i g1 ((hq _ _ _).1 r)
 .unfold Mem.with at hv;split at hv
  .rename_i e;rw[e.2];exact .inr (h.own s _ hs e.1)
  .exact h.qC b o v hv
theorem Sat.Wz (h:Sat N w0 m0 pl σ ρ m act w){s:Site}{gE:List AV}{xs:List PV}(hs:σ.b s=some (.cells gE))(hx:eA gE=some xs):
  σ.cD s=⟨σ.tm.map fun p=>(p.1,p.2.cD s 0 xs),(σ.bx.filter fun p=>!decide (p.1=s)).map fun p=>(p.1,p.2.cD s 0 xs)⟩/\Sat N w0 m0 pl (σ.cD s) ρ (m.with w (ρ s)) act w/\Le m (m.with w (ρ s))/\∀o v,w.cell? ⟨(ρ s).b,o,none⟩=some v->m.with w (ρ s) (ρ s).b o=some v:=by
 have hb:=h.bx s _ hs;have hm:=Mem.Xc h.mem (ρ s);have nD:∀o v,w.cell? ⟨(ρ s).b,o,none⟩=some v->m.with w (ρ s) (ρ s).b o=some v:=fun o v hv=>by
  unfold Mem.with;rw[if_pos ⟨hb.1,rfl⟩];exact hv
 have e:σ.cD s=⟨σ.tm.map fun p=>(p.1,p.2.cD s 0 xs),(σ.bx.filter fun p=>!decide (p.1=s)).map fun p=>(p.1,p.2.cD s 0 xs)⟩:=by
  unfold AS.cD;rw[hs];dsimp only;rw[hx]
 refine⟨e,?_,hm,nD⟩;rw[e];exact h.Ep s hs 0 xs (fun v a hv=>hv.Zx9 hb hx hm nD)
theorem Sat.cD (h:Sat N w0 m0 pl σ ρ m act w)(s:Site):∃m',Le m m'/\Sat N w0 m0 pl (σ.cD s) ρ m' act w:=by
 cases hs:σ.b s with
 |none=>
  have e:σ.cD s=σ.tidy:=by unfold AS.cD;rw[hs]
  rw[e];exact⟨m,Le.refl m,h.tidy⟩
 |some bb=>
  cases bb with
  |arr e n xs=>
   have hb:=h.bx s _ hs;have hm:=Mem.Xc h.mem (ρ s);have nD:(ρ s).real=true->∀o v,w.cell? ⟨(ρ s).b,o,none⟩=some v->m.with w (ρ s) (ρ s).b o=some v:=fun hr o v hv=>by
    unfold Mem.with;rw[if_pos ⟨hr,rfl⟩];exact hv
   have e:σ.cD s=⟨σ.tm.map fun p=>(p.1,p.2.cD s n xs),(σ.bx.filter fun p=>!decide (p.1=s)).map fun p=>(p.1,p.2.cD s n xs)⟩:=by unfold AS.cD;rw[hs]
   rw[e];exact⟨m.with w (ρ s),hm,h.Ep s hs n xs (fun v a hv=>hv.cD hb hm nD)⟩
  |cells gE=>
   cases hx:eA gE with
   |some xs=>
    obtain⟨_,h2,h3,_⟩:=h.Wz hs hx;exact⟨_,h3,h2⟩
   |none=>
    have e:σ.cD s=σ:=by unfold AS.cD;rw[hs];dsimp only;rw[hx]
    rw[e];exact⟨m,Le.refl m,h⟩
  |map es=>
   have e:σ.cD s=σ:=by unfold AS.cD;rw[hs]
   rw[e];exact⟨m,Le.refl m,h⟩
  |loop C ps nt tm st=>
   have e:σ.cD s=σ:=by unfold AS.cD;rw[hs]
   rw[e];exact⟨m,Le.refl m,h⟩
  |ext E=>
   have e:σ.cD s=σ:=by unfold AS.cD;rw[hs]
   rw[e];exact⟨m,Le.refl m,h⟩
theorem Sat.JD (a:AV)(h:Sat N w0 m0 pl σ ρ m act w):∃m',Le m m'/\Sat N w0 m0 pl (σ.JD a) ρ m' act w:=by
 unfold AS.JD;split
 .exact h.cD _
 .exact⟨m,Le.refl m,h⟩
theorem Sat.b8:∀(l:List AV) {σ:AS} {m:Mem},Sat N w0 m0 pl σ ρ m act w->∃m',Le m m'/\Sat N w0 m0 pl (σ.b8 l) ρ m' act w
 |[],σ,m,h=>⟨m,Le.refl m,h⟩
 |a::r,σ,m,h=>by
  obtain⟨m1,l1,h1⟩:=h.JD a;obtain⟨m2,l2,h2⟩:=Sat.b8 r h1;exact⟨m2,l1.trans l2,h2⟩
theorem Sat.wV (a:AV)(h:Sat N w0 m0 pl σ ρ m act w):∃m',Le m m'/\Sat N w0 m0 pl (σ.wV a) ρ m' act w:=by
 unfold AS.wV;split
 .exact h.b8 _
 .exact h.JD _
theorem Sat.DN:∀(ps:List bA) {σ:AS} {m:Mem},Sat N w0 m0 pl σ ρ m act w->∃m',Le m m'/\Sat N w0 m0 pl (σ.DN ps) ρ m' act w
 |[],σ,m,h=>⟨m,Le.refl m,h⟩
 |x::r,σ,m,h=>by
  have step:∃m',Le m m'/\Sat N w0 m0 pl (σ.wV (σ.o x)) ρ m' act w:=by
   unfold AS.wV;split
   .exact h.b8 _
   .exact h.JD _
  obtain⟨m1,l1,h1⟩:=step;obtain⟨m2,l2,h2⟩:=Sat.DN r h1;exact⟨m2,l1.trans l2,h2⟩
end
def YU (v:Value):Option PV:=match v with
 |.agg cs=>(cs.toList.mapM nP).map .agg
 |v=>nP v
theorem Yo {m:Mem}:∀{l:List Value} {xs:List PV},l.mapM nP=some xs->l.length=xs.length/\∀(j:Nat) (d:Value) (c:PV),l[j]?=some d->xs[j]?=some c->dG m d c
 |[],xs,h=>by simp at h;subst h;exact⟨rfl,fun j d c k=>by simp at k⟩
 |v::r,xs,h=>by
  simp only[List.mapM_cons,Option.bind_eq_bind,Option.pure_def]at h;cases hv:nP v with
  |none=>simp[hv]at h
  |some x=>
   cases hr:r.mapM nP with
   |none=>simp[hv,hr]at h
   |some l=>
    simp[hv,hr]at h;subst h;obtain⟨h1,h2⟩:=Yo (m:=m) hr;refine⟨by simp[h1],fun j d c k1 k2=>?_⟩;cases j with
    |zero=>simp at k1 k2;subst k1 k2;exact Lm hv m
    |succ j=>exact h2 j d c (by simpa using k1) (by simpa using k2)
theorem ZkE {v:Value}{x:PV}(h:nP v=some x):v.oneCell'=true/\x.cells=[x]:=by
 unfold nP at h;split at h<;>first|(cases h;exact⟨rfl,rfl⟩)|(cases h)
theorem TD {v:Value}{x:PV}(h:YU v=some x)(m:Mem):v.cells.size=x.cells.length/\(∀d∈v.cells,d.oneCell'=true)/\∀(j:Nat) (d:Value) (c:PV),v.cells[j]?=some d->x.cells[j]?=some c->dG m d c:=by
 unfold YU at h;split at h
 .rename_i cs;obtain⟨xs,k1,rfl⟩:=dZ.1 h;obtain⟨k2,k3⟩:=Yo (m:=m) k1;refine⟨by simpa[Value.cells,PV.cells]using k2,fun d hd=>?_,fun j d c h1 h2=>k3 j d c (by simpa[Value.cells]using h1) h2⟩;have HY:d∈cs.toList:=by simpa[Value.cells]using hd
  obtain⟨j,hj⟩:=iJ.1 HY;have eS:∀{l:List Value} {xs:List PV},l.mapM nP=some xs->∀d∈l,d.oneCell'=true:=by
   intro l;induction l with
   |nil=>intro xs _ d hd;cases hd
   |cons v r ih=>
    intro xs h d hd;simp only[List.mapM_cons,Option.bind_eq_bind,Option.pure_def]at h;cases hv:nP v with
    |none=>simp[hv]at h
    |some x=>
     cases hr:r.mapM nP with
     |none=>simp[hv,hr]at h
     |some l=>
      rcases jN.1 hd with rfl|hd
      .exact(ZkE hv).1
      .exact ih hr d hd
  exact eS k1 d HY
 .rename_i dA;obtain⟨k1,k2⟩:=ZkE h;have hv:v.cells=#[v]:=by cases v<;>first|rfl|(exact(dA _ rfl).elim)
  rw[hv,k2];refine⟨rfl,fun d hd=>by simp at hd;subst hd;exact k1,fun j d c h1 h2=>?_⟩;cases j with
  |zero=>simp at h1 h2;subst h1 h2;exact Lm h m
  |succ j=>simp at h2
def rZ (P:Program)(t:TypeId):Option PV:=(gS P t).bind YU
def pJ:List Operand->Option (List bA)
 |[]=>some []
 |x::r=>match aV x,pJ r with
  |some y,some l=>some (y::l)
  |_,_=>none
def Yp (P:Program)(t:TypeId):Option (List (Nat×Nat)):=match P.underlying t with
 |some (.struct fs)=>fs.toList.mapM fun f=>(eH P f.type).map fun n=>(f.offset,n)
 |some (.array l e)=>(eH P e).map fun n=>(List.range l).map fun i=>(i*n,n)
 |_=>none
def WB (pl:List (Nat×Nat)):List (Nat×Operand)->Option (List (Nat×Nat×bA))
 |[]=>some []
 |(i,x)::r=>match pl[i]?,aV x,WB pl r with
  |some (o,n),some y,some l=>some ((o,n,y)::l)
  |_,_,_=>none
def tQ:Option Operand->Option (Option bA)
 |none=>some none
 |some x=>(aV x).map some
def vO (k:QK)(op:BinOp)(x:bA):lU:=match op with
 |.eql=>.yA k false x
 |.neq=>.yA k true x
 |_=>.other
def mX (P:Program):Op->lU
 |.move x=>match aV x with
  |some y=>.dV y
  |none=>.other
 |.assign x=>match aV x with
  |some y=>.dV y
  |none=>.other
 |.pick c a b=>match aV c,aV a,aV b with
  |some c,some a,some b=>.pick c a b
  |_,_,_=>.other
 |.binOp op t x y _=>match aV x,aV y,P.underlying t with
  |some x,some y,some (.int _)=>.bin false op x y
  |some x,some y,some .bool=>.bin true op x y
  |some x,some (.c (.emp (some true))),some (.slice _)=>vO .sl op x
  |some x,some (.c .eU),some (.pointer _)=>vO .pt op x
  |some x,some (.c .cT),some (.map _ _)=>vO .mp op x
  |_,_,_=>.other
 |.unOp .not _ x=>match aV x with
  |some y=>.not y
  |none=>.other
 |.unOp .neg _ x=>match aV x with
  |some y=>.neg y
  |none=>.other
 |.box t x=>match aV x,eH P t with
  |some y,some n=>.box n y
  |_,_=>.other
 |.alloc t=>match rZ P t with
  |some z=>.alloc z
  |none=>.other
 |.build t ps=>match rZ P t,Yp P t with
  |some z,some pl=>match WB pl ps.toList with
   |some l=>.build z l
   |none=>.other
  |_,_=>.other
 |.buildSlice t len ps=>match eG P t,pJ (ps.toList.map (·.2))with
  |some (e,n,none),some l=>if ps.toList.map (·.1)=List.range len/\0<n/\len*n<=2^24/\(gS P e).isSome=true then .aQ e n l else .other
  |_,_=>.other
 |.load t x=>match aV x,eH P t,P.underlying t with
  |some y,some n,some _=>.load (sL P t) n y
  |_,_,_=>.other
 |.store t x y=>match aV x,aV y,eH P t with
  |some x,some y,some n=>.store n x y
  |_,_,_=>.other
 |.fieldAddr t x f=>match aV x,GV P t f with
  |some y,some o=>.fa o y
  |_,_=>.other
 |.indexAddr t x i=>match aV x,aV i,eG P t with
  |some x,some i,some (_,n,a)=>.ia n a x i
  |_,_,_=>.other
 |.extract x i=>match aV x with
  |some y=>.ext y i
  |none=>.other
 |.makeFunc (.func f) fs cs=>match pJ fs.toList,pJ cs.toList with
  |some a,some b=>.yB f a b
  |_,_=>.other
 |.nilCheck x=>match aV x with
  |some y=>.vN y
  |none=>.other
 |.convert src dst x=>match aV x,P.underlying src,P.underlying dst with
  |some y,some _,some (.int k)=>.conv k y
  |_,_,_=>.other
 |.slice t x lo hi none=>match aV x,eG P t,tQ lo,tQ hi with
  |some x,some (_,n,none),some lo,some hi=>.I9 n none x lo hi none
  |_,_,_,_=>.other
 |.field t x f=>match aV x,P.underlying t with
  |some y,some (.struct fs)=>match fs[f]? with
   |some fl=>match eH P fl.type,P.underlying fl.type with
    |some n,some _=>.MT (sL P fl.type) fl.offset n y
    |_,_=>.other
   |none=>.other
  |_,_=>.other
 |.makeSlice t l c=>match eG P t,aV l,aV c with
  |some (e,n,none),some l,some c=>match rZ P e,P.info? e with
   |some z,some i=>if 0<n/\z.cells.length=n then .UC e n i.bytes z l c else .other
   |_,_=>.other
  |_,_,_=>.other
 |.call c=>match c.callee with
  |.builtin .len=>match c.args.toList,c.argTypes.toList with
   |[x],[t]=>match aV x,eG P t with
    |some y,some (_,_,a)=>.len a y
    |_,_=>.other
   |_,_=>.other
  |.builtin .append=>match c.args.toList,c.argTypes.toList with
   |[x,y],[t,u]=>match aV x,aV y,eG P t with
    |some x,some y,some (e,n,none)=>match rZ P e,P.info? e with
     |some z,some i=>if t=u/\0<n/\z.cells.length=n then .app e n i.bytes x y else .other
     |_,_=>.other
    |_,_,_=>.other
   |_,_=>.other
  |.builtin .min=>match pJ c.args.toList with
   |some [x,y]=>.iW false x y
   |_=>.other
  |.builtin .max=>match pJ c.args.toList with
   |some [x,y]=>.iW true x y
   |_=>.other
  |.value f=>match aV f,pJ c.args.toList with
   |some g,some l=>.call g l
   |_,_=>.other
  |_=>.other
 |_=>.other
section
variable {G:World->Prop}{P:Program}{N:Nat}{w0:World}{m0:Env w0}{pl:List Nat}{σ:AS}{ρ:Site->Loc}{m:Mem}{act:Act}{w:World}{o:Oper}{d:Nat}{K:AV->AS->Prop}
def _root_.Go.Op.vP:Op->Bool
 |.store _ _ _=>false
 |.call _=>false
 |.mapUpdate _ _ _ _=>false
 |.insert _ _ _ _=>false
 |.entryStore _ _ _ _=>false
 |_=>true
def F4 (E:Prop)(P:Program)(N:Nat)(w0:World)(m0:Env w0)(pl:List Nat)(o:Oper)(act:Act)(w:World)(K:AV->AS->Prop):Prop:=
 ∃v w' a KL bV m',((execOp act.eval o).run P w=.ok (.value v) w'\/((execOp act.eval o).run P w=.ok .skip w'/\v=undef))/\K a KL/\Sat N w0 m0 pl KL bV m' act w'/\bO bV m' v a/\(E->Ext w w')
def oA (P:Program)(N:Nat)(w0:World)(m0:Env w0)(pl:List Nat)(o:Oper)(act:Act)(w:World)(K:AV->AS->Prop):Prop:=F4 (o.op.vP=true) P N w0 m0 pl o act w K
def fW (σ:AS)(ρ:Site->Loc)(m:Mem)(w w':World):Prop:=Le m w'.mem/\∀s b,σ.b s=some b->(ρ s).real=true->w'.heap[(ρ s).b]?=w.heap[(ρ s).b]?
def dB (G:World->Prop)(P:Program)(σ:AS)(ρ:Site->Loc)(m:Mem)(o:Oper)(act:Act)(w:World)(K:AV->AS->Prop):Prop:=
 ∃v a,(∀w',G w'->(execOp act.eval o).run P w'=.ok (.value v) w')/\bO ρ m v a/\K a σ
theorem dB.pure (_:Sat N w0 m0 pl σ ρ m act w){v:Value}{a:AV}(hr:∀w',G w'->(execOp act.eval o).run P w'=.ok (.value v) w')(hv:bO ρ m v a)(hK:K a σ):dB G P σ ρ m o act w K:=
 ⟨v,a,hr,hv,hK⟩
theorem fW.refl (h:Sat N w0 m0 pl σ ρ m act w):fW σ ρ m w w:=⟨h.mem,fun _ _ _ _=>rfl⟩
theorem fW.at' {w':World}(h:fW σ ρ m w w'){s:Site}{b:aJ}(hs:σ.b s=some b)(hr:(ρ s).real=true){o:Nat}{ds:List Value}(k:At w.mem (ρ s).b o ds):At w'.mem (ρ s).b o ds:=
 At.b9 (fun j u hj=>(World.cell?_of_block (a:=⟨(ρ s).b,o+j,none⟩) (h.2 s b hs hr)).trans (k.get j u hj))
theorem dB.res (h:dB G P σ ρ m o act w K)(hG:G w)(hS:Sat N w0 m0 pl σ ρ m act w):oA P N w0 m0 pl o act w K:=
 let ⟨v,a,h1,h2,h3⟩:=h;⟨v,w,a,σ,ρ,m,.inl (h1 w hG),h3,hS,h2,fun _=>Ext.tI _⟩
theorem KD:∀{l:List Operand} {ys:List bA},pJ l=some ys->l.length=ys.length/\∀(j:Nat) (x:Operand),l[j]?=some x->∃y:bA,ys[j]?=some y/\aV x=some y
 |[],ys,h=>by simp[pJ]at h;subst h;exact⟨rfl,fun j x k=>by simp at k⟩
 |a::r,ys,h=>by
  unfold pJ at h;split at h
  .rename_i y l h1 h2;cases h;obtain⟨k1,k2⟩:=KD h2;refine⟨by simp[k1],fun j x k=>?_⟩;cases j with
   |zero=>simp at k;subst k;exact⟨y,rfl,h1⟩
   |succ j=>simpa using k2 j x (by simpa using k)
  .cases h
theorem bO.U7 {v:Value}{k:IntKind}{n:Int}(h:bO ρ m v (.pv (.int k n))):v=.int k n:=by
 cases h with
 |pv _ _ h=>cases h;rfl
theorem bO.NL {v:Value}{b:Bool}(h:bO ρ m v (.pv (.bool b))):v=.bool b:=by
 cases h with
 |pv _ _ h=>cases h;rfl
theorem bO.nG {v:Value}{x:PV}(h:bO ρ m v (.pv x)):dG m v x:=by cases h with|pv _ _ h=>exact h
theorem bO.DP {v:Value}{s:Site}{off:Nat}(h:bO ρ m v (.ptr s off)):v=.pointer (some ⟨(ρ s).b,off,none⟩):=by cases h;rfl
theorem bO.Er {v:Value}{s:Site}{n i off:Nat}(h:bO ρ m v (.lB s n i off)):v=.pointer (some ⟨(ρ s).b,(ρ s).o+i*n+off,none⟩):=by cases h;rfl
theorem bO.Et {v:Value}{cs:List PV}(h:bO ρ m v (.pv (.ref cs))):∃b o ds,v=.pointer (some ⟨b,o,none⟩)/\At m b o ds/\ds.length=cs.length/\(∀d∈ds,d.oneCell'=true)/\∀(j:Nat) (d:Value) (c:PV),ds[j]?=some d->cs[j]?=some c->dG m d c:=by
 cases h with
 |pv _ _ h=>cases h with
  |ref b o _ ds h0 h1 h2 h3=>exact⟨b,o,ds,rfl,h0,h1,h2,h3⟩
theorem bO.Zxz {v:Value}{vs:List AV}(h:bO ρ m v (.bL vs)):∃us,v=.tuple us/\us.size=vs.length/\∀(j:Nat) (d:Value) (c:AV),us[j]?=some d->vs[j]?=some c->bO ρ m d c:=by
 cases h with
 |bL us _ h0 h2=>exact⟨us,rfl,h0,h2⟩
theorem bO.Zw3 {v:Value}{vs:List PV}(h:bO ρ m v (.pv (.bL vs))):∃us,v=.tuple us/\us.size=vs.length/\∀(j:Nat) (d:Value) (c:PV),us[j]?=some d->vs[j]?=some c->dG m d c:=by
 cases h with
 |pv _ _ h=>cases h with
  |bL us _ h0 h2=>exact⟨us,rfl,h0,h2⟩
theorem Ly {x:Operand}{y:bA}(he:aV x=some y)(ho:o.op=.move x\/o.op=.assign x)(h:bY (.dV y) d K σ)(hS:Sat N w0 m0 pl σ ρ m act w):dB G P σ ρ m o act w K:=by
 refine .pure hS (v:=act.eval x) ?_ (hS.aV he) h;rcases ho with ho|ho<;>· (intro w' bT;unfold execOp;simp only[ho];rfl)
theorem Zkm {c a b:Operand}{c' a' b':bA}(hc:aV c=some c')(ha:aV a=some a')(hb:aV b=some b')(ho:o.op=.pick c a b)(h:bY (.pick c' a' b') d K σ)(hS:Sat N w0 m0 pl σ ρ m act w):dB G P σ ρ m o act w K:=by
 simp only[bY]at h;split at h
 .rename_i t ht;have h1:=(hS.aV hc);rw[ht]at h1;have e:=h1.NL;refine .pure hS (v:=if t=true then act.eval a else act.eval b) ?_ ?_ h
  .intro w' bT;unfold execOp;simp only[ho,e];simp[asBool]
  .cases t
   .exact hS.aV hb
   .exact hS.aV ha
 .exact h.elim
theorem Lp {bt:Bool}{op:BinOp}{t u:TypeId}{x y:Operand}{x' y':bA}(hx:aV x=some x')(hy:aV y=some y')(ho:o.op=.binOp op t x y u)(h:bY (.bin bt op x' y') d K σ)(hS:Sat N w0 m0 pl σ ρ m act w)
  (Cj:bt=true->P.underlying t=some .bool):dB G P σ ρ m o act w K:=by
 simp only[bY]at h;have h1:=hS.aV hx;have h2:=hS.aV hy;split at h
 .rename_i k a k' b e1 e2;rw[e1]at h1;rw[e2]at h2;split at h
  .rename_i r hr;obtain⟨v,k1,k2⟩:=Zq3 (P:=P) hr t x y;refine .pure hS (v:=v) ?_ (.pv _ _ (k2 m)) h;intro w' bT;unfold execOp;simp only[ho,h1.U7,h2.U7];simp only[Sem.run_bind]at k1 ⊢;rw[k1];rfl
  .exact h.elim
 .rename_i a b e1 e2;rw[e1]at h1;rw[e2]at h2;obtain⟨hbt,h⟩:=h;split at h
  .rename_i r hr;obtain⟨v,k1,k2⟩:=Zq4 (P:=P) hr t x y (Cj hbt);refine .pure hS (v:=v) ?_ (.pv _ _ (k2 m)) h;intro w' bT;unfold execOp;simp only[ho,h1.NL,h2.NL];simp only[Sem.run_bind]at k1 ⊢;rw[k1];rfl
  .exact h.elim
 .exact h.elim
def LD (P:Program)(t:TypeId):QK->Prop
 |.sl=>∃e,P.underlying t=some (.slice e)
 |.pt=>∃e,P.underlying t=some (.pointer e)
 |.mp=>∃k e,P.underlying t=some (.map k e)
def FH:QK->Value
 |.sl=>.slice none 0 0
 |.pt=>.pointer none
 |.mp=>.map none
theorem Zta {P:Program}{t:TypeId}{k:QK}(ht:LD P t k){v:Value}{a:AV}(hv:bO ρ m v a)(ha:(∃b,dH k a=some b)\/s7 k a):∃b,(∀w:World,(Op.equal t v (FH k)).run P w=.ok b w)/\(∀b',dH k a=some b'->b'=b):=by
 cases k with
 |sl=>
  obtain⟨e,he⟩:=ht;have hs:∃A l c,v=.slice A l c:=by
   cases hv with
   |pv v x h=>cases h<;>first|exact⟨_,_,_,rfl⟩|(simp[dH,s7]at ha)
   |vec=>exact⟨_,_,_,rfl⟩
   |mZ=>exact⟨_,_,_,rfl⟩
   |_=>simp[dH,s7]at ha
  obtain⟨A,l,c,rfl⟩:=hs;refine⟨A.isNone,fun w=>run_equal_slice_nil w t e A l c he,fun b' hb=>?_⟩;clear ha;cases hv with
  |pv _ x h=>cases h with
   |emp _ nl h0 h1 h2=>
    simp only[dH]at hb;subst hb;cases b' with
    |true=>rw[h0 rfl];rfl
    |false=>cases A with
     |none=>exact absurd rfl (h1 rfl)
     |some A=>rfl
   |aF _ cap nn n xs ds h0 h1 h2 h3 h4 h5 h6 h7=>
    simp only[dH]at hb;split at hb
    .rename_i hn;cases hb;cases A with
     |none=>exact absurd rfl (h4 hn)
     |some A=>rfl
    .split at hb
     .cases hb
     .cases hb;obtain⟨b,o,e1,_⟩:=h5 0 _ rfl;subst e1;rfl
   |P3=>simp[dH]at hb
  |vec s n lo len cap h0 h1 h2=>
   simp only[dH]at hb;split at hb
   .cases hb
   .cases hb;rfl
  |mZ s n lo a h=>
   simp[dH]at hb
  |_=>simp[dH]at hb
 |pt=>
  obtain⟨e,he⟩:=ht;have hp:P.underlying t=some (.pointer (P.pointee t)):=by simp[Program.pointee,he]
  have hs:∃A,v=.pointer A:=by
   cases hv with
   |pv v x h=>cases h<;>first|exact⟨_,rfl⟩|(simp[dH,s7]at ha)
   |ptr=>exact⟨_,rfl⟩
   |lB=>exact⟨_,rfl⟩
   |_=>simp[dH,s7]at ha
  obtain⟨A,rfl⟩:=hs;refine⟨A.isNone,fun w=>run_equal_pointer_nil w t A hp,fun b' hb=>?_⟩;clear ha;cases hv with
  |pv _ x h=>cases h<;>simp[dH]at hb<;>subst hb<;>rfl
  |ptr=>simp[dH]at hb;subst hb;rfl
  |lB=>simp[dH]at hb;subst hb;rfl
  |_=>simp[dH]at hb
 |mp=>
  obtain⟨k,e,he⟩:=ht;have hs:∃A,v=.map A:=by
   cases hv with
   |pv v x h=>cases h<;>first|exact⟨_,rfl⟩|(simp[dH,s7]at ha)
   |mp=>exact⟨_,rfl⟩
   |_=>simp[dH,s7]at ha
  obtain⟨A,rfl⟩:=hs;refine⟨A.isNone,fun w=>run_equal_map_nil w t k e A he,fun b' hb=>?_⟩;clear ha;cases hv with
  |pv _ x h=>cases h<;>simp[dH]at hb<;>subst hb<;>rfl
  |mp=>simp[dH]at hb;subst hb;rfl
  |_=>simp[dH]at hb
theorem XK {k:QK}{op:BinOp}{t u:TypeId}{x y:Operand}{x':bA}(hx:aV x=some x')(hy:act.eval y=FH k)(ht:LD P t k)(ho:o.op=.binOp op t x y u)(h:bY (vO k op x') d K σ)(hS:Sat N w0 m0 pl σ ρ m act w):dB G P σ ρ m o act w K:=by
 have h1:=hS.aV hx;have hg:∀w,(eqGuard op t x y (act.eval x) (FH k)).run P w=.ok () w:=by
  intro w;unfold eqGuard;cases k<;>cases op<;>cases act.eval x<;>rfl
 have main:∀neg,bY (.yA k neg x') d K σ->(op=.eql/\neg=false\/op=.neq/\neg=true)->dB G P σ ρ m o act w K:=fun neg h hop=>by
  simp only[bY]at h;obtain⟨b,sV,pP⟩:=Zta (P:=P) (k:=k) ht h1 (by
   split at h
   .rename_i b hb;exact .inl ⟨b,hb⟩
   .exact .inr h.1)
  have hK:K (.pv (.bool (b != neg))) σ:=by
   split at h
   .rename_i b' hb;rw[<-pP b' hb];exact h
   .cases b<;>cases neg<;>first|exact h.2.1|exact h.2.2
  refine .pure hS (v:=.bool (b != neg)) ?_ (.pv _ _ (.bool _)) hK;intro w' bT;unfold execOp;simp only[ho,hy];rcases hop with⟨rfl,rfl⟩|⟨rfl,rfl⟩
  .cases k<;>simp[binOp,FH]<;>simp_all [FH]
  .cases k<;>simp[hg,binOp,sV,FH]<;>simp_all [FH,binOp]
 unfold vO at h;split at h
 .exact main false h (.inl ⟨rfl,rfl⟩)
 .exact main true h (.inr ⟨rfl,rfl⟩)
 .exact h.elim
theorem ZmO {t:TypeId}{x:Operand}{x':bA}(hx:aV x=some x')(ho:o.op=.unOp .not t x)(h:bY (.not x') d K σ)(hS:Sat N w0 m0 pl σ ρ m act w):dB G P σ ρ m o act w K:=by
 simp only[bY]at h;split at h
 .rename_i a e;have h1:=hS.aV hx;rw[e]at h1;refine .pure hS (v:=.bool (!a)) ?_ (.pv _ _ (.bool _)) h;intro w' bT;unfold execOp;simp only[ho,h1.NL];rfl
 .exact h.elim
theorem ZmP {t:TypeId}{x:Operand}{x':bA}(hx:aV x=some x')(ho:o.op=.unOp .neg t x)(h:bY (.neg x') d K σ)(hS:Sat N w0 m0 pl σ ρ m act w):dB G P σ ρ m o act w K:=by
 simp only[bY]at h;split at h
 .rename_i k a e;have h1:=hS.aV hx;rw[e]at h1;refine .pure hS (v:=.int k (k.wrap (0-a))) ?_ (.pv _ _ (.int _ _)) h;intro w' bT;unfold execOp;simp only[ho,h1.U7];rfl
 .exact h.elim
theorem Zkp {src dst:TypeId}{e:TypeDesc}{k:IntKind}{x:Operand}{x':bA}(hx:aV x=some x')(hs:P.underlying src=some e)(hd:P.underlying dst=some (.int k))(ho:o.op=.convert src dst x)(h:bY (.conv k x') d K σ)(hS:Sat N w0 m0 pl σ ρ m act w):dB G P σ ρ m o act w K:=by
 simp only[bY]at h;split at h
 .rename_i k' a e';have h1:=hS.aV hx;rw[e']at h1;refine .pure hS (v:=.int k (k.wrap a)) ?_ (.pv _ _ (.int _ _)) h;intro w' bT;unfold execOp;simp only[ho,h1.U7];simp[convert,run_underlying hs,run_underlying hd,Conv.intToInt]
 .exact h.elim
theorem ZmT {x:Operand}{i:Nat}{x':bA}(hx:aV x=some x')(ho:o.op=.extract x i)(h:bY (.ext x' i) d K σ)(hS:Sat N w0 m0 pl σ ρ m act w):dB G P σ ρ m o act w K:=by
 simp only[bY]at h;have h1:=hS.aV hx;have key:∀(vs:Array Value) (a:AV),act.eval x=.tuple vs->(∃v,vs[i]?=some v/\bO ρ m v a)->K a σ->dB G P σ ρ m o act w K:=by
  intro vs a e ⟨v,k1,k2⟩ hK;refine .pure hS (v:=v) ?_ k2 hK;intro w' bT;unfold execOp;simp only[ho,e];simp[Instr.extract,k1]
 split at h
 .rename_i vs e;rw[e]at h1;obtain⟨us,hX,h0,h2⟩:=h1.Zw3;split at h
  .rename_i v hv;have aI:i<us.size:=by rw[h0];exact(bZ.1 hv).1
   exact key us (.pv v) hX ⟨us[i],uT aI,.pv _ _ (h2 i _ _ (uT aI) hv)⟩ h
  .exact h.elim
 .rename_i vs e;rw[e]at h1;obtain⟨us,hX,h0,h2⟩:=h1.Zxz;split at h
  .rename_i v hv;have aI:i<us.size:=by rw[h0];exact(bZ.1 hv).1
   exact key us v hX ⟨us[i],uT aI,h2 i _ _ (uT aI) hv⟩ h
  .exact h.elim
 .exact h.elim
theorem Zkn {x:Operand}{x':bA}(hx:aV x=some x')(ho:o.op=.nilCheck x)(h:bY (.vN x') d K σ)(hS:Sat N w0 m0 pl σ ρ m act w):dB G P σ ρ m o act w K:=by
 simp only[bY]at h;have h1:=hS.aV hx;have key:∀(A:Addr) (a:AV),act.eval x=.pointer (some A)->bO ρ m (act.eval x) a->K a σ->dB G P σ ρ m o act w K:=by
  intro A a e k2 hK;refine .pure hS (v:=act.eval x) ?_ k2 hK;intro w' bT;unfold execOp;simp only[ho,e];rfl
 split at h
 .rename_i cs e;rw[e]at h1;obtain⟨b,o,ds,hX,_⟩:=h1.Et;exact key _ _ hX h1 h
 .rename_i s off e;rw[e]at h1;exact key _ _ h1.DP h1 h
 .rename_i s n i off e;rw[e]at h1;exact key _ _ h1.Er h1 h
 .exact h.elim
theorem Nn {mx:Bool}{c:Call}{x y:Operand}{x' y':bA}(hx:aV x=some x')(hy:aV y=some y')(hc:c.callee=.builtin (if mx=true then .max else .min))(ha:c.args.toList=[x,y])(ho:o.op=.call c)(h:bY (.iW mx x' y') d K σ)(hS:Sat N w0 m0 pl σ ρ m act w):dB G P σ ρ m o act w K:=by
 simp only[bY]at h;have h1:=hS.aV hx;have h2:=hS.aV hy;have fX:c.args=#[x,y]:=yU.1 (by simpa using ha);split at h
 .rename_i k a k' b e1 e2;rw[e1]at h1;rw[e2]at h2;refine .pure hS (v:=.int k (if mx=true then(if b>a then b else a)else(if b<a then b else a))) ?_ (.pv _ _ (.int _ _)) h;intro w' bT;unfold execOp;simp only[ho];cases mx
  .simp[resolve,hc,fX,invoke,builtin,Builtin.min_,h1.U7,h2.U7,Builtin.min2]
  .simp[resolve,hc,fX,invoke,builtin,Builtin.max_,h1.U7,h2.U7,Builtin.max2]
 .exact h.elim
end
section
variable {G:World->Prop}{P:Program}{N:Nat}{w0:World}{m0:Env w0}{pl:List Nat}{σ:AS}{ρ:Site->Loc}{m:Mem}{act:Act}{w:World}{o:Oper}{d:Nat}{K:AV->AS->Prop}
theorem NX {v:Value}{a:AV}(h:bO ρ m v a)(hw:a.wide=true\/a.one=true):v.cells.size=a.cells.length/\(∀u∈v.cells,u.oneCell'=true)/\∀(j:Nat) (d:Value) (c:AV),v.cells[j]?=some d->a.cells[j]?=some c->bO ρ m d c:=by
 have dA:a≠.any:=fun e=>by subst e;rcases hw with h|h<;>cases h
 obtain⟨h1,h2⟩:=h.Zxu dA;refine⟨h1,fun u hu=>?_,fun j d c k1 k2=>(h2 j d c k1 k2).1⟩;obtain⟨j,hj,rfl⟩:=Array.mem_iff_getElem.1 hu;have X9:j<a.cells.length:=by omega
 obtain⟨k1,k2⟩:=h2 j _ _ (uT hj) (bB X9);rcases hw with hw|hw
 .exact k2 hw
 .refine k1.one ?_
  have:a.cells=[a]:=by
   cases a with
   |agg cs=>cases hw
   |pv x=>cases x<;>first|rfl|cases hw
   |_=>rfl
  have Jq:j=0:=by rw[this]at X9;simp at X9;exact X9
  subst Jq;simp only[this,List.getElem_cons_zero];exact hw
theorem oA.Zw5 (h:Sat N w0 m0 pl σ ρ m act w){cs:Array Value}{T:TypeId}{bS:List AV}(h0:cs.size=bS.length)(h1:∀u∈cs,u.oneCell'=true)(h2:∀(j:Nat) (d:Value) (c:AV),cs[j]?=some d->bS[j]?=some c->bO ρ m d c)
  (hn:qW d σ) (has:AV.qT d bS=false) (hr:(execOp act.eval o).run P w=.ok (.value (.pointer (some ⟨w.heap.size,0,none⟩))) (w.alloc (.cells cs T))) (hK:K (.ptr (.loc d 0) 0) (σ.add (.loc d 0) (.cells bS))):oA P N w0 m0 pl o act w K:=by
 have hu:=Q7 ρ (.loc d 0) ⟨w.heap.size,0,0,true⟩;refine⟨_,_,_,_,_,_,.inl hr,hK,h.new d 0 hn cs T 0 ?_,?_,fun _=>Ext.al _ _⟩
 .refine⟨by rw[hu],cs,T,by rw[hu];exact heap_alloc_new w _,h0,fun i c a k1 k2=>⟨h1 c (Array.mem_of_getElem? k1),?_⟩⟩;exact(h2 i c a k1 k2).mono (Le.refl m) (Mb ρ d 0 _) (AV.NM has k2)
 .have:=bO.ptr (ρ:=iK ρ (.loc d 0) ⟨w.heap.size,0,0,true⟩) (m:=m) (.loc d 0) 0
  rw[hu]at this;exact this
theorem Zf {d:Nat}:∀{l:List AV},(∀a∈l,a.has d=false)->AV.qT d l=false
 |[],_=>rfl
 |a::r,h=>by
  rw[AV.qT,h a (by simp),Zf (fun b hb=>h b (by simp[hb]))];rfl
theorem ZoH {d:Nat}{a:AV}(h:a.has d=false):AV.qT d a.cells=false:=by
 cases a with
 |agg cs=>exact h
 |pv x=>
  cases x with
  |agg cs=>exact Zf (fun a ha=>by obtain⟨c,_,rfl⟩:=iI.1 ha;rfl)
  |_=>rfl
 |_=>simp only[AV.cells,AV.qT,h,Bool.or_false]
theorem ZG {d:Nat}(hn:qW d σ)(x:bA):(σ.o x).has d=false:=by
 cases x with
 |t k=>
  show((σ.t k).getD .any).has d=false;cases ht:σ.t k with
  |none=>rfl
  |some a=>exact hn.t k a ht
 |c x=>rfl
theorem Zsw {t n:Nat}{x:Operand}{x':bA}(hx:aV x=some x')(hs:eH P t=some n)(ho:o.op=.box t x)(h:bY (.box n x') d K σ)(hS:Sat N w0 m0 pl σ ρ m act w):oA P N w0 m0 pl o act w K:=by
 obtain⟨h1,h2,h3⟩:=h;have hP:=hS.bG d;obtain⟨k1,k2,k3⟩:=NX (hP.aV hx) h2;refine oA.Zw5 hP k1 k2 k3 (qW.bG d σ) (ZoH (ZG (qW.bG d σ) x')) ?_ h3 (T:=t);unfold execOp;simp only[ho,Sem.run_bind,YT,Result.andThen_ok];rfl
theorem ZmV {t:Nat}{z:PV}(hz:rZ P t=some z)(ho:o.op=.alloc t)(h:bY (.alloc z) d K σ)(hS:Sat N w0 m0 pl σ ρ m act w):oA P N w0 m0 pl o act w K:=by
 unfold rZ at hz;cases hv:gS P t with
 |none=>simp[hv]at hz
 |some v=>
  simp only[hv,Option.bind_some]at hz;obtain⟨k1,k2,k3⟩:=TD hz m;refine oA.Zw5 (hS.bG d) (cs:=v.cells) (T:=t) (bS:=z.cells.map .pv) (by simpa using k1) k2 (fun j dd c q1 q2=>?_) (qW.bG d σ) (Zf (fun a ha=>by obtain⟨c,_,rfl⟩:=iI.1 ha;rfl)) ?_ h
  .rw[bW]at q2;obtain⟨x,q3,rfl⟩:=dZ.1 q2;exact .pv _ _ (k3 j dd x q1 q3)
  .unfold execOp;simp only[ho,Sem.run_bind,Zno hv,Result.andThen_ok];rfl
theorem ZrA {t f off:Nat}{x:Operand}{x':bA}(hx:aV x=some x')(hf:GV P t f=some off)(ho:o.op=.fieldAddr t x f)(h:bY (.fa off x') d K σ)(hS:Sat N w0 m0 pl σ ρ m act w):dB G P σ ρ m o act w K:=by
 simp only[bY]at h;have h1:=hS.aV hx;have key:∀(b q:Nat) (a:AV),act.eval x=.pointer (some ⟨b,q,none⟩)->bO ρ m (.pointer (some ⟨b,q+off,none⟩)) a->K a σ->dB G P σ ρ m o act w K:=by
  intro b q a e k2 hK;refine .pure hS ?_ k2 hK;intro w' bT;unfold execOp;simp only[ho,e,Sem.run_bind,Pd hf,Result.andThen_ok];rfl
 split at h
 .rename_i cs e;rw[e]at h1;obtain⟨b,q,ds,hX,k1,k2,k3,k4⟩:=h1.Et;refine key b q _ hX ?_ h.2;refine .pv _ _ (.ref b (q+off) (cs.drop off) (ds.drop off) (At.b9 (fun j u hj=>?_)) (by simp[k2]) (fun u hu=>k3 u (List.mem_of_mem_drop hu)) (fun j u c q1 q2=>?_))
  .rw[mS]at hj
   have:=k1.get _ u hj
   rwa [show q+off+j=q+(off+j) by omega]
  .rw[mS]at q1 q2;exact k4 _ u c q1 q2
 .rename_i s q e;rw[e]at h1;exact key _ q _ h1.DP (.ptr s (q+off)) h
 .rename_i s n i q e;rw[e]at h1;refine key _ _ _ h1.Er ?_ h
  have:=bO.lB (ρ:=ρ) (m:=m) s n i (q+off)
  rwa [show(ρ s).o+i*n+(q+off)=(ρ s).o+i*n+q+off by omega]at this
 .exact h.elim
theorem Hi {s:Site}{bS:List AV}(hb:kO ρ m w s (.cells bS)){off n:Nat}(hl:off+n<=bS.length):
  ∃ds:List Value,ds.length=n/\At w.mem (ρ s).b off ds/\(∀u∈ds,u.oneCell'=true)/\∀(j:Nat) (d:Value) (c:AV),ds[j]?=some d->((bS.drop off).take n)[j]?=some c->bO ρ m d c:=by
 obtain⟨h0,cs,T,h1,h2,h3⟩:=hb;refine⟨(cs.toList.drop off).take n,Hp (by omega),At.b9 (fun j u hj=>?_),fun u hu=>?_,fun j u c k1 k2=>?_⟩
 .rw[c8]at hj;split at hj
  .show w.cell? _=_;simp[World.cell?,h1,hj]
  .cases hj
 .obtain⟨j,hj⟩:=iJ.1 hu;rw[c8]at hj;split at hj
  .rename_i rS;exact(h3 _ u _ hj (bB (by omega))).1
  .cases hj
 .rw[c8]at k1;rw[mG]at k2;split at k1
  .rename_i rS;rw[if_pos rS,mS]at k2;exact(h3 _ u c k1 k2).2
  .cases k1
theorem Zko {t n:Nat}{dd:TypeDesc}{x:Operand}{x':bA}(hx:aV x=some x')(hs:eH P t=some n)(hu:P.underlying t=some dd)(ho:o.op=.load t x)(h:bY (.load (sL P t) n x') d K σ)(hS:Sat N w0 m0 pl σ ρ m act w):dB (fW σ ρ m w) P σ ρ m o act w K:=by
 simp only[bY]at h;have h1:=hS.aV hx;have row:∀(b q:Nat) (ds:List Value) (a:AV),sL P t=true->act.eval x=.pointer (some ⟨b,q,none⟩)->(∀w',fW σ ρ m w w'->At w'.mem b q ds)->ds.length=n->bO ρ m (.agg ds.toArray) a->K a σ->dB (fW σ ρ m w) P σ ρ m o act w K:=by
  intro b q ds a hr e k1 k2 k3 hK;refine .pure hS ?_ k3 hK;intro w' bT;unfold execOp;simp only[ho,e,Sem.run_bind,Znl hu hr (k1 w' bT) (by rw[hs,k2]),Result.andThen_ok];rfl
 have one:∀(b q:Nat) (v:Value) (a:AV),sL P t=false->act.eval x=.pointer (some ⟨b,q,none⟩)->(∀w',fW σ ρ m w w'->w'.cell? ⟨b,q,none⟩=some v)->bO ρ m v a->K a σ->dB (fW σ ρ m w) P σ ρ m o act w K:=by
  intro b q v a hr e k1 k3 hK;refine .pure hS ?_ k3 hK;intro w' bT;unfold execOp;simp only[ho,e,Sem.run_bind,Znm hu hr (k1 w' bT),Result.andThen_ok];rfl
 split at h
 .rename_i cs e;rw[e]at h1;obtain⟨b,q,ds,hX,k1,k2,k3,k4⟩:=h1.Et;split at h
  .rename_i hr;obtain⟨hn,hK⟩:=h;refine row b q (ds.take n) _ hr hX (fun w' bT=>At.b9 (fun j u hj=>?_)) (by rw[gJ];omega) (.pv _ _ (.agg _ _ (by simp;omega) (fun u hu=>k3 u (List.mem_of_mem_take (by simpa using hu))) (fun j u c q1 q2=>?_))) hK
   .rw[mG]at hj;split at hj
    .exact bT.1 _ _ _ (k1.get j u hj)
    .cases hj
   .have j5:(ds.take n)[j]?=some u:=by simpa using q1
    rw[mG]at j5 q2;split at j5
    .rename_i rS;rw[if_pos rS]at q2;exact k4 j u c j5 q2
    .cases j5
  .rename_i hr;split at h
   .rename_i c iH;cases ds with
    |nil=>simp at k2
    |cons v ds'=>exact one b q v _ (by simpa using hr) hX (fun w' bT=>bT.1 _ _ _ k1.1) (.pv _ _ (k4 0 v c rfl rfl)) h
   .exact h.elim
 .rename_i s off e;rw[e]at h1;split at h
  .rename_i bS hb;have hB:=hS.bx s _ hb;split at h
   .rename_i hr;obtain⟨hl,hK⟩:=h;obtain⟨ds,k1,k2,k3,k4⟩:=Hi hB hl;refine row _ off ds _ hr h1.DP (fun w' bT=>bT.at' hb hB.1 k2) k1 (Hd (by simp[k1,gJ,uH];omega) (fun u hu=>k3 u (by simpa using hu)) (fun j u c q1 q2=>k4 j u c (by simpa using q1) q2)) hK
   .rename_i hr;split at h
    .rename_i a ha;have aI:=(bZ.1 ha).1;obtain⟨ds,k1,k2,k3,k4⟩:=Hi hB (off:=off) (n:=1) (by omega)
     match ds,k1 with
     |[v],_=>exact one _ off v _ (by simpa using hr) h1.DP (fun w' bT=>(bT.at' hb hB.1 k2).1) (k4 0 v a rfl (by rw[mG,if_pos (by omega),mS];exact ha)) h
    .exact h.elim
  .exact h.elim
 .rename_i s n' i off e;rw[e]at h1;split at h
  .rename_i ee eT xs hb;have hB:=hS.bx s _ hb;split at h
   .rename_i y hy;obtain⟨rfl,h⟩:=h;obtain⟨xF,hB|⟨EK,cs,g1,g2,g3,g4,g5⟩⟩:=hB
    .rw[hB.2.1]at hy;simp at hy
    obtain⟨g6,g7⟩:=g5 i y hy;have hX:=h1.Er;have Vu:∀j c,y.cells[j]?=some c->∃u,w.cell? ⟨(ρ s).b,(ρ s).o+i*n'+j,none⟩=some u/\u.oneCell'=true/\dG m u c:=fun j c hc=>by
     obtain⟨u,q1,q2,q3⟩:=g7 j c hc;exact⟨u,by simp[World.cell?,g1,q1],q2,q3⟩
    split at h
    .rename_i hr;obtain⟨hl,hK⟩:=h;have dE:(ρ s).o+i*n'+off+n<=cs.size:=by
      have:i*n'+n'<=(ρ s).cap*n':=V4 (by have:=(bZ.1 hy).1;omega)
      omega
     have hlen:=Hp dE;have Di:∀(j:Nat) (u:Value),((cs.toList.drop ((ρ s).o+i*n'+off)).take n)[j]?=some u->j<n/\∃c,y.cells[off+j]?=some c/\u.oneCell'=true/\dG m u c:=fun j u hj=>by
      rw[c8]at hj;split at hj
      .rename_i rS;have aI:off+j<y.cells.length:=by omega
       obtain⟨u',q1,q2,q3⟩:=g7 (off+j) _ (bB aI);rw[show(ρ s).o+i*n'+(off+j)=(ρ s).o+i*n'+off+j by omega,hj]at q1;cases q1;exact⟨rS,_,bB aI,q2,q3⟩
      .cases hj
     refine row _ _ ((cs.toList.drop ((ρ s).o+i*n'+off)).take n) _ hr hX (fun w' bT=>bT.at' hb EK (At.b9 (fun j u hj=>?_))) hlen (.pv _ _ (.agg _ _ (by simp only[yT];rw[hlen,gJ,uH];omega) (fun u hu=>?_) (fun j u c q1 q2=>?_))) hK
     .rw[c8]at hj;split at hj
      .show w.cell? _=_;simp[World.cell?,g1,hj]
      .cases hj
     .obtain⟨j,hj⟩:=iJ.1 (show u∈(cs.toList.drop ((ρ s).o+i*n'+off)).take n by simpa using hu);obtain⟨_,c,_,q2,_⟩:=Di j u hj;exact q2
     .obtain⟨rS,c',q3,_,q4⟩:=Di j u (by simpa using q1);rw[mG,if_pos rS,mS]at q2;rw[q2]at q3;cases q3;exact q4
    .rename_i hr;split at h
     .rename_i c hc;obtain⟨u,q1,_,q3⟩:=Vu off c hc;exact one _ _ u _ (by simpa using hr) hX (fun w' bT=>(World.cell?_of_block (a:=⟨(ρ s).b,(ρ s).o+i*n'+off,none⟩) (bT.2 s _ hb EK)).trans q1) (.pv _ _ q3) h
     .exact h.elim
   .exact h.elim
  .exact h.elim
 .exact h.elim
end
section
variable {P:Program}{N:Nat}{w0:World}{m0:Env w0}{pl:List Nat}{σ:AS}{ρ:Site->Loc}{m:Mem}{act:Act}{w:World}{o:Oper}{d:Nat}{K:AV->AS->Prop}
theorem cW.setRow (w:World)(b:Nat)(cs:Array Value):cW [b] w (w.setRow b cs):=by
 refine⟨rfl,rfl,rfl,by simp[World.setRow],fun k _ hn=>?_⟩;exact setRow_other w b k cs (by simpa using hn)
theorem A0 {α:Type}{l c:List α}{off:Nat}(h:off+c.length<=l.length)(i:Nat):(aR l off c)[i]?=if i<off then l[i]? else if i<off+c.length then c[i-off]? else l[i]?:=by
 unfold aR;rw[yS,yS];simp only[gD,gJ];rw[show min off l.length=off by omega];by_cases h1:i<off
 .have h3:i<off+c.length:=by omega
  simp only[h1,h3,if_true,mG]
 .by_cases h2:i<off+c.length
  .simp only[h1,h2,if_true,if_false]
  .simp only[h1,h2,if_false,mS];congr 1;omega
theorem V1 {α:Type}{l c:List α}{off:Nat}(h:off+c.length<=l.length):(aR l off c).length=l.length:=by
 unfold aR
 simp;omega
theorem ZmM {t n:Nat}{x y:Operand}{x' y':bA}(hx:aV x=some x')(hy:aV y=some y')(hs:eH P t=some n)(ho:o.op=.store t x y)(h:bY (.store n x' y') d K σ)(hS:Sat N w0 m0 pl σ ρ m act w):oA P N w0 m0 pl o act w K:=by
 simp only[bY]at h;have h1:=hS.aV hx;have h2:=hS.aV hy;have run:∀(b q:Nat) (cur:Array Value) (T:TypeId),act.eval x=.pointer (some ⟨b,q,none⟩)->w.heap[b]?=some (.cells cur T (0,0))->(act.eval y).cells.size=n->q+n<=cur.size->(∀u∈(act.eval y).cells,u.oneCell'=true)->
   (execOp act.eval o).run P w=.ok .skip (w.setRow b (aR cur.toList q (act.eval y).cells.toList).toArray):=by
  intro b q cur T e hh hn hl h1;unfold execOp;simp only[ho,e,Sem.run_bind];rw[ZsY (by rw[hs,hn]) hh (by rw[hn];exact hl) h1];simp only[Result.andThen_ok,Sem.run_pure,aR,uV]
 split at h
 .rename_i s off e;rw[e]at h1;split at h
  .rename_i bS hb;obtain⟨c1,c2,c3,hK⟩:=h;obtain⟨k1,k2,k3⟩:=NX h2 c2;obtain⟨hr,cs,T,g1,g2,g3⟩:=hS.bx s _ hb;have hq:off+(act.eval y).cells.toList.length<=cs.toList.length:=by rw[uV,uV];omega
   refine⟨undef,_,.any,_,ρ,m,.inr ⟨run _ off cs T h1.DP g1 (by omega) (by omega) k2,rfl⟩,hK,?_,.any _,fun hm=>by rw[ho]at hm;cases hm⟩;refine hS.Ew hb hr (cW.setRow w _ _) ⟨hr,_,T,setRow_heap w _ cs _ T _ g1,?_,fun i c a q1 q2=>?_⟩
   .rw[yT,V1 hq,V1 (by omega)];simpa using g2
   .have j5:(aR cs.toList off (act.eval y).cells.toList)[i]?=some c:=by simpa using q1
    rw[A0 hq]at j5;rw[A0 (by omega)]at q2;rw[show(act.eval y).cells.toList.length=(σ.o y').cells.length by simp[k1]]at j5;split at j5
    .rename_i hi;rw[if_pos hi]at q2;exact g3 i c a (by simpa using j5) q2
    .rename_i hi;rw[if_neg hi]at q2;split at j5
     .rename_i M8;rw[if_pos M8]at q2;have q3:(act.eval y).cells[i-off]?=some c:=by simpa using j5
      exact⟨k2 c (Array.mem_of_getElem? q3),k3 _ c a q3 q2⟩
     .rename_i M8;rw[if_neg M8]at q2;exact g3 i c a (by simpa using j5) q2
  .exact h.elim
 .rename_i s n' i off e;rw[e]at h1;obtain⟨m2,nD,mV⟩:=Sat.wV (σ.o y') hS;replace h2:=mV.aV hy;generalize σ.wV (σ.o y')=σ2 at h h2 mV;split at h
  .rename_i ee eT xs p hb zL;split at h
   .rename_i z hz;obtain⟨rfl,c0,c1,c2,c3,hK⟩:=h;rw[zL]at h2;obtain⟨k1,k2,k3⟩:=NX h2 c2;have lZ:(AV.pv p).cells.length=p.cells.length:=by cases p<;>simp[AV.cells,PV.cells]
    have hpg:∀j:Nat,(AV.pv p).cells[j]?=(p.cells[j]?).map AV.pv:=fun j=>by
     cases p<;>simp only[AV.cells,PV.cells,bW]<;>cases j<;>rfl
    obtain⟨xF,hB|⟨hr,cs,g1,g2,g3,g4,g5⟩⟩:=mV.bx s _ hb
    .rw[hB.2.1]at hz;simp at hz
    obtain⟨g6,g7⟩:=g5 i z hz;have Tv:i<xs.length:=(bZ.1 hz).1;have fU:i*n'+n'<=(ρ s).cap*n':=V4 (by omega);have dE:(ρ s).o+i*n'+off+n<=cs.size:=by omega
    have hX:=h1.Er;have P6:(act.eval y).cells.size=n:=by omega
    have hvl:(act.eval y).cells.toList.length=n:=by rw[uV];exact P6
    have HI:(ρ s).o+i*n'+off+(act.eval y).cells.toList.length<=cs.toList.length:=by rw[hvl,uV];exact dE
    refine⟨undef,_,.any,_,ρ,m2,.inr ⟨run _ ((ρ s).o+i*n'+off) cs ee hX g1 P6 dE k2,rfl⟩,hK,?_,.any _,fun hm=>by rw[ho]at hm;cases hm⟩;have jK:(setAt z off p).cells=aR z.cells off p.cells:=by
     unfold setAt;split
     .rfl
     .rename_i dA;have W9:z.cells=[z]:=by cases z<;>first|rfl|(exact(dA _ rfl).elim)
      rw[W9]at c3 ⊢;simp only[List.length_singleton]at c3;have EL:n=1/\off=0\/n=0:=by omega
      rcases EL with⟨e1,e2⟩|e0
      .subst e2;simp[aR,c1,e1]
      .omega
    refine mV.Ew hb hr (cW.setRow w _ _) ⟨xF,.inr ⟨hr,_,setRow_heap w _ cs _ ee _ g1,?_,by rw[List.length_set];exact g3,g4,fun k x hk=>?_⟩⟩
    .rw[yT,V1 HI];simpa using g2
    .have IJ:∀q u,((aR cs.toList ((ρ s).o+i*n'+off) (act.eval y).cells.toList).toArray)[q]?=some u↔(if q<(ρ s).o+i*n'+off then cs[q]? else if q<(ρ s).o+i*n'+off+n then(act.eval y).cells[q-((ρ s).o+i*n'+off)]? else cs[q]?)=some u:=fun q u=>by
      rw[I0,A0 HI,hvl];simp only[O3]
     rcases Nat.decEq k i with dA|rfl
     .rw[List.getElem?_set_ne (fun e=>dA e.symm)]at hk;obtain⟨q1,q2⟩:=g5 k x hk;refine⟨q1,fun j c hj=>?_⟩;obtain⟨u,r1,r2,r3⟩:=q2 j c hj;have rS:j<n':=by have:=(bZ.1 hj).1;omega
      refine⟨u,(IJ _ u).2 ?_,r2,r3⟩;rcases Nat.lt_or_gt_of_ne dA with x5|x5
      .have:=V4 (n:=n') x5
       rw[if_pos (by omega)];exact r1
      .have:=V4 (n:=n') x5
       rw[if_neg (by omega),if_neg (by omega)];exact r1
     .rw[O2 Tv]at hk;cases hk;refine⟨by rw[jK,V1 (by omega)];exact g6,fun j c hj=>?_⟩;rw[jK,A0 (by omega)]at hj;split at hj
      .rename_i hjo;obtain⟨u,r1,r2,r3⟩:=g7 j c hj;exact⟨u,(IJ _ u).2 (by rw[if_pos (by omega)];exact r1),r2,r3⟩
      .rename_i hjo;split at hj
       .rename_i Tn;have xH:j-off<(act.eval y).cells.size:=by omega
        refine⟨(act.eval y).cells[j-off],(IJ _ _).2 ?_,k2 _ (Array.getElem_mem xH),?_⟩
        .rw[if_neg (by omega),if_pos (by omega),show(ρ s).o+k*n'+j-((ρ s).o+k*n'+off)=j-off by omega];exact uT xH
        .have:=k3 (j-off) _ (.pv c) (uT xH) (by rw[hpg,hj];rfl)
         exact this.nG
       .rename_i Tn;obtain⟨u,r1,r2,r3⟩:=g7 j c hj;have rS:j<n':=by have:=(bZ.1 hj).1;omega
        exact⟨u,(IJ _ u).2 (by rw[if_neg (by omega),if_neg (by omega)];exact r1),r2,r3⟩
   .exact h.elim
  .exact h.elim
 .exact h.elim
end
section
variable {G:World->Prop}{P:Program}{N:Nat}{w0:World}{m0:Env w0}{pl:List Nat}{σ:AS}{ρ:Site->Loc}{m:Mem}{act:Act}{w:World}{o:Oper}{d:Nat}{K:AV->AS->Prop}
theorem bO.Kp {v:Value}{nn:Bool}{n:Nat}{xs:List PV}(h:bO ρ m v (.pv (.aF nn n xs))):∃(a:Option Addr) (cap:Nat) (ds:Nat->List Value),v=.slice a xs.length cap/\xs.length<=cap/\cap<=9223372036854775807/\(a=none->cap=0)/\(∀A,a=some A->JK A)/\
  (∀(i:Nat) (x:PV),xs[i]?=some x->∃b o,a=some ⟨b,o,none⟩/\At m b (o+i*n) (ds i))/\(∀(i:Nat) (x:PV),xs[i]?=some x->(ds i).length=n/\x.cells.length=n/\∀d∈ds i,d.oneCell'=true)/\
  (∀(i:Nat) (x:PV) (j:Nat) (d:Value) (c:PV),xs[i]?=some x->(ds i)[j]?=some d->x.cells[j]?=some c->dG m d c):=by
 cases h.nG with
 |aF a cap _ _ _ ds h0 h1 h2 h3 h4 h5 h6 h7=>exact⟨a,cap,ds,rfl,h0,h1,h2,h3,h5,h6,h7⟩
theorem bO.ZxQ {v:Value}{n:Nat}{xs:List PV}(h:bO ρ m v (.pv (.aF true n xs))){a:Option Addr}{len cap:Nat}(hv:v=.slice a len cap):a≠none:=by
 cases h.nG with
 |aF a' IU _ _ _ ds h0 h1 h2 h3 h4 h5 h6 h7=>cases hv;exact h4 rfl
theorem bO.DQ {v:Value}{s:Site}{n lo len:Nat}(h:bO ρ m v (.vec s n lo len)):(∃cap,v=.slice (some ⟨(ρ s).b,(ρ s).o+lo*n,none⟩) len cap/\len<=cap/\lo+cap<=(ρ s).cap/\(ρ s).real=true)\/(∃a,v=.slice a 0 0/\len=0/\∀A,a=some A->JK A):=by
 cases h with
 |vec _ _ _ _ cap h0 h1 h2=>exact .inl ⟨cap,rfl,h0,h1,h2⟩
 |mZ _ _ _ a h=>exact .inr ⟨a,rfl,rfl,h⟩
theorem bO.VX {v:Value}{nl:Option Bool}(h:bO ρ m v (.pv (.emp nl))):∃a,v=.slice a 0 0/\(∀A,a=some A->JK A):=by
 cases h.nG with
 |emp a _ h0 h1 h2=>exact⟨a,rfl,h2⟩
theorem Zrz {t n:Nat}{arr:Option Nat}{e:Nat}{x i:Operand}{x' i':bA}(hx:aV x=some x')(hi:aV i=some i')(he:eG P t=some (e,n,arr))(ho:o.op=.indexAddr t x i)(h:bY (.ia n arr x' i') d K σ)(hS:Sat N w0 m0 pl σ ρ m act w):dB G P σ ρ m o act w K:=by
 simp only[bY]at h;have h1:=hS.aV hx;have h2:=hS.aV hi;split at h
 .rename_i k z ez;rw[ez]at h2;have hz:=h2.U7;split at h
  ·
   have sl:∀(b q len cap:Nat) (a:AV),act.eval x=.slice (some ⟨b,q,none⟩) len cap->0<=z->z<len->bO ρ m (.pointer (some ⟨b,q+z.toNat*n,none⟩)) a->K a σ->dB G P σ ρ m o act w K:=by
    intro b q len cap a e0 z0 z1 k2 hK;refine .pure hS ?_ k2 hK;intro w' bT;unfold execOp;simp only[ho,e0,hz,Sem.run_bind,Pc he b q len cap k z0 z1,Result.andThen_ok];rfl
   split at h
   .rename_i nn n' xs ex;rw[ex]at h1;obtain⟨a,cap,ds,hv,l0,l1,l2,l3,l5,l6,l7⟩:=h1.Kp;split at h
    .rename_i z0;split at h
     .rename_i y hy;obtain⟨rfl,hK⟩:=h;obtain⟨b,q,rfl,k1⟩:=l5 _ y hy;obtain⟨k2,k3,k4⟩:=l6 _ y hy;have aI:=(bZ.1 hy).1;exact sl b q _ cap _ hv z0 (by omega) (.pv _ _ (.ref b (q+z.toNat*n') y.cells _ k1 (by rw[k2,k3]) k4 (fun j u c q1 q2=>l7 _ y j u c hy q1 q2))) hK
     .exact h.elim
    .exact h.elim
   .rename_i s n' lo len ex;rw[ex]at h1;obtain⟨rfl,z0,z1,hK⟩:=h;rcases h1.DQ with⟨cap,hv,c0,c1,c2⟩|⟨a,hv,c0,_⟩
    .refine sl _ _ _ cap _ hv z0 z1 ?_ hK
     have:=bO.lB (ρ:=ρ) (m:=m) s n' (lo+z.toNat) 0
     rwa [show(ρ s).o+(lo+z.toNat)*n'+0=(ρ s).o+lo*n'+z.toNat*n' by rw[Nat.add_mul];omega]at this
    .omega
   .exact h.elim
  .rename_i l;obtain⟨z0,z1,h⟩:=h;have ar:∀(b q:Nat) (a:AV),act.eval x=.pointer (some ⟨b,q,none⟩)->bO ρ m (.pointer (some ⟨b,q+z.toNat*n,none⟩)) a->K a σ->dB G P σ ρ m o act w K:=by
    intro b q a e0 k2 hK;refine .pure hS ?_ k2 hK;intro w' bT;unfold execOp;simp only[ho,e0,hz,Sem.run_bind,ZpI he b q k z0 z1,Result.andThen_ok];rfl
   split at h
   .rename_i cs ex;rw[ex]at h1;obtain⟨b,q,ds,hX,k1,k2,k3,k4⟩:=h1.Et;refine ar b q _ hX ?_ h.2;refine .pv _ _ (.ref b (q+z.toNat*n) (cs.drop (z.toNat*n)) (ds.drop (z.toNat*n)) (At.b9 (fun j u hj=>?_)) (by simp[k2]) (fun u hu=>k3 u (List.mem_of_mem_drop hu)) (fun j u c q1 q2=>?_))
    .rw[mS]at hj
     have:=k1.get _ u hj
     rwa [show q+z.toNat*n+j=q+(z.toNat*n+j) by omega]
    .rw[mS]at q1 q2;exact k4 _ u c q1 q2
   .rename_i s q ex;rw[ex]at h1;exact ar _ q _ h1.DP (.ptr s (q+z.toNat*n)) h
   .rename_i s n' j q ex;rw[ex]at h1;refine ar _ _ _ h1.Er ?_ h
    have:=bO.lB (ρ:=ρ) (m:=m) s n' j (q+z.toNat*n)
    rwa [show(ρ s).o+j*n'+(q+z.toNat*n)=(ρ s).o+j*n'+q+z.toNat*n by omega]at this
   .exact h.elim
 .exact h.elim
theorem ZmR {t n:Nat}{arr:Option Nat}{e:Nat}{c:Call}{x:Operand}{x':bA}(hx:aV x=some x')(he:eG P t=some (e,n,arr))(hc:c.callee=.builtin .len)(ha:c.args.toList=[x])(ht:c.argTypes.toList=[t])(ho:o.op=.call c)(h:bY (.len arr x') d K σ)(hS:Sat N w0 m0 pl σ ρ m act w):dB G P σ ρ m o act w K:=by
 simp only[bY]at h;have h1:=hS.aV hx;have fX:c.args=#[x]:=yU.1 (by simpa using ha);have sP:c.argTypes=#[t]:=yU.1 (by simpa using ht);have go:∀(L:Nat),(∀w:World,(Builtin.len_ #[t] o.type #[act.eval x]).run P w=.ok (.int .i64 L) w)->K (.pv (.int .i64 L)) σ->dB G P σ ρ m o act w K:=by
  intro L k hK;refine .pure hS ?_ (.pv _ _ (.int _ _)) hK;intro w' bT;unfold execOp;simp only[ho];simp[resolve,hc,fX,sP,invoke,builtin,k]
 split at h
 .rename_i l;exact go l (fun w=>Znn he _ _) h
 .split at h
  .rename_i ex;rw[ex]at h1;obtain⟨a,cap,ds,hv,_⟩:=h1.Kp;exact go _ (by intro w;rw[hv];exact W0 he _ _ _ _) h
  .rename_i ex;rw[ex]at h1;obtain⟨a,hv,_⟩:=h1.VX;exact go 0 (by intro w;rw[hv];exact W0 he _ _ _ _) h
  .rename_i s n' lo len ex;rw[ex]at h1;rcases h1.DQ with⟨cap,hv,c0,c1,c2⟩|⟨a,hv,c0,_⟩
   .exact go _ (by intro w;rw[hv];exact W0 he _ _ _ _) h
   .subst c0;exact go 0 (by intro w;rw[hv];exact W0 he _ _ _ _) h
  .exact h.elim
theorem SP:∀{ps:List bA} {xs:List PV},σ.tO ps=some xs->ps.length=xs.length/\∀(j:Nat) (y:bA),ps[j]?=some y->∃x,xs[j]?=some x/\σ.o y=.pv x
 |[],xs,h=>by simp[AS.tO]at h;subst h;exact⟨rfl,fun j x k=>by simp at k⟩
 |a::r,xs,h=>by
  unfold AS.tO at h;split at h
  .rename_i x l h1 h2;cases h;obtain⟨k1,k2⟩:=SP h2;refine⟨by simp[k1],fun j y k=>?_⟩;cases j with
   |zero=>simp at k;subst k;exact⟨x,rfl,h1⟩
   |succ j=>simpa using k2 j y (by simpa using k)
  .cases h
theorem ZmQ {f:FuncId}{fs cs:Array Operand}{tF iH:List bA}(hf:pJ fs.toList=some tF)(hc:pJ cs.toList=some iH)(ho:o.op=.makeFunc (.func f) fs cs)(h:bY (.yB f tF iH) d K σ)(hS:Sat N w0 m0 pl σ ρ m act w):dB G P σ ρ m o act w K:=by
 simp only[bY]at h;obtain⟨f1,f2⟩:=KD hf;obtain⟨c1,c2⟩:=KD hc;have hr:∀w',G w'->(execOp act.eval o).run P w'=.ok (.value (.func (.func f) (fs.map act.eval) (cs.map act.eval))) w':=by
  intro w' bT;unfold execOp;simp only[ho];rfl
 have kJ:∀(l:Array Operand) (l':List bA),(∀(j:Nat) (x:Operand),l.toList[j]?=some x->∃y:bA,l'[j]?=some y/\aV x=some y)->∀(j:Nat) (u:Value),(l.map act.eval)[j]?=some u->∃y:bA,l'[j]?=some y/\bO ρ m u (σ.o y):=by
  intro l l' hl j u hu;rw[Array.getElem?_map]at hu;obtain⟨x,k1,rfl⟩:=dZ.1 hu;obtain⟨y,k2,k3⟩:=hl j x (by simpa using k1);exact⟨y,k2,hS.aV k3⟩
 split at h
 .rename_i a b ea eb;obtain⟨a1,a2⟩:=SP ea;obtain⟨b1,b2⟩:=SP eb;refine .pure hS hr (.pv _ _ (.fn f _ _ a b (by simp;simpa using f1.trans a1) (by simp;simpa using c1.trans b1) (fun j u c q1 q2=>?_) (fun j u c q1 q2=>?_))) h
  .obtain⟨y,k1,k2⟩:=kJ fs tF f2 j u q1;obtain⟨x,k3,k4⟩:=a2 j y k1;rw[q2]at k3;cases k3;rw[k4]at k2;exact k2.nG
  .obtain⟨y,k1,k2⟩:=kJ cs iH c2 j u q1;obtain⟨x,k3,k4⟩:=b2 j y k1;rw[q2]at k3;cases k3;rw[k4]at k2;exact k2.nG
 .refine .pure hS hr (.fn f _ _ _ _ (by simp;simpa using f1) (by simp;simpa using c1) (fun j u c q1 q2=>?_) (fun j u c q1 q2=>?_)) h
  .obtain⟨y,k1,k2⟩:=kJ fs tF f2 j u q1;rw[bW,k1]at q2;cases q2;exact k2
  .obtain⟨y,k1,k2⟩:=kJ cs iH c2 j u q1;rw[bW,k1]at q2;cases q2;exact k2
theorem Zok {place:Nat->Option (Nat×Nat)}{LB:List (Nat×Nat)}(lZ:∀(i:Nat) (p:Nat×Nat),LB[i]?=some p->place i=some p):∀(ps:List (Nat×Operand)) (qs:List (Nat×Nat×bA)) (cells:Array Value) (l l':List AV),WB LB ps=some qs->wJ σ l qs=some l'->Sat N w0 m0 pl σ ρ m act w->
  cells.size=l.length->(∀u∈cells,u.oneCell'=true)->(∀(j:Nat) (u:Value) (c:AV),cells[j]?=some u->l[j]?=some c->bO ρ m u c)->
  ∃r,Instr.fill place cells (ps.map fun p=>(p.1,act.eval p.2))=some r/\r.size=l'.length/\(∀u∈r,u.oneCell'=true)/\∀(j:Nat) (u:Value) (c:AV),r[j]?=some u->l'[j]?=some c->bO ρ m u c
 |[],qs,cells,l,l',hq,hl,hS,h0,h1,h2=>by
  simp[WB]at hq;subst hq;simp[wJ]at hl;subst hl;exact⟨cells,rfl,h0,h1,h2⟩
 |(i,x)::r,qs,cells,l,l',hq,hl,hS,h0,h1,h2=>by
  unfold WB at hq;split at hq
  .rename_i off n y l0 e1 e2 e3;cases hq;unfold wJ at hl;split at hl
   .rename_i hc;obtain⟨c1,c2,c3⟩:=hc;obtain⟨k1,k2,k3⟩:=NX (hS.aV e2) c3;obtain⟨g1,g2⟩:=Great.foldl_set off (act.eval x).cells.toList 0 cells;have tE:((act.eval x).cells.zipIdx.foldl (fun cs (p:Value×Nat)=>cs.setIfInBounds (off+p.2) p.1) cells)=(((act.eval x).cells.toList.zipIdx 0).foldl (fun cs (p:Value×Nat)=>cs.setIfInBounds (off+p.2) p.1) cells):=by
     rw[<-Array.foldl_toList,Array.toList_zipIdx]
    generalize hC:(((act.eval x).cells.toList.zipIdx 0).foldl (fun cs (p:Value×Nat)=>cs.setIfInBounds (off+p.2) p.1) cells)=C at *;have gC:∀j,C[j]?=if off<=j/\j<off+n then(act.eval x).cells[j-off]? else cells[j]?:=fun j=>by
     rw[g2 j,uV,k1,c1,Nat.add_zero,O3];by_cases hj:off<=j/\j<off+n
     .rw[if_pos hj,if_pos ⟨hj.1,hj.2,by omega⟩]
     .rw[if_neg hj,if_neg (fun e=>hj ⟨e.1,e.2.1⟩)]
    obtain⟨r',q1,q2,q3,q4⟩:=Zok lZ r l0 C _ l' e3 hl hS (by rw[V1 (by omega)];omega) (fun u hu=>by
     obtain⟨j,hj⟩:=Array.mem_iff_getElem?.1 hu;rw[gC j]at hj;split at hj
     .exact k2 u (Array.mem_of_getElem? hj)
     .exact h1 u (Array.mem_of_getElem? hj)) (fun j u c a1 a2=>by
     rw[gC j]at a1;rw[A0 (by omega)]at a2;split at a1
     .rename_i hj;rw[if_neg (by omega),if_pos (by omega)]at a2;exact k3 _ u c a1 a2
     .rename_i hj;by_cases CE:j<off
      .rw[if_pos CE]at a2;exact h2 j u c a1 a2
      .rw[if_neg CE,if_neg (by omega)]at a2;exact h2 j u c a1 a2)
    refine⟨r',?_,q2,q3,q4⟩;rw[iL];unfold Instr.fill;simp only[lZ _ _ e1];rw[if_neg (by simp;omega),tE];exact q1
   .cases hl
  .cases hq
end
section
variable {G:World->Prop}{P:Program}{N:Nat}{w0:World}{m0:Env w0}{pl:List Nat}{σ:AS}{ρ:Site->Loc}{m:Mem}{act:Act}{w:World}{o:Oper}{d:Nat}{K:AV->AS->Prop}
theorem Hh {t:TypeId}{z:Value}(h:gS P t=some z):∃i,P.info? t=some i/\i.zero=some z:=by
 unfold gS at h;cases hx:P.info? t with
 |none=>simp[hx]at h
 |some i=>exact⟨i,rfl,by simpa[hx]using h⟩
theorem He {t:TypeId}{n:Nat}(h:eH P t=some n):∃i,P.info? t=some i/\i.size=n:=by
 unfold eH at h;cases hx:P.info? t with
 |none=>simp[hx]at h
 |some i=>exact⟨i,rfl,by simpa[hx]using h⟩
theorem Zh8 {t:Nat}{ps:Array (Nat×Operand)}{z:PV}{LB:List (Nat×Nat)}{qs:List (Nat×Nat×bA)}(hz:rZ P t=some z)(hp:Yp P t=some LB)(hq:WB LB ps.toList=some qs)(ho:o.op=.build t ps)(h:bY (.build z qs) d K σ)(hS:Sat N w0 m0 pl σ ρ m act w):dB G P σ ρ m o act w K:=by
 simp only[bY]at h;split at h
 .rename_i l hl;unfold rZ at hz;cases hv:gS P t with
  |none=>simp[hv]at hz
  |some v=>
   simp only[hv,Option.bind_some]at hz;obtain⟨k1,k2,k3⟩:=TD hz m;obtain⟨it,hi1,M8⟩:=Hh hv;have fin:∀place:Nat->Option (Nat×Nat),(∀(i:Nat) (p:Nat×Nat),LB[i]?=some p->place i=some p)->(∀r,Instr.fill place v.cells (ps.toList.map fun p=>(p.1,act.eval p.2))=some r->P.built t (ps.map fun(i,x)=>(i,act.eval x)).toList=some r)->dB G P σ ρ m o act w K:=by
    intro place lZ hb;obtain⟨r,q1,q2,q3,q4⟩:=Zok lZ ps.toList qs v.cells _ l hq hl hS (by simpa using k1) k2 (fun j u c a1 a2=>by
     rw[bW]at a2;obtain⟨x,a3,rfl⟩:=dZ.1 a2;exact .pv _ _ (k3 j u x a1 a3))
    refine .pure hS (v:=.agg r) ?_ (Hd q2 q3 q4) h;intro w' bT;unfold execOp;simp only[ho,Sem.run_bind];rw[run_build w' t _ r (hb r q1)];rfl
   unfold Yp at hp;split at hp
   .rename_i fs hu;have LX:fs.toList.mapM (fun f=>(P.info? f.type).map fun i=>(f.offset,i.size))=some LB:=by
     rw[<-hp];congr 1;funext f;unfold eH;cases P.info? f.type<;>rfl
    refine fin (LB.toArray[·]?) (fun i p e=>by simpa using e) (fun r hr=>?_);unfold Program.built;simp only[hi1,hu,M8,LX,Array.toList_map];exact hr
   .rename_i l' e hu;cases hs:eH P e with
    |none=>simp[hs]at hp
    |some n=>
     simp only[hs,uU,Option.some.injEq]at hp;obtain⟨ie,HS,CG⟩:=He hs;refine fin (fun i=>some (i*n,n)) (fun i p e=>?_) (fun r hr=>?_)
     .rw[<-hp,bW]at e;obtain⟨j,e1,rfl⟩:=dZ.1 e
      have:j=i:=by
       rw[List.getElem?_range]at e1
       .cases e1;rfl
       .have:=(bZ.1 e1).1;simpa using this
      rw[this]
     .unfold Program.built;simp only[hi1,hu,M8,HS,CG,Array.toList_map];exact hr
   .cases hp
 .exact h.elim
theorem ZmS {t f:Nat}{fs:Array Field}{fl:Field}{n:Nat}{x:Operand}{x':bA}(hx:aV x=some x')(hu:P.underlying t=some (.struct fs))(hf:fs[f]?=some fl)(hs:eH P fl.type=some n)(BP:(P.underlying fl.type).isSome=true)(ho:o.op=.field t x f)(h:bY (.MT (sL P fl.type) fl.offset n x') d K σ)(hS:Sat N w0 m0 pl σ ρ m act w):dB G P σ ρ m o act w K:=by
 obtain⟨dd,hd⟩:=Option.isSome_iff_exists.1 BP;simp only[bY]at h;have h1:=hS.aV hx;have wide:(σ.o x').wide=true->∃vs,act.eval x=.agg vs:=by
  intro hw;generalize σ.o x'=a at h1 hw;generalize act.eval x=v at h1;cases h1 with
  |agg vs=>exact⟨vs,rfl⟩
  |pv v x h2=>cases h2 with
   |agg vs=>exact⟨vs,rfl⟩
   |_=>cases hw
  |_=>cases hw
 have run:∀vs,act.eval x=.agg vs->∀v,(∀w:World,(part fl.type vs fl.offset).run P w=.ok v w)->∀w',G w'->(execOp act.eval o).run P w'=.ok (.value v) w':=by
  intro vs e v k;intro w' bT;unfold execOp;simp only[ho,e,Sem.run_bind];simp[Instr.field,run_underlying hu,hf,asAgg,k]
 split at h
 .rename_i hr;obtain⟨c1,c2,hK⟩:=h;obtain⟨vs,hv⟩:=wide c2;obtain⟨k1,k2,k3⟩:=NX h1 (.inl c2);rw[hv]at k1 k2 k3;have fH:(vs.extract fl.offset (fl.offset+n)).size=n:=by simp[Value.cells]at k1;simp;omega
  have kJ:∀j,(vs.extract fl.offset (fl.offset+n))[j]?=if j<n then vs[fl.offset+j]? else none:=fun j=>by
   rw[Array.getElem?_extract];simp only[Value.cells]at k1;by_cases hj:j<n
   .rw[if_pos (by omega),if_pos hj]
   .rw[if_neg (by omega),if_neg hj]
  refine .pure hS (v:=.agg (vs.extract fl.offset (fl.offset+n))) (run vs hv _ ?_) (Hd (by rw[fH,gJ,uH];omega) (fun u Ad=>?_) (fun j u c q1 q2=>?_)) hK
  .intro w;simp only[part,Sem.run_bind,Zfl hd,Result.andThen_ok,hr,if_true,run_sizeOf hs];rfl
  .obtain⟨j,hj⟩:=Array.mem_iff_getElem?.1 Ad;rw[kJ]at hj;split at hj
   .exact k2 u (Array.mem_of_getElem? hj)
   .cases hj
  .rw[kJ]at q1;rw[mG]at q2;split at q1
   .rename_i hj;rw[if_pos hj,mS]at q2;exact k3 _ u c q1 q2
   .cases q1
 .rename_i hr;split at h
  .rename_i a ha;obtain⟨c2,hK⟩:=h;obtain⟨vs,hv⟩:=wide c2;obtain⟨k1,k2,k3⟩:=NX h1 (.inl c2);rw[hv]at k1 k2 k3;have aI:fl.offset<vs.size:=by
    have:=(bZ.1 ha).1
    simp[Value.cells]at k1;omega
   refine .pure hS (v:=vs[fl.offset]) (run vs hv _ ?_) (k3 _ _ a (uT aI) ha) hK;intro w;simp only[part,Sem.run_bind,Zfl hd,Result.andThen_ok,hr,if_false,Bool.false_eq_true];simp[uT aI]
  .exact h.elim
theorem ZkZ {s s':Site}{b b':aJ}(h:(σ.set s b).b s'=some b'):(s'=s/\b'=b)\/(s'≠s/\σ.b s'=some b'):=by
 rw[AS.VW]at h;split at h
 .rename_i e;cases h;exact .inl ⟨e,rfl⟩
 .rename_i e;exact .inr ⟨e,h⟩
theorem Sat.ZxO (h:Sat N w0 m0 pl σ ρ m act w){s:Site}{b box:aJ}(hs:σ.b s=some b)(hb:kO ρ m w s box)(hq:∀k,fK ρ w s box k->fK ρ w s b k):Sat N w0 m0 pl (σ.set s box) ρ m act w:=by
 have g:∀s' b' k,(σ.set s box).b s'=some b'->fK ρ w s' b' k->∃c,σ.b s'=some c/\fK ρ w s' c k:=fun s' b' k h1 h2=>by
  rcases ZkZ h1 with⟨rfl,rfl⟩|⟨_,h1⟩
  .exact⟨b,hs,hq k h2⟩
  .exact⟨b',h1,h2⟩
 refine⟨h.sE,h.sz,h.tm,fun s' b' k=>?_,fun s1 s2 b1 b2 k k1 k2 r1 r2=>?_,h.mem,fun s' b' k k1 r1=>?_,fun s' b' k k1 r1=>?_,h.keep,h.base,h.qC,h.par⟩
 .rcases ZkZ k with⟨rfl,rfl⟩|⟨_,k⟩
  .exact hb
  .exact h.bx s' b' k
 .obtain⟨c1,g1,q1⟩:=g s1 b1 k k1 r1;obtain⟨c2,g2,q2⟩:=g s2 b2 k k2 r2;exact h.dY s1 s2 c1 c2 k g1 g2 q1 q2
 .obtain⟨c1,g1,q1⟩:=g s' b' k k1 r1;exact h.eL s' c1 k g1 q1
 .obtain⟨c1,g1,q1⟩:=g s' b' k k1 r1;exact h.fL s' c1 k g1 q1
theorem ZlM {t e n len:Nat}{ps:Array (Nat×Operand)}{qs:List bA}(he:eG P t=some (e,n,none))(hq:pJ (ps.toList.map (·.2))=some qs)(hi:ps.toList.map (·.1)=List.range len)(hn:0<n)(X3:len*n<=2^24)(hz:(gS P e).isSome=true)(ho:o.op=.buildSlice t len ps)(h:bY (.aQ e n qs) d K σ)(hS:Sat N w0 m0 pl σ ρ m act w):oA P N w0 m0 pl o act w K:=by
 simp only[bY]at h;obtain⟨hu,hs⟩:=KF he;obtain⟨ie,HS,CG⟩:=He hs;obtain⟨z,hz⟩:=Option.isSome_iff_exists.1 hz;obtain⟨i2,W9,P5⟩:=Hh hz;rw[HS]at W9;cases W9;obtain⟨q1,q2⟩:=KD hq;rw[fV]at q1;have hlen:ps.toList.length=len:=by
  have:=congrArg List.length hi
  simpa using this
 obtain⟨m',P8,hF⟩:=Sat.DN qs hS;split at h
 .rename_i hp;obtain⟨p1,_⟩:=SP hp;have h0:len=0:=by rw[List.length_nil]at p1;omega
  subst h0;have yD:ps=#[]:=by
   have:ps.toList=[]:=List.eq_nil_of_length_eq_zero hlen
   exact yU.1 (by simpa using this)
  have hr:(execOp act.eval o).run P w=.ok (.value (.slice (some ⟨w.heap.size,0,none⟩) 0 0)) (w.alloc (.cells #[] e)):=by
   unfold execOp;simp only[ho,yD,Sem.run_bind];simp[Instr.buildSlice,run_underlying hu,run_sizeOf hs,Instr.fill,newRow];rw[show Array.map (fun _=>(default:Value)) (Array.range 0)=#[] from Array.eq_empty_of_size_eq_zero (by simp)]
  exact⟨_,_,_,_,ρ,m,.inl hr,h,hS.ext (Ext.al w _),.pv _ _ (.emp _ _ (fun e=>(by cases e)) (fun _=>by simp) (fun A hA=>by cases hA;rfl)),fun _=>Ext.al _ _⟩
 .rename_i xs hp EH;obtain⟨hx,hK⟩:=h;obtain⟨p1,p2⟩:=SP EH;have Ri:xs.length=len:=by omega
  have nT:∀(j:Nat) (p:Nat×Operand),ps.toList[j]?=some p->p.1=j/\∃x,xs[j]?=some x/\dG m' (act.eval p.2) x:=fun j p hj=>by
   have aI:=(bZ.1 hj).1;have h1:(ps.toList.map (·.1))[j]?=some p.1:=by rw[bW,hj];rfl
   rw[hi,List.getElem?_range (by omega)]at h1;obtain⟨y,k1,k2⟩:=q2 j p.2 (by rw[bW,hj];rfl);obtain⟨x,k3,k4⟩:=p2 j y k1;have k5:=hF.aV k2;rw[k4]at k5;exact⟨(Option.some.inj h1).symm,x,k3,k5.nG⟩
  let vs:List Value:=ps.toList.map fun p=>act.eval p.2
  have P6:∀(j:Nat) (v:Value),vs[j]?=some v->∃x,xs[j]?=some x/\dG m' v x:=fun j v hj=>by
   rw[bW]at hj;obtain⟨p,k1,rfl⟩:=dZ.1 hj;exact(nT j p k1).2
  have Ap:(ps.map fun(i,x)=>(i,act.eval x)).toList=(vs.zipIdx 0).map fun x=>(x.2,x.1):=by
   apply List.ext_getElem?;intro j;rw[Array.toList_map,bW,bW,List.getElem?_zipIdx,bW];cases hj:ps.toList[j]? with
   |none=>simp
   |some p=>simp[(nT j p hj).1]
  have hvn:∀v∈vs,v.cells.size=n/\(∀u∈v.cells,u.oneCell'=true):=fun v hv=>by
   obtain⟨j,hj⟩:=iJ.1 hv;obtain⟨x,k1,k2⟩:=P6 j v hj;obtain⟨k3,k4⟩:=hx x (dK k1);obtain⟨k5,k6,k7⟩:=NX (bO.pv (ρ:=ρ) v x k2) k4
   have:(AV.pv x).cells.length=x.cells.length:=by cases x<;>simp[AV.cells,PV.cells]
   exact⟨by omega,k6⟩
  have Az:vs.length=len:=by simp[vs];simpa using hlen
  have HL:¬len*n=0:=by
   intro e;rcases Nat.mul_eq_zero.1 e with e|e
   .rw[e]at Ri
    have:xs=[]:=List.eq_nil_of_length_eq_zero Ri
    exact hp this
   .omega
  obtain⟨r,f1,f2,f3⟩:=Great.fill_dense (s:=n) hn vs 0 ((Array.range (len*n)).map (z.cells[·%z.cells.size]!)) (fun v hv=>(hvn v hv).1) (by simp[Az]);have f2':r.size=len*n:=by rw[f2];simp
  have hr:(execOp act.eval o).run P w=.ok (.value (.slice (some ⟨w.heap.size,0,none⟩) len len)) (w.alloc (.cells r e)):=by
   unfold execOp;simp only[ho,Sem.run_bind];rw[run_buildSlice w t e len _ r ie z hu HS P5 (by rw[CG];omega) (by rw[CG];exact HL) (by rw[CG,Ap];exact f1)];rfl
  have hP:=hF.bG d;have S5:=Q7 ρ (.loc d 0) ⟨w.heap.size,0,len,true⟩;refine⟨_,_,_,_,_,m',.inl hr,hK,hP.new d 0 (qW.bG d _) r e len ?_,?_,fun _=>Ext.al _ _⟩
  .refine⟨hn,.inr ⟨by rw[S5],r,by rw[S5];exact heap_alloc_new w _,by rw[S5];simp[f2'],by rw[S5];simp;omega,by
    rw[S5]
    have:len<=len*n:=Nat.le_mul_of_pos_right _ hn
    simp only[maxLen];omega,fun i x hi=>?_⟩⟩
   obtain⟨k3,k4⟩:=hx x (dK hi);refine⟨k3,fun j c hj=>?_⟩;have rS:j<n:=by have:=(bZ.1 hj).1;omega
   have yJ:i<len:=by have:=(bZ.1 hi).1;omega
   have Tq:i<vs.length:=by omega
   obtain⟨x',k1,k2⟩:=P6 i _ (bB Tq);rw[hi]at k1;cases k1;obtain⟨k5,k6,k7⟩:=NX (bO.pv (ρ:=ρ) _ x k2) k4;have k8:=(hvn _ (zX Tq)).1;have Tm:j<vs[i].cells.size:=by omega
   have hdiv:(i*n+j) / n=i:=by rw[Nat.add_comm,Nat.add_mul_div_right _ _ hn,Nat.div_eq_of_lt rS,rX]
   have yG:(i*n+j)%n=j:=by rw[Nat.add_comm,Nat.add_mul_mod_self_right,Nat.mod_eq_of_lt rS]
   refine⟨vs[i].cells[j],?_,k6 _ (Array.getElem_mem Tm),?_⟩
   .rw[S5];have aI:i*n+j<(0+vs.length)*n:=by
     have:=V4 (n:=n) yJ
     rw[rX,Az];omega
    show r[0+i*n+j]?=_;rw[rX,f3,if_pos ⟨by omega,aI⟩,hdiv,yG,Nat.sub_zero,bB Tq,Option.bind_some,uT Tm]
   .have:=k7 j _ (.pv c) (uT Tm) (by
     cases x<;>simp only[AV.cells,PV.cells,bW]at hj ⊢
     all_goals (first|(rw[hj];rfl)|(cases j<;>simp at hj ⊢;exact hj)))
    exact this.nG
  .rw[Ri]
   have:=bO.vec (ρ:=iK ρ (.loc d 0) ⟨w.heap.size,0,len,true⟩) (m:=m') (.loc d 0) n 0 len len (fG _) (by rw[S5];simp) (by rw[S5])
   rw[S5]at this;simpa using this
 .exact h.elim
end
structure Flat (m:Mem)(ds:List Value)(n:Nat)(xs:List PV):Prop where
 len:ds.length=xs.length*n
 one:∀u∈ds,u.oneCell'=true
 get:∀(i:Nat) (x:PV),xs[i]?=some x->x.cells.length=n/\∀(j:Nat) (c:PV),x.cells[j]?=some c->∃u,ds[i*n+j]?=some u/\dG m u c
theorem Flat.app {m:Mem}{ds es:List Value}{n:Nat}{xs ys:List PV}(h:Flat m ds n xs)(k:Flat m es n ys):Flat m (ds++es) n (xs++ys):=by
 refine⟨by rw[gD,h.len,k.len,gD,Nat.add_mul],fun u hu=>by
  rcases sI.1 hu with h'|h'
  .exact h.one u h'
  .exact k.one u h',fun i x hi=>?_⟩
 rw[yS]at hi;split at hi
 .rename_i aI;obtain⟨k1,k2⟩:=h.get i x hi;refine⟨k1,fun j c hj=>?_⟩;obtain⟨u,k3,k4⟩:=k2 j c hj;exact⟨u,by rw[List.getElem?_append_left (bZ.1 k3).1];exact k3,k4⟩
 .rename_i aI;obtain⟨k1,k2⟩:=k.get _ x hi;refine⟨k1,fun j c hj=>?_⟩;obtain⟨u,k3,k4⟩:=k2 j c hj;have e:i*n=ds.length+(i-xs.length)*n:=by rw[h.len,<-Nat.add_mul];congr 1;omega
  exact⟨u,by rw[List.getElem?_append_right (by omega),show i*n+j-ds.length=(i-xs.length)*n+j by omega];exact k3,k4⟩
theorem Flat.nil (m:Mem)(n:Nat):Flat m [] n []:=⟨by simp,(fun u h=>by cases h),(fun i x h=>by simp at h)⟩
def Ie (m:Mem)(w:World)(v:Value)(n:Nat)(xs:List PV):Prop:=
 ∃(a:Option Addr) (cap:Nat) (ds:List Value),v=.slice a xs.length cap/\Flat m ds n xs/\∀(k:Nat) (u:Value),ds[k]?=some u->∃b o,a=some ⟨b,o,none⟩/\w.cell? ⟨b,o+k,none⟩=some u
section
variable {P:Program}{N:Nat}{w0:World}{m0:Env w0}{pl:List Nat}{σ:AS}{ρ:Site->Loc}{m:Mem}{act:Act}{w:World}{o:Oper}{d:Nat}{K:AV->AS->Prop}
theorem Ht {k n L:Nat}(h:k<L*n)(hn:0<n):k / n<L/\k%n<n/\k / n*n+k%n=k:=by
 refine⟨Nat.div_lt_of_lt_mul (by rw[Nat.mul_comm];exact h),Nat.mod_lt _ hn,?_⟩;rw[Nat.mul_comm];exact Nat.div_add_mod k n
theorem ZqI {v:Value}{nn:Bool}{n:Nat}{xs:List PV}(hn:0<n)(hw:Le m w.mem)(h:bO ρ m v (.pv (.aF nn n xs))):Ie m w v n xs:=by
 obtain⟨a,cap,ds,hv,l0,l1,l2,l3,l5,l6,l7⟩:=h.Kp;have hL:∀k,k<xs.length*n->∃u,(ds (k / n))[k%n]?=some u:=fun k hk=>by
  obtain⟨h1,h2,h3⟩:=Ht hk hn;obtain⟨k1,_,_⟩:=l6 _ _ (bB h1);exact⟨_,bB (by rw[k1];exact h2)⟩
 have kJ:∀k u,((List.range (xs.length*n)).map fun k=>((ds (k / n))[k%n]?).getD undef)[k]?=some u->k<xs.length*n/\(ds (k / n))[k%n]?=some u:=fun k u hk=>by
  rw[bW]at hk;obtain⟨k',k1,k2⟩:=dZ.1 hk;have aI:k<xs.length*n:=by have:=(bZ.1 k1).1;simpa using this
  rw[List.getElem?_range aI]at k1;cases k1;obtain⟨u',Ad⟩:=hL k aI;rw[Ad]at k2;simp at k2;subst k2;exact⟨aI,Ad⟩
 refine⟨a,cap,(List.range (xs.length*n)).map fun k=>((ds (k / n))[k%n]?).getD undef,hv,⟨by simp,fun u hu=>?_,fun i x hi=>?_⟩,fun k u hk=>?_⟩
 .obtain⟨k,hk⟩:=iJ.1 hu;obtain⟨aI,k1⟩:=kJ k u hk;obtain⟨h1,_,_⟩:=Ht aI hn;exact(l6 _ _ (bB h1)).2.2 u (dK k1)
 .obtain⟨k1,k2,_⟩:=l6 i x hi;refine⟨k2,fun j c hj=>?_⟩;have rS:j<n:=by have:=(bZ.1 hj).1;omega
  have yJ:i<xs.length:=(bZ.1 hi).1;have aI:i*n+j<xs.length*n:=by have:=V4 (n:=n) yJ;omega
  have hdiv:(i*n+j) / n=i:=by rw[Nat.add_comm,Nat.add_mul_div_right _ _ hn,Nat.div_eq_of_lt rS,rX]
  have yG:(i*n+j)%n=j:=by rw[Nat.add_comm,Nat.add_mul_mod_self_right,Nat.mod_eq_of_lt rS]
  have hjd:j<(ds i).length:=by omega
  refine⟨(ds i)[j],?_,l7 i x j _ c hi (bB hjd) hj⟩;rw[bW,List.getElem?_range aI,uU,hdiv,yG,bB hjd];rfl
 .obtain⟨aI,k1⟩:=kJ k u hk;obtain⟨h1,h2,h3⟩:=Ht aI hn;obtain⟨b,q,ha,k2⟩:=l5 _ _ (bB h1);refine⟨b,q,ha,?_⟩
  have:=hw _ _ _ (k2.get _ u k1)
  rwa [show q+k / n*n+k%n=q+k by omega]at this
theorem Fo {v:Value}{a:AV}{n:Nat}{xs:List PV}(hn:0<n)(hS:Sat N w0 m0 pl σ ρ m act w)(h:bO ρ m v a)(hc:σ.cont a n=some xs):Ie m w v n xs:=by
 unfold AS.cont at hc;split at hc
 .split at hc
  .rename_i e;subst e;cases hc;exact ZqI hn hS.mem h
  .cases hc
 .cases hc;obtain⟨a,hv,_⟩:=h.VX;exact⟨a,0,[],hv,Flat.nil m n,fun k u hk=>by simp at hk⟩
 .rename_i s n' lo len;split at hc
  .rename_i e eT ys hb;split at hc
   .rename_i mB;obtain⟨rfl,rfl,hl⟩:=mB;cases hc;have hlen:((ys.drop lo).take len).length=len:=by rw[gJ,uH];omega
    rcases h.DQ with⟨cap,hv,c0,c1,c2⟩|⟨a,hv,c0,_⟩
    .obtain⟨xF,hB|⟨hr,cs,g1,g2,g3,g4,g5⟩⟩:=hS.bx s _ hb
     .rw[hB.1]at c2;cases c2
     have dE:(ρ s).o+lo*eT+len*eT<=cs.size:=by
      have:(lo+len)*eT<=(ρ s).cap*eT:=I1 _ (by omega)
      rw[Nat.add_mul]at this;omega
     have el:∀i x,((ys.drop lo).take len)[i]?=some x->i<len/\ys[lo+i]?=some x:=fun i x hx=>by
      rw[mG]at hx;split at hx
      .rename_i hi;rw[mS]at hx;exact⟨hi,hx⟩
      .cases hx
     refine⟨some ⟨(ρ s).b,(ρ s).o+lo*eT,none⟩,cap,(cs.toList.drop ((ρ s).o+lo*eT)).take (len*eT),by rw[hlen];exact hv,⟨by rw[Hp dE,hlen],fun u hu=>?_,fun i x hi=>?_⟩,fun k u hk=>⟨_,_,rfl,?_⟩⟩
     .obtain⟨k,hk⟩:=iJ.1 hu;rw[c8]at hk;split at hk
      .rename_i aI;obtain⟨h1,h2,h3⟩:=Ht aI hn;have hly:lo+k / eT<ys.length:=by omega
       obtain⟨q1,q2⟩:=g5 _ _ (bB hly);have Th:k%eT<(ys[lo+k / eT]).cells.length:=by omega
       obtain⟨u',q3,q4,_⟩:=q2 _ _ (bB Th);rw[show(ρ s).o+(lo+k / eT)*eT+k%eT=(ρ s).o+lo*eT+k by rw[Nat.add_mul];omega,hk]at q3;cases q3;exact q4
      .cases hk
     .obtain⟨yJ,xI⟩:=el i x hi;obtain⟨q1,q2⟩:=g5 _ x xI;refine⟨q1,fun j c hj=>?_⟩;obtain⟨u,q3,_,q5⟩:=q2 j c hj;have rS:j<eT:=by have:=(bZ.1 hj).1;omega
      have:=V4 (n:=eT) yJ
      exact⟨u,by rw[c8,if_pos (by omega)];rw[<-q3];congr 1;rw[Nat.add_mul];omega,q5⟩
     .rw[c8]at hk;split at hk
      .simp[World.cell?,g1,hk]
      .cases hk
    .subst c0;exact⟨a,0,[],by rw[hlen];exact hv,by simpa using Flat.nil m eT,fun k u hk=>by simp at hk⟩
   .cases hc
  .cases hc
 .cases hc
theorem Zf1 {n:Nat}{xs:List PV}{a:Option Addr}{ds:List Value}(hf:Flat m ds n xs)(hc:∀(k:Nat) (u:Value),ds[k]?=some u->∃b o,a=some ⟨b,o,none⟩/\w.cell? ⟨b,o+k,none⟩=some u)(w':World)(hw:∀A,w'.cell? A=w.cell? A)(L:Nat)(hL:L=xs.length)(c cap:Nat):
  (Builtin.firstCells n L (.slice a c cap)).run P w'=.ok ds.toArray w':=by
 subst hL;cases a with
 |none=>
  have:ds=[]:=by
   cases ds with
   |nil=>rfl
   |cons u r=>obtain⟨b,o,e,_⟩:=hc 0 u rfl;cases e
  subst this;rfl
 |some A=>
  by_cases h0:ds=[]
  .subst h0;have hl:=hf.len;simp only[List.length_nil]at hl;simp only[Builtin.firstCells];rw[<-hl];rfl
  .have h1:0<ds.length:=List.length_pos_iff.2 h0;obtain⟨b,q,e,_⟩:=hc 0 _ (bB h1);cases e;refine run_firstCells_some w' n xs.length ⟨b,q,none⟩ c cap ds hf.len (fun j u hj=>?_);obtain⟨b',q',e',k⟩:=hc j u hj;cases e';rw[NT,hw];exact k
theorem Zgs {t ty e:TypeId}{i:TypeInfo}{z:Value}(ht:P.underlying t=some (.slice e))(hi:P.info? e=some i)(hz:i.zero=some z)(ba:Option Addr)(fI dN:Nat)(a':Option Addr)(k c:Nat)(dU news:List Value)
  (ho:∀w',(∀A,w'.cell? A=w.cell? A)->(Builtin.firstCells i.size fI (.slice ba fI dN)).run P w'=.ok dU.toArray w') (hn:∀w',(∀A,w'.cell? A=w.cell? A)->(Builtin.firstCells i.size k (.slice a' k c)).run P w'=.ok news.toArray w')
  (hg:dN<fI+k) (Df:((fI+k:Nat):Int)<=9223372036854775807) (dE:Builtin.nextslicecap (fI+k) dN*i.bytes<=281474976710656):
  (Builtin.append_ #[t,t] ty #[.slice ba fI dN,.slice a' k c]).run P w =
   .ok (.slice (some ⟨w.heap.size,0,none⟩) (fI+k) (grownCap w (fI+k) dN e)) (w.drew.alloc (.cells ((dU++news).toArray++Builtin.zeroCells z.cells (grownCap w (fI+k) dN e-(fI+k))) e)):=by
 have EL:¬(fI+k<=dN):=by omega
 have RG:¬(9223372036854775807<((fI:Int)+(k:Int))):=by omega
 have RH:¬(281474976710656<Builtin.nextslicecap (fI+k) dN*i.bytes):=by omega
 have f1:=ho w.drew (fun A=>rfl);have f2:=hn w.drew (fun A=>rfl);simp[Builtin.append_,run_underlying ht,sizeOf,typeInfo,zeroValue,hi,hz,Builtin.lenOf,EL,RG,RH,Question.forced,f1,f2,newRow,grownCap];rw[<-List.append_toArray,Array.append_assoc]
theorem Zgr {t ty e:TypeId}{i:TypeInfo}(ht:P.underlying t=some (.slice e))(hi:P.info? e=some i)(g q fI dN:Nat)(cur:Array Value)(hg:w.heap[g]?=some (.cells cur e (0,0)))(a':Option Addr)(k c:Nat)(news:List Value)
  (hn:(Builtin.firstCells i.size k (.slice a' k c)).run P w=.ok news.toArray w) (h1:∀u∈news,u.oneCell'=true) (eP:fI+k<=dN) (dE:q+fI*i.size+news.length<=cur.size):
  (Builtin.append_ #[t,t] ty #[.slice (some ⟨g,q,none⟩) fI dN,.slice a' k c]).run P w=.ok (.slice (some ⟨g,q,none⟩) (fI+k) dN) (w.setRow g (aR cur.toList (q+fI*i.size) news).toArray):=by
 have bT:=run_storeCells_at P g (q+fI*i.size) e news 0 cur w hg (by simpa using dE) h1;simp only[Nat.add_zero]at bT;simp[Builtin.append_,run_underlying ht,sizeOf,typeInfo,hi,Builtin.lenOf,eP,hn,NT,bT,aR]
end
section
variable {P:Program}{N:Nat}{w0:World}{m0:Env w0}{pl:List Nat}{σ:AS}{ρ:Site->Loc}{m:Mem}{act:Act}{w:World}{o:Oper}{d:Nat}{K:AV->AS->Prop}
theorem kO.of_flat {ρ:Site->Loc}{s:Site}{e n:Nat}{xs:List PV}{cs:Array Value}{ds:List Value}(hn:0<n)(hr:(ρ s).real=true)(hh:w.heap[(ρ s).b]?=some (.cells cs e (0,0)))(hc:(ρ s).o+(ρ s).cap*n<=cs.size)(hl:xs.length<=(ρ s).cap)(hm:(ρ s).cap<=maxLen)
  (hf:Flat m ds n xs) (hg:∀(k:Nat) (u:Value),ds[k]?=some u->cs[(ρ s).o+k]?=some u):kO ρ m w s (.arr e n xs):=by
 refine⟨hn,.inr ⟨hr,cs,hh,hc,hl,hm,fun i x hi=>?_⟩⟩;obtain⟨k1,k2⟩:=hf.get i x hi;refine⟨k1,fun j c hj=>?_⟩;obtain⟨u,k3,k4⟩:=k2 j c hj;exact⟨u,by rw[Nat.add_assoc];exact hg _ u k3,hf.one u (dK k3),k4⟩
theorem Sat.Zxw (h:Sat N w0 m0 pl σ ρ m act w){W:World}(hx:Ext w W){cs:Array Value}{e n cap:Nat}{xs:List PV}{ds:List Value}(hN:qW d σ)(hn:0<n)(hW:W.heap[w.heap.size]?=some (.cells cs e (0,0)))(hc:cap*n<=cs.size)(hl:xs.length<=cap)(hm:cap<=maxLen)
  (hf:Flat m ds n xs) (hg:∀(k:Nat) (u:Value),ds[k]?=some u->cs[k]?=some u):
  ∃bV,Sat N w0 m0 pl (σ.add (.loc d 0) (.arr e n xs)) bV m act W/\bO bV m (.slice (some ⟨w.heap.size,0,none⟩) xs.length cap) (.vec (.loc d 0) n 0 xs.length):=by
 have hu:=Q7 ρ (.loc d 0) ⟨w.heap.size,0,cap,true⟩;refine⟨iK ρ (.loc d 0) ⟨w.heap.size,0,cap,true⟩,(h.ext hx).add hN (.of_flat hn (by rw[hu]) (by rw[hu];exact hW) (by rw[hu];simpa using hc) (by rw[hu];exact hl) (by rw[hu];exact hm) hf (by rw[hu];simpa using hg)) (fun _ s b k r=>?_) (fun _ o=>h.Es (fG _) o) (fun _=>.inl h.keep.size),?_⟩
 .have:=h.G1 k (((h.bx s b k).dS (fun r=>hx.block _ (h.lt k r))).1 r)
  simp at this
 .have:=bO.vec (ρ:=iK ρ (.loc d 0) ⟨w.heap.size,0,cap,true⟩) (m:=m) (.loc d 0) n 0 xs.length cap hl (by rw[hu];simp) (by rw[hu])
  rw[hu]at this;simpa using this
theorem Sat.ZxZ (h:Sat N w0 m0 pl σ ρ m act w){e n:Nat}(hN:qW d σ)(hn:0<n){a:Option Addr}(ha:∀A,a=some A->JK A):
  ∃bV,Sat N w0 m0 pl (σ.add (.loc d 0) (.arr e n [])) bV m act w/\bO bV m (.slice a 0 0) (.vec (.loc d 0) n 0 0):=by
 have hu:=Q7 ρ (.loc d 0) ⟨0,0,0,false⟩;refine⟨iK ρ (.loc d 0) ⟨0,0,0,false⟩,h.add hN ⟨hn,.inl ⟨by rw[hu],rfl,by rw[hu]⟩⟩ (fun e=>by cases e) (fun e=>by cases e) (fun e=>by cases e),.mZ _ _ _ _ ha⟩
theorem Zca (z:Array Value)(n:Nat):(Builtin.zeroCells z n).size=n*z.size:=by simp[Builtin.zeroCells]
theorem ZhV {t:TypeId}{c:Call}{x y:Operand}(hc:c.callee=.builtin .append)(ha:c.args.toList=[x,y])(ht:c.argTypes.toList=[t,t])(ho:o.op=.call c){v:Value}{w':World}(h:(Builtin.append_ #[t,t] o.type #[act.eval x,act.eval y]).run P w=.ok v w'):
  (execOp act.eval o).run P w=.ok (.value v) w':=by
 have fX:c.args=#[x,y]:=yU.1 (by simpa using ha);have sP:c.argTypes=#[t,t]:=yU.1 (by simpa using ht);unfold execOp;simp only[ho];simp[resolve,hc,fX,sP,invoke,builtin,h]
theorem Sat.extend (hS:Sat N w0 m0 pl σ ρ m act w){s:Site}{e n k:Nat}{xs zs:List PV}{ds:List Value}(hb:σ.b s=some (.arr e n xs))(hr:(ρ s).real=true){cs:Array Value}(g1:w.heap[(ρ s).b]?=some (.cells cs e (0,0)))(hf:Flat m ds n zs)(hk:k<=xs.length)(hl:k+zs.length<=(ρ s).cap):
  (ρ s).o+k*n+ds.length<=cs.size/\Sat N w0 m0 pl (σ.set s (.arr e n (xs.take k++zs))) ρ m act (w.setRow (ρ s).b (aR cs.toList ((ρ s).o+k*n) ds).toArray):=by
 obtain⟨hn,hB|⟨_,iH,Dk,g2,g3,g4,g5⟩⟩:=hS.bx s _ hb
 .rw[hB.1]at hr;cases hr
 rw[g1]at Dk;cases Dk;have gN:cs.toList.length=cs.size:=uV;have jS:(xs.take k).length=k:=by rw[gJ];omega
 have dE:(ρ s).o+k*n+ds.length<=cs.size:=by
  have h1:(k+zs.length)*n<=(ρ s).cap*n:=I1 _ hl;rw[Nat.add_mul]at h1;rw[hf.len];omega
 refine⟨dE,hS.Ew hb hr (cW.setRow w _ _) ⟨hn,.inr ⟨hr,_,setRow_heap w _ cs _ e _ g1,?_,?_,g4,fun i x hi=>?_⟩⟩⟩
 .rw[yT,V1 (by rw[gN];exact dE),gN];exact g2
 .rw[gD,jS];exact hl
 .rw[yS,jS]at hi;split at hi
  .rename_i qO;rw[mG,if_pos qO]at hi;obtain⟨k1,k2⟩:=g5 i x hi;refine⟨k1,fun j c hj=>?_⟩;obtain⟨d,q1,q2,q3⟩:=k2 j c hj;refine⟨d,?_,q2,q3⟩;have rS:j<n:=by have:=(bZ.1 hj).1;omega
   have:=V4 (n:=n) qO
   rw[I0,A0 (by rw[gN];exact dE),if_pos (by omega),O3];exact q1
  .rename_i qO;obtain⟨k1,k2⟩:=hf.get (i-k) x hi;refine⟨k1,fun j c hj=>?_⟩;obtain⟨u,q1,q2⟩:=k2 j c hj;have aI:=(bZ.1 q1).1;have e1:i*n=k*n+(i-k)*n:=by rw[<-Nat.add_mul];congr 1;omega
   refine⟨u,?_,hf.one u (dK q1),q2⟩;rw[I0,A0 (by rw[gN];exact dE),if_neg (by omega),if_pos (by omega),<-q1];congr 1;omega
theorem ZlB {e n bytes:Nat}{i:TypeInfo}{zv:Value}{x:Operand}{x':bA}{ys:List PV}{yd:List Value}(hx:aV x=some x')(hb:i.bytes=bytes)(hn:0<n)(fH:i.size=n)(tT:zv.cells.size=n)(C5:Flat m yd n ys)
  (EG:∀(ba:Option Addr) (L dN:Nat) (od:List Value),act.eval x=.slice ba L dN->(∀w',(∀A,w'.cell? A=w.cell? A)->(Builtin.firstCells i.size L (.slice ba L dN)).run P w'=.ok od.toArray w')->dN<L+ys.length->((L+ys.length:Nat):Int)<=9223372036854775807->Builtin.nextslicecap (L+ys.length) dN*i.bytes<=281474976710656->
   (execOp act.eval o).run P w=.ok (.value (.slice (some ⟨w.heap.size,0,none⟩) (L+ys.length) (grownCap w (L+ys.length) dN e))) (w.drew.alloc (.cells ((od++yd).toArray++Builtin.zeroCells zv.cells (grownCap w (L+ys.length) dN e-(L+ys.length))) e)))
  (ER:∀(g q L dN:Nat) (cur:Array Value),act.eval x=.slice (some ⟨g,q,none⟩) L dN->w.heap[g]?=some (.cells cur e (0,0))->L+ys.length<=dN->q+L*i.size+yd.length<=cur.size->(execOp act.eval o).run P w=.ok (.value (.slice (some ⟨g,q,none⟩) (L+ys.length) dN)) (w.setRow g (aR cur.toList (q+L*i.size) yd).toArray))
  (E0:∀ba,act.eval x=.slice ba 0 0->ys=[]->(execOp act.eval o).run P w=.ok (.value (.slice ba 0 0)) w)
  (h:bY (.app e n bytes x' (.c (.aF false n ys))) d K σ) (hS:Sat N w0 m0 pl σ ρ m act w):F4 (∃nl,σ.o x'=.pv (.emp nl)) P N w0 m0 pl o act w K:=by
 have R9:σ.cont (σ.o (.c (.aF false n ys))) n=some ys:=by simp[AS.o,AS.cont]
 simp only[bY,R9]at h;have grow:∀(τ:AS) (ba:Option Addr) (xs:List PV) (dN:Nat) (od:List Value),Sat N w0 m0 pl τ ρ m act w->qW d τ->act.eval x=.slice ba xs.length dN->Flat m od n xs->(∀(k:Nat) (u:Value),od[k]?=some u->∃b o,ba=some ⟨b,o,none⟩/\w.cell? ⟨b,o+k,none⟩=some u)->
   dN<xs.length+ys.length->(xs.length+ys.length)*bytes<=140737488355328->xs.length+ys.length<=9223372036854775807->K (.vec (.loc d 0) n 0 (xs.length+ys.length)) (τ.add (.loc d 0) (.arr e n (xs++ys)))->F4 (∃nl,σ.o x'=.pv (.emp nl)) P N w0 m0 pl o act w K:=by
  intro τ ba xs dN od HA hN pV CA G4 aI X3 Z3 hK;have hmul:(xs.length+ys.length)*i.bytes<=140737488355328:=by rw[hb];exact X3
  have dF:=EG ba xs.length dN od pV (fun w' hw=>by rw[fH];exact Zf1 CA G4 w' hw _ rfl _ dN) aI (by omega) (growslice_fits aI (by omega));have yL:=grownCap_ge w (xs.length+ys.length) dN e;have rT:=grownCap_le_maxLen w (xs.length+ys.length) dN e (by simp only[maxLen];omega);have hl:=CA.len;have qZ:=C5.len;obtain⟨bV,k1,k2⟩:=HA.Zxw (W:=w.drew.alloc (.cells ((od++yd).toArray++Builtin.zeroCells zv.cells (grownCap w (xs.length+ys.length) dN e-(xs.length+ys.length))) e)) ((Ext.dr w).trans' (Ext.al _ _)) hN hn (heap_alloc_new w.drew _) (cap:=grownCap w (xs.length+ys.length) dN e) (xs:=xs++ys) (ds:=od++yd) (by
    rw[Array.size_append,Zca,tT,yT,gD,hl,qZ,<-Nat.add_mul,<-Nat.add_mul];exact I1 _ (by omega)) (by rw[gD];exact yL) rT (CA.app C5) (fun k u hk=>by
    rw[Array.getElem?_append,yT,if_pos (bZ.1 hk).1,I0];exact hk)
  rw[gD]at k2;exact⟨_,_,_,_,bV,m,.inl dF,hK,k1,k2,fun _=>(Ext.dr w).trans' (Ext.al _ _)⟩
 have ZH:∀(τ:AS) (ba:Option Addr),Sat N w0 m0 pl τ ρ m act w->qW d τ->act.eval x=.slice ba 0 0->(∀A,ba=some A->JK A)->ys=[]->K (.vec (.loc d 0) n 0 0) (τ.add (.loc d 0) (.arr e n []))->F4 (∃nl,σ.o x'=.pv (.emp nl)) P N w0 m0 pl o act w K:=by
  intro τ ba HA hN pV jJ R9 hK;subst R9;obtain⟨bV,k1,k2⟩:=HA.ZxZ (e:=e) (a:=ba) hN hn jJ;exact⟨_,_,_,_,bV,m,.inl (E0 ba pV rfl),hK,k1,k2,fun _=>Ext.tI _⟩
 have empty:∀(τ:AS) (ba:Option Addr),Sat N w0 m0 pl τ ρ m act w->qW d τ->act.eval x=.slice ba 0 0->(∀A,ba=some A->JK A)->ys.length*bytes<=140737488355328->ys.length<=9223372036854775807->K (.vec (.loc d 0) n 0 ys.length) (τ.add (.loc d 0) (.arr e n ys))->F4 (∃nl,σ.o x'=.pv (.emp nl)) P N w0 m0 pl o act w K:=by
  intro τ ba HA hN pV jJ X3 Z3 hK;by_cases R9:ys=[]
  .refine ZH τ ba HA hN pV jJ R9 ?_;subst R9;exact hK
  .have:=List.length_pos_iff.2 R9
   exact grow τ ba [] 0 [] HA hN pV (Flat.nil m n) (fun k u hk=>by simp at hk) (by simpa using this) (by simpa using X3) (by simpa using Z3) (by simpa using hK)
 split at h
 .rename_i nl ex;obtain⟨h1,h2,hK⟩:=h;have tD:=hS.aV hx;rw[ex]at tD;obtain⟨ba,pV,jJ⟩:=tD.VX;exact empty (σ.bG d) ba (hS.bG d) (qW.bG d σ) pV jJ h1 h2 hK
 .rename_i s n' lo len ex;have tD:=hS.aV hx;split at h
  .rename_i e' eT xs tX;rcases h with⟨⟨rfl,rfl,rfl,kN⟩,X3,Z3,hK⟩|⟨⟨rfl,rfl,rfl,kN⟩,X3,Z3,hK,RC⟩
   case inr=>
    have nE:((xs.drop lo).take len).length=len:=by rw[gJ,uH];omega
    have VG:σ.cont (.vec s eT lo len) eT=some ((xs.drop lo).take len):=by
     unfold AS.cont;simp only[tX,true_and];rw[if_pos kN]
    rw[ex]at tD;obtain⟨ba,bc,od,pV,CA,G4⟩:=Fo hn hS tD VG;rcases tD.DQ with⟨cap,rQ,c0,c1,c2⟩|⟨a,rQ,c0,jJ⟩
    .rw[pV]at rQ;injection rQ with q1 q2 q3;subst q1;subst q3;by_cases eP:((xs.drop lo).take len).length+ys.length<=bc
     .obtain⟨xF,hB|⟨hr,cs,g1,g2,g3,g4,g5⟩⟩:=hS.bx s _ tX
      .rw[hB.1]at c2;cases c2
      obtain⟨ME,mV⟩:=hS.extend tX hr g1 C5 kN (by rw[nE]at eP;omega);have qZ:=C5.len;rw[Nat.add_mul,<-Nat.add_assoc]at ME mV;have dF:=ER (ρ s).b ((ρ s).o+lo*eT) ((xs.drop lo).take len).length bc cs pV g1 eP (by rw[fH,nE];exact ME);rw[fH,nE]at dF;exact⟨_,_,_,_,ρ,m,.inl dF,RC,mV,.vec s eT lo (len+ys.length) bc (by rw[<-nE];exact eP) c1 hr,fun hm=>by obtain⟨nl,hm⟩:=hm;rw[ex]at hm;cases hm⟩
     .exact grow _ _ ((xs.drop lo).take len) bc od (hS.bG d) (qW.bG d σ) pV CA G4 (by omega) (by rw[nE];exact X3) (by rw[nE];exact Z3) (by rw[nE];exact hK)
    .subst c0;rw[pV]at rQ;have BM:(xs.drop lo).take 0=[]:=List.take_zero;rw[BM]at hK;simp only[rX,List.nil_append]at hK;exact empty _ a (hS.bG d) (qW.bG d σ) (by rw[pV,rQ]) jJ (by simpa using X3) (by simpa using Z3) hK
   have nE:(xs.drop lo).length=len:=by rw[uH];omega
   have hD:=(hS.drop s).bG d;have hN:=qW.bG d (σ.drop s);have VG:σ.cont (.vec s eT lo len) eT=some (xs.drop lo):=by
    unfold AS.cont;simp only[tX,true_and];rw[if_pos (by omega),fO (by omega)]
   rw[ex]at tD;obtain⟨ba,bc,od,pV,CA,G4⟩:=Fo hn hS tD VG;rcases tD.DQ with⟨cap,rQ,c0,c1,c2⟩|⟨a,rQ,c0,jJ⟩
   .rw[pV]at rQ;injection rQ with q1 q2 q3;subst q1;subst q3;by_cases eP:(xs.drop lo).length+ys.length<=bc
    ·
     obtain⟨xF,hB|⟨hr,cs,g1,g2,g3,g4,g5⟩⟩:=hS.bx s _ tX
     .rw[hB.1]at c2;cases c2
     have hl:=CA.len;rw[nE]at hl;have gN:cs.toList.length=cs.size:=uV;have qZ:=C5.len;have Cb:(ρ s).o+lo*eT+bc*eT<=cs.size:=by
      have:(lo+bc)*eT<=(ρ s).cap*eT:=I1 _ c1
      rw[Nat.add_mul]at this;omega
     have Sa:len*eT+ys.length*eT<=bc*eT:=by rw[<-Nat.add_mul,<-nE];exact I1 _ eP
     have dE:(ρ s).o+lo*eT+(xs.drop lo).length*i.size+yd.length<=cs.size:=by rw[fH,qZ,nE];omega
     have dF:=ER (ρ s).b ((ρ s).o+lo*eT) (xs.drop lo).length bc cs pV g1 eP dE;rw[fH,nE]at dF;have hq:(ρ s).o+lo*eT+len*eT+yd.length<=cs.toList.length:=by rw[gN,qZ];omega
     have hD2:=hD.write (k:=(ρ s).b) (w':=w.setRow (ρ s).b (aR cs.toList ((ρ s).o+lo*eT+len*eT) yd).toArray) (fun s' b' k r=>by
      rw[AS.NO]at k;split at k
      .cases k
      .obtain⟨b2,k2,rfl⟩:=dZ.1 k;rw[AS.JE]at k2;split at k2
       .cases k2
       .rename_i dA;exact dA (hS.dY s' s b2 _ _ k2 tX (JS.1 r) (xN hr))) (hS.off s _ tX hr) (hS.own s _ tX hr) (.inl ((hS.bx s _ tX).obj hr)) (cW.setRow w _ _)
     have BP:=Q7 ρ (.loc d 0) ⟨(ρ s).b,(ρ s).o+lo*eT,bc,true⟩;have Sr:∀k u,od[k]?=some u->cs[(ρ s).o+lo*eT+k]?=some u:=fun k u hk=>by
      obtain⟨b,q,e1,e2⟩:=G4 k u hk;cases e1;simpa[World.cell?,g1]using e2
     have Z1:=CA.app C5;refine⟨_,_,_,_,iK ρ (.loc d 0) ⟨(ρ s).b,(ρ s).o+lo*eT,bc,true⟩,m,.inl dF,hK,?_,?_,fun hm=>by obtain⟨nl,hm⟩:=hm;rw[ex]at hm;cases hm⟩
     .refine hD2.add hN (.of_flat hn (by rw[BP]) (by rw[BP];exact setRow_heap w _ cs _ e' _ g1) ?_ (by rw[BP,gD];exact eP) (by rw[BP];show bc<=_;omega) Z1 (fun k u hk=>?_)) (fun _ s' b' k r=>?_) (fun _=>hS.off s _ tX hr) (fun _=>hS.own s _ tX hr)
      .rw[BP,yT,V1 hq,gN];exact Cb
      .rw[BP,I0,A0 hq];dsimp only;rw[yS,hl]at hk;split at hk
       .rename_i gZ;rw[if_pos (by omega),O3];exact Sr k u hk
       .rename_i gZ;have sH:=(bZ.1 hk).1;rw[if_neg (by omega),if_pos (by omega),<-hk];congr 1;omega
      .have r':=(hD.bx s' b' k).dS (w':=w.setRow (ρ s).b (aR cs.toList ((ρ s).o+lo*eT+len*eT) yd).toArray) (fun rr=>(cW.setRow w (ρ s).b _).block _ (hD.lt k rr) (by
        rw[rY];intro e;have k':=k;rw[AS.NO]at k';split at k'
        .cases k'
        .obtain⟨b2,k2,rfl⟩:=dZ.1 k';rw[AS.JE]at k2;split at k2
         .cases k2
         .rename_i dA;exact dA (hS.inj s' s b2 _ k2 tX rr hr e))) |>.1 r
       rw[AS.NO]at k;split at k
       .cases k
       .obtain⟨b2,k2,rfl⟩:=dZ.1 k;rw[AS.JE]at k2;split at k2
        .cases k2
        .rename_i dA;exact dA (hS.dY s' s b2 _ _ k2 tX (JS.1 r') (xN hr))
     .have:=bO.vec (ρ:=iK ρ (.loc d 0) ⟨(ρ s).b,(ρ s).o+lo*eT,bc,true⟩) (m:=m) (.loc d 0) eT 0 (len+ys.length) bc (by rw[<-nE];exact eP) (by rw[BP];simp) (by rw[BP])
      rw[BP]at this;simpa using this
    .exact grow _ _ (xs.drop lo) bc od hD hN pV CA G4 (by omega) (by rw[nE];exact X3) (by rw[nE];exact Z3) (by rw[nE];exact hK)
   .subst c0;rw[pV]at rQ;have BM:xs.drop lo=[]:=List.eq_nil_of_length_eq_zero nE;rw[BM]at hK;simp only[rX,List.nil_append]at hK;exact empty _ a hD hN (by rw[pV,rQ]) jJ (by simpa using X3) (by simpa using Z3) hK
  .exact h.elim
 .exact h.elim
theorem ZmU {t e n bytes:Nat}{i:TypeInfo}{z:PV}{c:Call}{x y:Operand}{x' y':bA}(hx:aV x=some x')(hy:aV y=some y')(he:eG P t=some (e,n,none))(hz:rZ P e=some z)(hi:P.info? e=some i)(hb:i.bytes=bytes)(hn:0<n)(OW:z.cells.length=n)
  (hc:c.callee=.builtin .append) (ha:c.args.toList=[x,y]) (ht:c.argTypes.toList=[t,t]) (ho:o.op=.call c) (h:bY (.app e n bytes x' y') d K σ) (hS:Sat N w0 m0 pl σ ρ m act w):F4 (∃nl,σ.o x'=.pv (.emp nl)) P N w0 m0 pl o act w K:=by
 obtain⟨hu,hs⟩:=KF he;obtain⟨i2,M8,fH⟩:=He hs;rw[hi]at M8;cases M8;unfold rZ at hz;cases hv:gS P e with
 |none=>simp[hv]at hz
 |some zv=>
 simp only[hv,Option.bind_some]at hz;obtain⟨zi,J9,BJ⟩:=Hh hv;rw[hi]at J9;cases J9;have tT:zv.cells.size=n:=by have:=(TD hz m).1;omega
 cases OY:σ.cont (σ.o y') n with
 |none=>simp[bY,OY]at h
 |some ys=>
 obtain⟨ya,yc,yd,BK,C5,HC⟩:=Fo hn hS (hS.aV hy) OY;have vY:∀w',(∀A,w'.cell? A=w.cell? A)->(Builtin.firstCells i.size ys.length (.slice ya ys.length yc)).run P w'=.ok yd.toArray w':=fun w' hw=>by
  rw[fH];exact Zf1 C5 HC w' hw _ rfl _ yc
 refine ZlB (e:=e) (d:=d) hx hb hn fH tT C5 (fun ba L dN od pV x3 aI Df hf=>ZhV hc ha ht ho ?_) (fun g q L dN cur pV g1 hr hf=>ZhV hc ha ht ho ?_) (fun ba pV R9=>ZhV hc ha ht ho ?_) ?_ hS
 .rw[pV,BK];exact Zgs hu hi BJ ba L dN ya ys.length yc od yd x3 vY aI Df hf
 .rw[pV,BK];exact Zgr hu hi g q L dN cur g1 ya ys.length yc yd (vY w (fun _=>rfl)) C5.one hr hf
 .subst R9;have hf:=vY w (fun _=>rfl);have Jg:yd=[]:=List.eq_nil_of_length_eq_zero (by have:=C5.len;simpa using this);subst Jg;rw[pV,BK];simp only[List.length_nil]at hf ⊢;cases ba<;>simp[Builtin.append_,run_underlying hu,sizeOf,typeInfo,hi,Builtin.lenOf,hf,storeCells]
 .have R9:σ.cont (σ.o (.c (.aF false n ys))) n=some ys:=by simp[AS.o,AS.cont]
  simp only[bY,OY,R9]at h ⊢;exact h
end
section
variable {G:World->Prop}{P:Program}{N:Nat}{w0:World}{m0:Env w0}{pl:List Nat}{σ:AS}{ρ:Site->Loc}{m:Mem}{act:Act}{w:World}{o:Oper}{d:Nat}{K:AV->AS->Prop}
theorem Zsv {t e n bytes:Nat}{i:TypeInfo}{z:PV}{l c:Operand}{l' c':bA}(hl:aV l=some l')(mB:aV c=some c')(he:eG P t=some (e,n,none))(hz:rZ P e=some z)(hi:P.info? e=some i)(hb:i.bytes=bytes)(hn:0<n)(OW:z.cells.length=n)
  (ho:o.op=.makeSlice t l c) (h:bY (.UC e n bytes z l' c') d K σ) (hS:Sat N w0 m0 pl σ ρ m act w):oA P N w0 m0 pl o act w K:=by
 simp only[bY]at h;obtain⟨hu,hs⟩:=KF he;obtain⟨i2,M8,fH⟩:=He hs;rw[hi]at M8;cases M8;unfold rZ at hz;cases hv:gS P e with
 |none=>simp[hv]at hz
 |some zv=>
 simp only[hv,Option.bind_some]at hz;obtain⟨zi,J9,BJ⟩:=Hh hv;rw[hi]at J9;cases J9;obtain⟨z1,z2,z3⟩:=TD hz m;have tT:zv.cells.size=n:=by omega
 split at h
 .rename_i kl a kc b el ec;obtain⟨h0,h1,h2,h3,hK⟩:=h;have Az:=hS.aV hl;have CN:=hS.aV mB;rw[el]at Az;rw[ec]at CN;have Uq:(i.bytes:Int)*b<=1000*1000000:=Int.mul_le_mul (by omega) h2 (by omega) (by omega);have dF:=run_make (P:=P) w t e i zv hu hi BJ kl kc a b h0 h1 (by omega) (by omega);rw[fH]at dF;have hr:(execOp act.eval o).run P w=.ok (.value (.slice (some ⟨w.heap.size,0,none⟩) a.toNat b.toNat)) (w.alloc (.cells (madeCells zv.cells (b.toNat*n)) e)):=by
   unfold execOp;simp only[ho,Az.U7,CN.U7,Sem.run_bind,dF,Result.andThen_ok];rfl
  have kJ:∀k,k<b.toNat*n->(madeCells zv.cells (b.toNat*n))[k]?=some (zv.cells[k%n]!):=fun k hk=>by
   simp only[madeCells,Array.getElem?_map,Array.getElem?_range,tT];rw[if_pos hk];rfl
  have hle:a.toNat*n<=b.toNat*n:=I1 _ (by omega);have N4:∀j,j<n->∃hj:j<zv.cells.size,zv.cells[j]! = zv.cells[j]:=fun j hj=>⟨by omega,getElem!_pos zv.cells j (by omega)⟩
  obtain⟨bV,k1,k2⟩:=(hS.bG d).Zxw (W:=w.alloc (.cells (madeCells zv.cells (b.toNat*n)) e)) (Ext.al _ _) (qW.bG d σ) hn (heap_alloc_new w _) (cap:=b.toNat) (xs:=List.replicate a.toNat z) (ds:=(List.range (a.toNat*n)).map fun k=>zv.cells[k%n]!) (by simp[madeCells]) (by simp;omega) (by simp only[maxLen];omega)
   ⟨by simp,fun u hu=>by
    obtain⟨k,_,rfl⟩:=iI.1 hu;obtain⟨hj,e1⟩:=N4 (k%n) (Nat.mod_lt _ hn);rw[e1];exact z2 _ (Array.getElem_mem hj),fun i x hx=>by
    rw[List.getElem?_replicate]at hx;split at hx
    .rename_i Tx;cases hx;refine⟨OW,fun j c hj=>?_⟩;have rS:j<n:=by have:=(bZ.1 hj).1;omega
     obtain⟨X9,e1⟩:=N4 j rS;have yG:(i*n+j)%n=j:=by rw[Nat.add_comm,Nat.add_mul_mod_self_right,Nat.mod_eq_of_lt rS]
     have:=V4 (n:=n) Tx
     refine⟨zv.cells[j],?_,z3 j _ c (uT X9) hj⟩;rw[bW,List.getElem?_range (by omega),uU,yG,e1]
    .cases hx⟩ (fun k u hk=>by
    rw[bW]at hk;obtain⟨k',e1,rfl⟩:=dZ.1 hk;have aI:k<a.toNat*n:=by have:=(bZ.1 e1).1;simpa using this
    rw[List.getElem?_range aI]at e1;cases e1;exact kJ k (by omega))
  rw[List.length_replicate]at k2;exact⟨_,_,_,_,bV,m,.inl hr,hK,k1,k2,fun _=>Ext.al _ _⟩
 .exact h.elim
theorem WK {x:Option Operand}{x':Option bA}(hx:(x=none/\x'=none)\/∃a a',x=some a/\x'=some a'/\aV a=some a')(hS:Sat N w0 m0 pl σ ρ m act w){z l:Int}(h:σ.ob x' z=some l):(x=none/\l=z)\/∃a k,x=some a/\act.eval a=.int k l:=by
 rcases hx with⟨rfl,rfl⟩|⟨a,a',rfl,rfl,ha⟩
 .simp[AS.ob]at h;exact .inl ⟨rfl,h.symm⟩
 .simp only[AS.ob]at h;split at h
  .rename_i k b e;cases h
   have:=hS.aV ha
   rw[e]at this;exact .inr ⟨a,k,rfl,this.U7⟩
  .cases h
theorem ZmN {t e n:Nat}{x:Operand}{x':bA}{lo hi:Option Operand}{UE xI:Option bA}(hx:aV x=some x')(he:eG P t=some (e,n,none))(kN:(lo=none/\UE=none)\/∃a a',lo=some a/\UE=some a'/\aV a=some a')(Bm:(hi=none/\xI=none)\/∃a a',hi=some a/\xI=some a'/\aV a=some a')
  (ho:o.op=.slice t x lo hi none) (h:bY (.I9 n none x' UE xI none) d K σ) (hS:Sat N w0 m0 pl σ ρ m act w):dB G P σ ρ m o act w K:=by
 simp only[bY]at h;obtain⟨hu,hs⟩:=KF he;have h1:=hS.aV hx;have run:∀(a:Option Addr) (len cap:Nat) (l h:Int),act.eval x=.slice a len cap->((lo=none/\l=0)\/∃b k,lo=some b/\act.eval b=.int k l)->((hi=none/\h=len)\/∃b k,hi=some b/\act.eval b=.int k h)->0<=l->l<=h->h<=len->len<=cap->
   ∀w',G w'->(execOp act.eval o).run P w'=.ok (.value (.slice (if cap=l.toNat then a else a.map (·.add (l.toNat*n))) (h.toNat-l.toNat) (cap-l.toNat))) w':=by
  intro a len cap l h e el eh l0 l1 l2 l3;intro w' bT;unfold execOp;simp only[ho,e,Sem.run_bind];have hh:h<=cap:=by omega
  rcases el with⟨rfl,rfl⟩|⟨b,k,rfl,eb⟩<;>rcases eh with⟨rfl,rfl⟩|⟨b2,k2,rfl,Dq⟩
  .simp[Instr.sliceAt,run_underlying hu,Instr.slice,Instr.sliceBounds,run_sizeOf hs]
  .have h0:0<=h:=by omega
   simp[Instr.sliceAt,run_underlying hu,Instr.slice,Instr.sliceBounds,run_sizeOf hs,Dq,Instr.sliceBound,asIntOf,hh,h0]
  .have h0:l<=(len:Int):=l1;simp[Instr.sliceAt,run_underlying hu,Instr.slice,Instr.sliceBounds,run_sizeOf hs,eb,Instr.sliceBound,asIntOf,l0,h0]
  .have h0:0<=h:=by omega
   have h4:l<=(h.toNat:Int):=by omega
   simp[Instr.sliceAt,run_underlying hu,Instr.slice,Instr.sliceBounds,run_sizeOf hs,eb,Dq,Instr.sliceBound,asIntOf,l0,h0,hh];intro h5;omega
 split at h
 .rename_i l hl;have el:=WK kN hS hl;split at h
  .rename_i nn n' xs ex;rw[ex]at h1;obtain⟨a,cap,ds,hv,q0,q1,q2,q3,q5,q6,q7⟩:=h1.Kp;split at h
   .rename_i hh Bn;obtain⟨l0,l1,l2,rfl,hK⟩:=h;have eh:=WK Bm hS Bn;have hr:=run a xs.length cap l hh hv el eh l0 l1 l2 q0;have hlen:((xs.take hh.toNat).drop l.toNat).length=hh.toNat-l.toNat:=by rw[uH,gJ];omega
    have get:∀i x,((xs.take hh.toNat).drop l.toNat)[i]?=some x->xs[l.toNat+i]?=some x:=fun i x hx=>by
     rw[mS,mG]at hx;split at hx
     .exact hx
     .cases hx
    refine .pure hS hr ?_ hK;rw[<-hlen];refine .pv _ _ (.aF _ _ nn n' _ (fun i=>ds (l.toNat+i)) (by rw[hlen];omega) (by omega) (fun e=>?_) (fun A hA=>?_) (fun e=>?_) (fun i x hx=>?_) (fun i x hx=>q6 _ x (get i x hx)) (fun i x j u c hx=>q7 _ x j u c (get i x hx)))
    .have:a=none:=by
      split at e
      .exact e
      .simpa using e
     have:=q2 this;omega
    .rfl
    .have dA:a≠none:=by
      subst e;exact h1.ZxQ hv
     split
     .exact dA
     .cases a with
      |none=>exact absurd rfl dA
      |some B=>simp
    .have rP:=get i x hx;obtain⟨b,q,ha,k1⟩:=q5 _ x rP;have aI:=(bZ.1 rP).1;refine⟨b,q+l.toNat*n',?_,?_⟩
     .rw[if_neg (by omega),ha,uU,NT]
     .rwa [show q+l.toNat*n'+i*n'=q+(l.toNat+i)*n' by rw[Nat.add_mul];omega]
   .exact h.elim
  .rename_i nl ex;rw[ex]at h1;split at h
   .rename_i hh Bn;obtain⟨rfl,rfl,hK⟩:=h;obtain⟨a,hv,_⟩:=h1.VX;have eh:=WK Bm hS Bn;have hr:=run a 0 0 0 0 hv el eh (by omega) (by omega) (by omega) (by omega);refine .pure hS hr ?_ hK;simp only[Int.toNat_zero,if_true];rw[hv]at h1;exact h1
   .exact h.elim
  .rename_i s n' OS len ex;rw[ex]at h1;split at h
   .rename_i hh Bn;obtain⟨l0,l1,l2,rfl,hK⟩:=h;have eh:=WK Bm hS Bn;rcases h1.DQ with⟨cap,hv,c0,c1,c2⟩|⟨a,hv,c0,jJ⟩
    .have hr:=run _ len cap l hh hv el eh l0 l1 l2 c0;refine .pure hS hr ?_ hK;split
     .rename_i hc;have e1:hh.toNat-l.toNat=0:=by omega
      have e2:cap-l.toNat=0:=by omega
      rw[e1,e2];exact .mZ _ _ _ _ (fun A hA=>by cases hA;rfl)
     .simp only[uU,NT]
      have:=bO.vec (ρ:=ρ) (m:=m) s n' (OS+l.toNat) (hh.toNat-l.toNat) (cap-l.toNat) (by omega) (by omega) c2
      rwa [show(ρ s).o+(OS+l.toNat)*n'=(ρ s).o+OS*n'+l.toNat*n' by rw[Nat.add_mul];omega]at this
    .subst c0;have x4:l=0:=by omega
     have hh0:hh=0:=by omega
     subst x4 hh0;have hr:=run a 0 0 0 0 hv el eh (by omega) (by omega) (by omega) (by omega);refine .pure hS hr ?_ hK;simp only[Int.toNat_zero,if_true];exact .mZ _ _ _ _ jJ
   .exact h.elim
  .exact h.elim
 .exact h.elim
end
def qH:PV->Value
 |.int k n=>.int k n
 |.bool b=>.bool b
 |.str s=>.string s
 |_=>undef
def lF (wide:Bool)(l:List PV):Value:=if wide=true then .agg (l.map qH).toArray else qH (l.headD .eU)
theorem ZrH {m:Mem}{v:Value}{x:PV}{k:CK}(hx:k.ok x=true)(h:dG m v x):v=qH x:=by
 cases h<;>cases k<;>first|rfl|(simp[CK.ok]at hx)
theorem Hk:∀{ks:List CK} {cs:List PV},bU ks cs=true->ks.length=cs.length
 |[],[],_=>rfl
 |[],_::_,h=>by simp[bU]at h
 |_::_,[],h=>by simp[bU]at h
 |k::ks,c::cs,h=>by
  simp only[bU,dJ]at h;simp[Hk h.2]
theorem Hj:∀{ks:List CK} {cs:List PV} {j:Nat} {c:PV},bU ks cs=true->cs[j]?=some c->∃k:CK,k.ok c=true
 |[],[],j,c,_,h=>by simp at h
 |[],_::_,j,c,h,_=>by simp[bU]at h
 |_::_,[],j,c,h,_=>by simp[bU]at h
 |k::ks,x::cs,j,c,h,hj=>by
  simp only[bU,dJ]at h;cases j with
  |zero=>simp at hj;subst hj;exact⟨k,h.1⟩
  |succ j=>exact Hj h.2 (by simpa using hj)
theorem TB:∀{a b:List CK} {cs:List PV},bU (a++b) cs=true->bU a (cs.take a.length)=true/\bU b (cs.drop a.length)=true
 |[],b,cs,h=>by simpa[bU]using h
 |k::a,b,[],h=>by simp[bU]at h
 |k::a,b,c::cs,h=>by
  simp only[List.cons_append,bU,dJ]at h;obtain⟨h1,h2⟩:=TB h.2;simp[bU,h.1,h1,h2]
theorem I5 {k:CK}{l:List PV}(h:bU [k] l=true):∃x,l=[x]/\k.ok x=true:=by
 match l with
 |[]=>simp[bU]at h
 |[x]=>simp[bU]at h;exact⟨x,rfl,h⟩
 |_::_::_=>simp[bU]at h
theorem NS {x:PV}(h:CK.bool.ok x=true):∃b,x=.bool b:=by cases x<;>simp[CK.ok]at h;exact⟨_,rfl⟩
theorem NQ {k:IntKind}{x:PV}(h:(CK.int k).ok x=true):∃n,x=.int k n:=by cases x<;>simp[CK.ok]at h;subst h;exact⟨_,rfl⟩
theorem FG {x:PV}(h:CK.str.ok x=true):∃s,x=.str s:=by cases x<;>simp[CK.ok]at h;exact⟨_,rfl⟩
theorem Za:∀{a b c d:List PV},a.length=b.length->lP (a++c) (b++d)=(lP a b&&lP c d)
 |[],[],c,d,_=>by simp[lP]
 |[],_::_,c,d,h=>by simp at h
 |_::_,[],c,d,h=>by simp at h
 |x::a,y::b,c,d,h=>by
  simp only[List.cons_append,lP];rw[Za (by simpa using h),Bool.and_assoc]
theorem Zu4 {k:CK}{x y:PV}(hx:k.ok x=true)(hy:k.ok y=true)(h:wK x y=true):x=y:=by
 cases k with
 |int k=>obtain⟨a,rfl⟩:=NQ hx;obtain⟨b,rfl⟩:=NQ hy;simp[wK]at h;rw[h]
 |bool=>obtain⟨a,rfl⟩:=NS hx;obtain⟨b,rfl⟩:=NS hy;simp[wK]at h;rw[h]
 |str=>
  obtain⟨a,rfl⟩:=FG hx;obtain⟨b,rfl⟩:=FG hy;have h':a.toList=b.toList:=by simpa[wK]using h
  rw[ByteArray.toList_eq,ByteArray.toList_eq]at h';obtain⟨x⟩:=a;obtain⟨y⟩:=b;have e:x=y:=yU.1 h';rw[e]
theorem ZrR:∀{ks:List CK} {l l':List PV},bU ks l=true->bU ks l'=true->lP l l'=true->l=l'
 |[],[],[],_,_,_=>rfl
 |[],_::_,_,h,_,_=>by simp[bU]at h
 |[],[],_::_,_,h,_=>by simp[bU]at h
 |_::_,[],_,h,_,_=>by simp[bU]at h
 |_::_,_::_,[],_,h,_=>by simp[bU]at h
 |k::ks,x::l,y::l',h1,h2,h=>by
  simp only[bU,lP,dJ]at h1 h2 h;rw[Zu4 h1.1 h2.1 h.1,ZrR h1.2 h2.2 h.2]
theorem Ez {m:Mem}{v:Value}{x:PV}{kt:KT}(hk:kt.ok x=true)(h:dG m v x):v=lF kt.wide x.cells/\bU kt.ks x.cells=true:=by
 cases h
 case agg vs cs h0 h1 h2=>
  simp only[KT.ok,dJ]at hk;refine⟨?_,hk.2⟩;simp only[lF,hk.1,if_true,PV.cells];congr 1;refine Array.ext_getElem? (fun j=>?_);rw[show(List.map qH cs).toArray[j]?=(List.map qH cs)[j]? from I0 ..,bW];cases hc:cs[j]? with
  |none=>rw[Array.getElem?_eq_none (by rw[h0];exact List.getElem?_eq_none_iff.1 hc)];rfl
  |some c=>
   have hj:j<vs.size:=by rw[h0];exact(bZ.1 hc).1
   obtain⟨k,sH⟩:=Hj hk.2 hc;rw[uT hj,uU,ZrH sH (h2 j _ c (uT hj) hc)]
 all_goals
  simp only[KT.ok,dJ,Bool.not_eq_true']at hk;obtain⟨hw,hc⟩:=hk;refine⟨?_,hc⟩;simp only[lF,hw,Bool.false_eq_true,if_false,PV.cells,List.headD_cons];obtain⟨k,sH⟩:=Hj hc (j:=0) rfl;exact ZrH (m:=m) sH (by first|exact .int _ _|exact .bool _|exact .str _|(cases k<;>simp[CK.ok]at sH))
def RS (g:TypeId->Option KT)(sz:TypeId->Nat):Nat->List Field->Option (List CK)
 |_,[]=>some []
 |o,f::r=>match g f.type,RS g sz (o+sz f.type) r with
  | some kf, some l => if f.offset = o /\ sz f.type = kf.ks.length /\ f.name ≠ "_" then some (kf.ks ++ l) else none
  |_,_=>none
def pR (P:Program):Nat->TypeId->Option KT
 |0,_=>none
 |d+1,t=>match P.underlying t with
  |some .bool=>some ⟨false,[.bool]⟩
  |some (.int k)=>some ⟨false,[.int k]⟩
  |some .string=>some ⟨false,[.str]⟩
  |some (.array n e)=>match pR P d e with
   |some ke=>if P.cellsOf e=ke.ks.length then some ⟨true,(List.replicate n ke.ks).flatten⟩else none
   |none=>none
  |some (.struct fs)=>if P.stoodInHeld t=false then(RS (pR P d) P.cellsOf 0 fs.toList).map (⟨true,·⟩)else none
  |_=>none
section
variable {P:Program}{w:World}
theorem Mp {d:Nat}{t:TypeId}{kt:KT}(h:pR P d t=some kt):∃i,P.info? t=some i:=by
 cases d with
 |zero=>simp[pR]at h
 |succ d=>
  cases hu:P.underlying t with
  |none=>simp[pR,hu]at h
  |some dd=>exact info_of_underlying hu
theorem XF {d:Nat}{e:TypeId}{ke:KT}(hk:pR P d e=some ke)(hs:P.cellsOf e=ke.ks.length){l:List PV}{off:Nat}(hl:bU ke.ks ((l.drop off).take ke.ks.length)=true)(w:World):
  (part e (l.map qH).toArray off).run P w=.ok (lF ke.wide ((l.drop off).take ke.ks.length)) w:=by
 obtain⟨i,hi⟩:=Mp hk;cases d with
 |zero=>simp[pR]at hk
 |succ d=>
  have plain:∀{k:CK} {dd:TypeDesc},P.underlying e=some dd->ke=⟨false,[k]⟩->(dd=.bool\/dd=.string\/∃q,dd=.int q)->(part e (l.map qH).toArray off).run P w=.ok (lF ke.wide ((l.drop off).take ke.ks.length)) w:=by
   intro k dd hu e1 HX;subst e1;obtain⟨x,hx,_⟩:=I5 hl;have kJ:l[off]?=some x:=by
    have:((l.drop off).take 1)[0]?=some x:=by simp only[List.length_singleton]at hx;rw[hx];rfl
    rw[mG,if_pos (by omega),mS]at this;simpa using this
   have Bq:(l.map qH).toArray[off]?=some (qH x):=by rw[I0,bW,kJ];rfl
   rw[hx];rcases HX with rfl|rfl|⟨q,rfl⟩<;>simp[part,isAgg,run_underlying hu,Bq,lF]<;>simp[kJ]
  have wide:ke.wide=true->(∃n e',P.underlying e=some (.array n e'))\/(∃fs,P.underlying e=some (.struct fs))->(part e (l.map qH).toArray off).run P w=.ok (lF ke.wide ((l.drop off).take ke.ks.length)) w:=by
   intro hw hu;have hv:(l.map qH).toArray.extract off (off+P.cellsOf e)=(((l.drop off).take ke.ks.length).map qH).toArray:=by
    apply yU.1;rw[Array.toList_extract,hs];simp[List.extract,List.map_drop,List.map_take]
   simp only[lF,hw,if_true];rcases hu with⟨n,e',hu⟩|⟨fs,hu⟩<;>simp only[part,isAgg,Sem.run_bind,run_underlying hu,Result.andThen_ok,Sem.run_pure,if_true,Go.run_sizeOf w hi,hv]
  unfold pR at hk;split at hk
  .rename_i hu;cases hk;exact plain hu rfl (.inl rfl)
  .rename_i k hu;cases hk;exact plain hu rfl (.inr (.inr ⟨k,rfl⟩))
  .rename_i hu;cases hk;exact plain hu rfl (.inr (.inl rfl))
  .rename_i n e' hu;split at hk
   .split at hk
    .cases hk;exact wide rfl (.inl ⟨n,e',hu⟩)
    .cases hk
   .cases hk
  .rename_i fs hu;split at hk
   .obtain⟨ks,_,rfl⟩:=dZ.1 hk;exact wide rfl (.inr ⟨fs,hu⟩)
   .cases hk
  .cases hk
theorem Me {l:List PV}(h:bU [] l=true):l=[]:=by cases l with
 |nil=>rfl
 |cons=>simp[bU]at h
theorem ZeO {d dd:Nat}{e:TypeId}{ke:KT}(hk:pR P d e=some ke)(hs:P.cellsOf e=ke.ks.length)
  (IH:∀l l',bU ke.ks l=true->bU ke.ks l'=true->∀w,(Op.equalIn dd e (lF ke.wide l) (lF ke.wide l')).run P w=.ok (lP l l') w) (L L':List PV) (w:World):
  ∀(n i:Nat),bU (List.replicate n ke.ks).flatten (L.drop (i*ke.ks.length))=true->bU (List.replicate n ke.ks).flatten (L'.drop (i*ke.ks.length))=true->
   (Op.eqItems dd e (P.cellsOf e) (L.map qH).toArray (L'.map qH).toArray (List.range' i n)).run P w=.ok (lP (L.drop (i*ke.ks.length)) (L'.drop (i*ke.ks.length))) w
 |0,i,h1,h2=>by
  rw[Me h1,Me h2];simp[Op.eqItems,lP]
 |n+1,i,h1,h2=>by
  simp only[List.replicate_succ,List.flatten_cons]at h1 h2;obtain⟨a1,a2⟩:=TB h1;obtain⟨b1,b2⟩:=TB h2;have e1:i*ke.ks.length+ke.ks.length=(i+1)*ke.ks.length:=by rw[Nat.add_mul];omega
  rw[List.drop_drop,e1]at a2 b2;have hr:=ZeO hk hs IH L L' w n (i+1) a2 b2;have la:=Hk a1;have lb:=Hk b1;have jJ:lP (L.drop (i*ke.ks.length)) (L'.drop (i*ke.ks.length))=(lP ((L.drop (i*ke.ks.length)).take ke.ks.length) ((L'.drop (i*ke.ks.length)).take ke.ks.length)&&lP (L.drop ((i+1)*ke.ks.length)) (L'.drop ((i+1)*ke.ks.length))):=by
   rw[<-Za (by omega)];rw[<-e1,<-List.drop_drop,<-List.drop_drop,List.take_append_drop,List.take_append_drop]
  rw[jJ];rw[hs]at hr ⊢;simp only[List.range'_succ,Op.eqItems,Sem.run_bind,XF hk hs a1,XF hk hs b1,IH _ _ a1 b1,Result.andThen_ok];cases lP ((L.drop (i*ke.ks.length)).take ke.ks.length) ((L'.drop (i*ke.ks.length)).take ke.ks.length)
  .simp
  .simpa using hr
theorem ZdK {d dd:Nat}(IH:∀(e:TypeId) (ke:KT),pR P d e=some ke->∀l l',bU ke.ks l=true->bU ke.ks l'=true->∀w,(Op.equalIn dd e (lF ke.wide l) (lF ke.wide l')).run P w=.ok (lP l l') w)(L L':List PV)(w:World):
  ∀(fs:List Field) (o:Nat) (ks:List CK),RS (pR P d) P.cellsOf o fs=some ks->bU ks (L.drop o)=true->bU ks (L'.drop o)=true->
   (Op.eqFields dd (L.map qH).toArray (L'.map qH).toArray fs).run P w=.ok (lP (L.drop o) (L'.drop o)) w
 |[],o,ks,h,h1,h2=>by
  simp[RS]at h;subst h;rw[Me h1,Me h2];simp[Op.eqFields,lP]
 |f::fs,o,ks,h,h1,h2=>by
  unfold RS at h;split at h
  .rename_i kf l hk EK;split at h
   .rename_i hc;obtain⟨c1,c2,c3⟩:=hc;cases h;obtain⟨a1,a2⟩:=TB h1;obtain⟨b1,b2⟩:=TB h2;rw[List.drop_drop,<-c2]at a2 b2;have hr:=ZdK IH L L' w fs _ l EK a2 b2;have la:=Hk a1;have lb:=Hk b1;have jJ:lP (L.drop o) (L'.drop o)=(lP ((L.drop o).take kf.ks.length) ((L'.drop o).take kf.ks.length)&&lP (L.drop (o+P.cellsOf f.type)) (L'.drop (o+P.cellsOf f.type))):=by
     rw[<-Za (by omega)];rw[c2,<-List.drop_drop,<-List.drop_drop,List.take_append_drop,List.take_append_drop]
    rw[jJ];have p1:=XF hk c2 a1 w;have p2:=XF hk c2 b1 w;rw[<-c1]at p1 p2 a1 b1 ⊢;simp only[Op.eqFields,c3,ne_eq,not_false_eq_true,if_true,Sem.run_bind,p1,p2,IH _ _ hk _ _ a1 b1,Result.andThen_ok];rw[<-c1]at hr;cases lP ((L.drop f.offset).take kf.ks.length) ((L'.drop f.offset).take kf.ks.length)
    .simp
    .simpa using hr
   .cases h
  .cases h
theorem Mx:∀(d:Nat) (t:TypeId) (kt:KT),pR P d t=some kt->∀(e:Nat),d<=e->∀(l l':List PV),bU kt.ks l=true->bU kt.ks l'=true->∀w,(Op.equalIn e t (lF kt.wide l) (lF kt.wide l')).run P w=.ok (lP l l') w
 |0,t,kt,h,e,he,l,l',hl,lH,w=>by simp[pR]at h
 |d+1,t,kt,h,e,he,l,l',hl,lH,w=>by
  obtain⟨e',rfl⟩:∃e',e=e'+1:=⟨e-1,by omega⟩;unfold pR at h;split at h
  .rename_i hu;cases h;obtain⟨x,rfl,hx⟩:=I5 hl;obtain⟨y,rfl,hy⟩:=I5 lH;obtain⟨a,rfl⟩:=NS hx;obtain⟨b,rfl⟩:=NS hy
   have:=run_equalIn_bool w e' t a b hu
   simpa[lF,qH,lP,wK]using this
  .rename_i k hu;cases h;obtain⟨x,rfl,hx⟩:=I5 hl;obtain⟨y,rfl,hy⟩:=I5 lH;obtain⟨a,rfl⟩:=NQ hx;obtain⟨b,rfl⟩:=NQ hy
   have:=run_equalIn_int w e' t k k a b hu
   simpa[lF,qH,lP,wK]using this
  .rename_i hu;cases h;obtain⟨x,rfl,hx⟩:=I5 hl;obtain⟨y,rfl,hy⟩:=I5 lH;obtain⟨a,rfl⟩:=FG hx;obtain⟨b,rfl⟩:=FG hy
   have:=run_equalIn_string w e' t a b hu
   simpa[lF,qH,lP,wK]using this
  .rename_i n e0 hu;split at h
   .rename_i ke hk;split at h
    .rename_i hs;cases h;obtain⟨i,hi⟩:=Mp hk;simp only[lF,if_true];rw[run_equalIn_array w e' _ _ hu hi,List.range_eq_range']
     have:=ZeO hk hs (Mx d e0 ke hk e' (by omega)) l l' w n 0 (by simpa using hl) (by simpa using lH)
     simpa using this
    .cases h
   .cases h
  .rename_i fs hu;split at h
   .rename_i bT;obtain⟨ks,hf,rfl⟩:=dZ.1 h;have Bs:P.fieldsOf t=fs:=by simp[Program.fieldsOf,hu]
    simp only[lF,if_true];rw[run_equalIn_struct w e' t _ _ (by rw[Bs];exact hu) bT,Bs]
    have:=ZdK (dd:=e') (fun e0 ke hk=>Mx d e0 ke hk e' (by omega)) l l' w fs.toList 0 ks hf (by simpa using hl) (by simpa using lH)
    simpa using this
   .cases h
  .cases h
theorem ZgT {ks:List CK}:∀(n:Nat) (l:List PV),bU (List.replicate n ks).flatten l=true->∀j,j<n->bU ks ((l.drop (j*ks.length)).take ks.length)=true
 |0,l,h,j,hj=>by omega
 |n+1,l,h,j,hj=>by
  simp only[List.replicate_succ,List.flatten_cons]at h;obtain⟨a1,a2⟩:=TB h;cases j with
  |zero=>simpa using a1
  |succ j=>
   have:=ZgT n _ a2 j (by omega)
   rwa [List.drop_drop,show ks.length+j*ks.length=(j+1)*ks.length by rw[Nat.add_mul];omega]at this
theorem Zlm (d:Nat)(l:List PV):∀(fs:List Field) (o:Nat) (ks:List CK),RS (pR P d) P.cellsOf o fs=some ks->bU ks (l.drop o)=true->
  ∀ f ∈ fs, ∃ kf, pR P d f.type = some kf /\ P.cellsOf f.type = kf.ks.length /\ f.name ≠ "_" /\ bU kf.ks ((l.drop f.offset).take kf.ks.length) = true
 |[],o,ks,h,h1,f,hf=>by cases hf
 |g::fs,o,ks,h,h1,f,hf=>by
  unfold RS at h;split at h
  .rename_i kf l0 hk EK;split at h
   .rename_i hc;obtain⟨c1,c2,c3⟩:=hc;cases h;obtain⟨a1,a2⟩:=TB h1;rw[List.drop_drop,<-c2]at a2;rcases jN.1 hf with rfl|hf
    .exact⟨kf,hk,c2,c3,by rw[c1];exact a1⟩
    .exact Zlm d l fs _ _ EK a2 f hf
   .cases h
  .cases h
theorem XQ (em:Bool):∀(d:Nat) (t:TypeId) (kt:KT),pR P d t=some kt->∀(e:Nat),d<=e->∀(l:List PV),bU kt.ks l=true->∀w,(Instr.checkKey em e t (lF kt.wide l)).run P w=.ok () w
 |0,t,kt,h,e,he,l,hl,w=>by simp[pR]at h
 |d+1,t,kt,h,e,he,l,hl,w=>by
  obtain⟨e',rfl⟩:∃e',e=e'+1:=⟨e-1,by omega⟩;unfold pR at h;split at h
  .rename_i hu;cases h;obtain⟨x,rfl,hx⟩:=I5 hl;obtain⟨a,rfl⟩:=NS hx;simp[lF,qH,Instr.checkKey,run_underlying hu]
  .rename_i k hu;cases h;obtain⟨x,rfl,hx⟩:=I5 hl;obtain⟨a,rfl⟩:=NQ hx;simp[lF,qH,Instr.checkKey,run_underlying hu]
  .rename_i hu;cases h;obtain⟨x,rfl,hx⟩:=I5 hl;obtain⟨a,rfl⟩:=FG hx;simp[lF,qH,Instr.checkKey,run_underlying hu]
  .rename_i n e0 hu;split at h
   .rename_i ke hk;split at h
    .rename_i hs;cases h;obtain⟨i,hi⟩:=Mp hk;simp only[lF,if_true];rw[Instr.checkKey];simp only[Sem.run_bind,run_underlying hu,Result.andThen_ok];simp only[Std.Legacy.Range.forIn_eq_forIn_range',Std.Legacy.Range.size,Nat.sub_zero,Nat.add_one_sub_one,Nat.div_one];have each:∀j∈List.range' 0 n,bU ke.ks ((l.drop (j*ke.ks.length)).take ke.ks.length)=true:=fun j hj=>by
      rw[List.mem_range'_1]at hj;exact ZgT n l hl j (by omega)
     generalize List.range' 0 n=is at each;induction is with
     |nil=>simp
     |cons j is ih=>
      have a1:=each j (by simp);have p1:=XF hk hs a1 w;have p2:=XQ em d e0 ke hk e' (by omega) _ a1 w;simp only[List.forIn_cons,Sem.run_bind,Go.run_sizeOf w hi,Result.andThen_ok,hs,p1,p2,Sem.run_pure];exact ih (fun y hy=>each y (by simp[hy]))
    .cases h
   .cases h
  .rename_i fs hu;split at h
   .rename_i bT;obtain⟨ks,hf,rfl⟩:=dZ.1 h;simp only[lF,if_true];rw[Instr.checkKey];simp only[Sem.run_bind,run_underlying hu,Result.andThen_ok];rw[<-Array.forIn_toList];have each:=Zlm d l fs.toList 0 ks hf (by simpa using hl);clear hf h;generalize fs.toList=L at each;induction L with
    |nil=>simp
    |cons f L ih=>
     obtain⟨kf,hk,c2,c3,a1⟩:=each f (by simp);have p1:=XF hk c2 a1 w;simp only[List.forIn_cons,Sem.run_bind,c3,ne_eq,not_false_eq_true,if_true,Result.andThen_ok,p1,XQ em d f.type kf hk e' (by omega) _ a1 w,Sem.run_pure];exact ih (fun y hy=>each y (by simp[hy]))
   .cases h
  .cases h
end
def pN (P:Program):Op->Option V5
 |.binOp op t x y _=>match aV x,aV y,pR P 20 t with
  |some x,some y,some kt=>if(kt.wide=true/\P.eqGuardType P.depth t=false)\/kt=⟨false,[.str]⟩then match op with
    |.eql=>some (.eqv false kt x y)
    |.neq=>some (.eqv true kt x y)
    |_=>none
   else none
  |_,_,_=>none
 |.makeMap _ none=>some .F9
 |.lookup t x i ok=>match P.underlying t with
  |some (.map k e)=>match aV x,aV i,pR P 20 k,rZ P e with
   |some x,some i,some kt,some z=>some (.look kt z ok x i)
   |_,_,_,_=>none
  |_=>none
 |.mapUpdate t x i v=>match P.underlying t with
  |some (.map k _)=>match aV x,aV i,aV v,pR P 20 k with
   |some x,some i,some v,some kt=>some (.iK kt x i v)
   |_,_,_,_=>none
  |_=>none
 |.insert t x i v=>match P.underlying t with
  |some (.map k _)=>match aV x,aV i,aV v,pR P 20 k with
   |some x,some i,some v,some kt=>some (.iK kt x i v)
   |_,_,_,_=>none
  |_=>none
 |.call c=>match c.callee with
  |.builtin .len=>match c.args.toList,c.argTypes.toList with
   |[x],[t]=>match aV x,P.underlying t with
    |some y,some (.map _ _)=>some (.BB y)
    |_,_=>none
   |_,_=>none
  |.builtin .copy=>match c.args.toList,c.argTypes.toList with
   |[x,y],[t,_]=>match aV x,aV y,eG P t with
    |some x,some y,some (_,n,none)=>if 0<n then some (.copy n x y)else none
    |_,_,_=>none
   |_,_=>none
  |.builtin .clear=>match c.args.toList,c.argTypes.toList with
   |[x],[t]=>match aV x,eG P t with
    |some x,some (e,n,none)=>match rZ P e with
     |some z=>if 0<n/\z.cells.length=n then some (.clear n z x)else none
     |none=>none
    |_,_=>none
   |_,_=>none
  |_=>none
 |.slice t x none (some hi) none=>match aV x,aV hi,eG P t with
  |some x,some hi,some (_,1,some n)=>if 0<n/\n<=1000000 then some (.ED n x hi)else none
  |some x,some hi,some (_,W,some n)=>if 0<n/\n<=1000000 then some (.YI n W x hi)else none
  |_,_,_=>none
 |.slice t x none none none=>match aV x,eG P t with
  |some x,some (_,1,some n)=>if 0<n/\n<=1000000 then some (.ED n x (.c (.int .i64 n)))else none
  |_,_=>none
 |_=>none
def V5.still:V5->Bool
 |.eqv _ _ _ _=>true
 |.rI _=>true
 |.A5 _ _=>true
 |.TT _ _ _=>true
 |.rK _ _=>true
 |.sF _ _=>true
 |.LF _ _=>true
 |.KR _ _ _=>true
 |_=>false
def V5.read:V5->Bool
 |.look _ _ _ _ _=>true
 |.BB _=>true
 |_=>false
def jR (k:PV):List (PV×PV)->Option Nat
 |[]=>none
 |(k',_)::r=>match gR k k' with
  |true=>some 0
  |false=>(jR k r).map (·+1)
theorem ZiK (k:PV):∀es:List (PV×PV),eX k es=(jR k es).bind fun j=>(es[j]?).map (·.2)
 |[]=>rfl
 |(k',v)::r=>by
  unfold eX jR;cases gR k k' with
  |true=>rfl
  |false=>
   rw[ZiK k r];cases jR k r<;>simp
theorem ZkF (k v:PV):∀es:List (PV×PV),mK k v es=match jR k es with
  |some j=>es.set j (k,v)
  |none=>es++[(k,v)]
 |[]=>rfl
 |(k',v')::r=>by
  unfold mK jR;cases gR k k' with
  |true=>rfl
  |false=>
   dsimp only;rw[ZkF k v r];cases jR k r<;>simp
theorem Yi {k:PV}:∀{es:List (PV×PV)} {j:Nat},jR k es=some j->∃p,es[j]?=some p/\gR k p.1=true
 |[],j,h=>by simp[jR]at h
 |(k',v)::r,j,h=>by
  unfold jR at h;cases he:gR k k' with
  |true=>rw[he]at h;cases h;exact⟨_,rfl,he⟩
  |false=>
   rw[he]at h;obtain⟨j',h1,rfl⟩:=dZ.1 h;obtain⟨p,h2,h3⟩:=Yi h1;exact⟨p,by simpa using h2,h3⟩
def sB (kt:KT):List MapEntry->List (PV×PV)->Prop
 |[],[]=>True
 |e::r,p::q=>(e.key=lF kt.wide p.1.cells/\bU kt.ks p.1.cells=true)/\sB kt r q
 |_,_=>False
theorem sB.of {m:Mem}{kt:KT}:∀{fD:List MapEntry} {es:List (PV×PV)},fD.length=es.length->(∀(i:Nat) (e:MapEntry) (p:PV×PV),fD[i]?=some e->es[i]?=some p->dG m e.key p.1/\dG m e.val p.2)->zZ kt es=true->sB kt fD es
 |[],[],_,_,_=>trivial
 |[],_::_,h,_,_=>by simp at h
 |_::_,[],h,_,_=>by simp at h
 |e::r,p::q,h,h1,h2=>by
  simp only[zZ,List.all_cons,dJ]at h2;exact⟨Ez h2.1 (h1 0 e p rfl rfl).1,sB.of (by simpa using h) (fun i e' p' k1 k2=>h1 (i+1) e' p' (by simpa using k1) (by simpa using k2)) h2.2⟩
theorem sB.get {kt:KT}:∀{fD:List MapEntry} {es:List (PV×PV)} {j:Nat} {p:PV×PV},sB kt fD es->es[j]?=some p->∃e,fD[j]?=some e/\e.key=lF kt.wide p.1.cells/\bU kt.ks p.1.cells=true
 |[],[],j,p,_,h=>by simp at h
 |[],_::_,j,p,h,_=>h.elim
 |_::_,[],j,p,h,_=>h.elim
 |e::r,p'::q,j,p,h,hj=>by
  cases j with
  |zero=>simp at hj;subst hj;exact⟨e,rfl,h.1⟩
  |succ j=>
   obtain⟨e',k1,k2⟩:=sB.get (j:=j) h.2 (by simpa using hj);exact⟨e',by simpa using k1,k2⟩
section
variable {P:Program}{w:World}
theorem Zku {t:TypeId}{kt:KT}(hk:pR P 20 t=some kt){k:PV}(hl:bU kt.ks k.cells=true)(w:World):∀(fD:List MapEntry) (es:List (PV×PV)) (i:Nat),sB kt fD es->
  (Instr.findAsking t (lF kt.wide k.cells) fD i).run P w=.ok ((jR k es).bind fun j=>(fD[j]?).map fun e=>(i+j,e.val)) w
 |[],[],i,_=>by simp[Instr.findAsking,jR]
 |[],_::_,i,h=>h.elim
 |_::_,[],i,h=>h.elim
 |e::fD,p::es,i,h=>by
  obtain⟨⟨h1,h2⟩,h3⟩:=h;have hr:=Mx (w:=w) 20 t kt hk 10000 (by omega) k.cells p.1.cells hl h2;have ih:=Zku hk hl w fD es (i+1) h3;simp only[Instr.findAsking,Sem.run_bind,h1,Op.equal,Op.maxDepth,hr,Result.andThen_ok];obtain⟨pk,pv⟩:=p;unfold jR gR;cases lP k.cells pk.cells with
  |true=>simp
  |false=>
   simp only[Bool.false_eq_true,if_false,ih];congr 1;cases jR k es with
   |none=>rfl
   |some j=>
    simp only[uU,Option.bind_some,List.getElem?_cons_succ];rw[show i+1+j=i+(j+1) by omega]
theorem ZnN {d:Nat}{t:TypeId}{kt:KT}(hk:pR P d t=some kt)(hw:kt.wide=false){dd:TypeDesc}(hu:P.underlying t=some dd){l l':List PV}(h1:bU kt.ks l=true)(h2:bU kt.ks l'=true):
  Instr.sameNow dd (lF kt.wide l) (lF kt.wide l')=some (lP l l'):=by
 cases d with
 |zero=>simp[pR]at hk
 |succ d=>
  unfold pR at hk;rw[hu]at hk;cases dd
  case bool=>
   cases hk;obtain⟨x,rfl,hx⟩:=I5 h1;obtain⟨y,rfl,hy⟩:=I5 h2;obtain⟨a,rfl⟩:=NS hx;obtain⟨b,rfl⟩:=NS hy;simp[lF,qH,Instr.sameNow,lP,wK]
  case int q=>
   cases hk;obtain⟨x,rfl,hx⟩:=I5 h1;obtain⟨y,rfl,hy⟩:=I5 h2;obtain⟨a,rfl⟩:=NQ hx;obtain⟨b,rfl⟩:=NQ hy;simp[lF,qH,Instr.sameNow,lP,wK]
  case string=>
   cases hk;obtain⟨x,rfl,hx⟩:=I5 h1;obtain⟨y,rfl,hy⟩:=I5 h2;obtain⟨a,rfl⟩:=FG hx;obtain⟨b,rfl⟩:=FG hy;simp[lF,qH,Instr.sameNow,lP,wK,beq_toListBytes]
  case array n e=>
   simp only at hk;split at hk
   .split at hk
    .cases hk;cases hw
    .cases hk
   .cases hk
  case struct fs=>
   simp only at hk;split at hk
   .obtain⟨ks,_,rfl⟩:=dZ.1 hk;cases hw
   .cases hk
  all_goals (cases hk)
theorem Zd6 {t:TypeId}{kt:KT}(hk:pR P 20 t=some kt)(hw:kt.wide=false){dd:TypeDesc}(hu:P.underlying t=some dd){k:PV}(hl:bU kt.ks k.cells=true):∀(fD:List MapEntry) (es:List (PV×PV)) (i:Nat),sB kt fD es->
  Instr.findNow dd (lF kt.wide k.cells) fD i=some ((jR k es).bind fun j=>(fD[j]?).map fun e=>(i+j,e.val))
 |[],[],i,_=>by simp[Instr.findNow,jR]
 |[],_::_,i,h=>h.elim
 |_::_,[],i,h=>h.elim
 |e::fD,p::es,i,h=>by
  obtain⟨⟨h1,h2⟩,h3⟩:=h;have ih:=Zd6 hk hw hu hl fD es (i+1) h3;simp only[Instr.findNow,h1,ZnN hk hw hu hl h2];obtain⟨pk,pv⟩:=p;unfold jR gR;cases lP k.cells pk.cells with
  |true=>simp
  |false=>
   simp only[ih];congr 1;cases jR k es with
   |none=>rfl
   |some j=>
    simp only[uU,Option.bind_some,List.getElem?_cons_succ];rw[show i+1+j=i+(j+1) by omega]
theorem Zhc {t:TypeId}{kt:KT}(hk:pR P 20 t=some kt){k:PV}(hl:bU kt.ks k.cells=true)(w:World){fD:List MapEntry}{es:List (PV×PV)}(h:sB kt fD es):
  (Instr.findKey t (lF kt.wide k.cells) fD).run P w=.ok ((jR k es).bind fun j=>(fD[j]?).map fun e=>(j,e.val)) w:=by
 obtain⟨i,hi⟩:=Mp hk;cases hu:P.underlying t with
 |none=>rw[pR,hu]at hk;cases hk
 |some dd=>
  cases hw:kt.wide with
  |false=>
   have:=Zd6 hk hw hu hl fD es 0 h
   rw[hw]at this;simp only[Instr.findKey,Sem.run_bind,run_underlying hu,Result.andThen_ok,this,rX,Sem.run_pure]
  |true=>
   have ha:=Zku hk hl w fD es 0 h;rw[hw]at ha;simp only[rX]at ha;simp only[Instr.findKey,Sem.run_bind,run_underlying hu,Result.andThen_ok];cases fD with
   |nil=>
    cases es with
    |nil=>simp[Instr.findNow,jR]
    |cons=>exact h.elim
   |cons e r=>
    have hn:Instr.findNow dd (lF true k.cells) (e::r) 0=none:=by
     simp only[Instr.findNow,lF,if_true];cases dd<;>rfl
    rw[hn];exact ha
theorem ZeN {k:CK}{x:PV}(h:k.ok x=true)(n:Nat):Instr.sameBits n (qH x) (qH x)=true:=by
 cases k with
 |int k=>obtain⟨a,rfl⟩:=NQ h;simp[qH,Instr.sameBits]
 |bool=>obtain⟨a,rfl⟩:=NS h;simp[qH,Instr.sameBits]
 |str=>obtain⟨a,rfl⟩:=FG h;simp[qH,Instr.sameBits,beq_toListBytes]
theorem ZlP {kt:KT}{x:PV}(hx:kt.ok x=true)(w:World):(Instr.keyThatStays (lF kt.wide x.cells) (lF kt.wide x.cells)).run P w=.ok (lF kt.wide x.cells) w:=by
 have hs:Instr.sameBits 10000 (lF kt.wide x.cells) (lF kt.wide x.cells)=true:=by
  cases hw:kt.wide with
  |true=>
   have eS:bU kt.ks x.cells=true:=by
    cases x<;>simp_all [KT.ok,PV.cells]
   simp only[lF,if_true,Instr.sameBits,yT,BEq.rfl,Bool.true_and,rC,List.zip_map',iI];intro q hq;obtain⟨c,hc,rfl⟩:=hq;obtain⟨j,hj⟩:=iJ.1 hc;obtain⟨k,hk⟩:=Hj eS hj;exact ZeN hk _
  |false=>
   have eS:∃k:CK,k.ok (x.cells.headD .eU)=true:=by
    have:bU kt.ks [x]=true/\x.cells=[x]:=by cases x<;>simp_all [KT.ok,PV.cells]
    rw[this.2];exact Hj this.1 (j:=0) rfl
   obtain⟨k,hk⟩:=eS;exact ZeN hk _
 simp[Instr.keyThatStays,hs]
end
section
variable {P:Program}{N:Nat}{w0:World}{m0:Env w0}{pl:List Nat}{σ:AS}{ρ:Site->Loc}{m:Mem}{act:Act}{w:World}{o:Oper}{d:Nat}{K:AV->AS->Prop}
theorem Zik (w:World)(l:Nat)(o:Obj):cW [l] w (w.putObj l o):=⟨rfl,rfl,rfl,by simp,fun k hk hn=>World.putObj_heap_other (by simpa using hn)⟩
theorem bO.Ww {v:Value}{s:Site}(h:bO ρ m v (.mp s)):v=.map (some (ρ s).b):=by cases h;rfl
theorem bO.ZwC {v:Value}(h:bO ρ m v (.pv .cT)):v=.map none:=by
 cases h with
 |pv _ _ h=>cases h;rfl
theorem Zon {G:World->Prop}{op:BinOp}{t u:TypeId}{x y:Operand}{x' y':bA}{kt:KT}{neg:Bool}(hx:aV x=some x')(hy:aV y=some y')(hk:pR P 20 t=some kt)(hc:(kt.wide=true/\P.eqGuardType P.depth t=false)\/kt=⟨false,[.str]⟩)
  (hop:op=.eql/\neg=false\/op=.neq/\neg=true) (ho:o.op=.binOp op t x y u) (h:cC (.eqv neg kt x' y') d K σ) (hS:Sat N w0 m0 pl σ ρ m act w):dB G P σ ρ m o act w K:=by
 simp only[cC]at h;have h1:=hS.aV hx;have h2:=hS.aV hy;split at h
 .rename_i a b ea eb;obtain⟨ha,hb,hK⟩:=h;rw[ea]at h1;rw[eb]at h2;obtain⟨v1,c1⟩:=Ez ha h1.nG;obtain⟨v2,c2⟩:=Ez hb h2.nG;refine .pure hS (v:=.bool (gR a b != neg)) ?_ (.pv _ _ (.bool _)) hK;intro w' _;unfold execOp;simp only[ho,v1,v2];rcases hc with⟨hw,hg⟩|hc
  .have he:=Mx (w:=w') 20 t kt hk 10000 (by omega) _ _ c1 c2;simp only[lF,hw,if_true]at he ⊢;rcases hop with⟨rfl,rfl⟩|⟨rfl,rfl⟩
   .simp only[Sem.run_bind,run_eqGuard_agg w' _ t x y _ _ hg,Result.andThen_ok,run_eql_struct,he,Sem.run_pure];simp[gR]
   .simp only[Sem.run_bind,run_eqGuard_agg w' _ t x y _ _ hg,Result.andThen_ok,run_neq_struct,he,Sem.run_pure];simp[gR]
  .subst hc;obtain⟨x1,e1,X0⟩:=I5 c1;obtain⟨x2,e2,Rj⟩:=I5 c2;obtain⟨s1,rfl⟩:=FG X0;obtain⟨s2,rfl⟩:=FG Rj;simp only[gR,e1,e2,lF,Bool.false_eq_true,if_false,List.headD_cons,qH,lP,wK,Bool.and_true];rcases hop with⟨rfl,rfl⟩|⟨rfl,rfl⟩<;>simp[eqGuard,binOp,Op.stringOp]
 .exact h.elim
theorem Ztg {t:TypeId}(ho:o.op=.makeMap t none)(h:cC .F9 d K σ)(hS:Sat N w0 m0 pl σ ρ m act w):oA P N w0 m0 pl o act w K:=by
 have hr:(execOp act.eval o).run P w=.ok (.value (.map (some w.heap.size))) (w.alloc (.map #[] 0)):=by
  unfold execOp;simp[ho,Instr.makeMap]
 have hu:=Q7 ρ (.loc d 0) ⟨w.heap.size,0,0,true⟩;have hp:=hS.bG d;refine⟨_,_,.mp (.loc d 0),_,iK ρ (.loc d 0) ⟨w.heap.size,0,0,true⟩,m,.inl hr,h,(hp.ext (Ext.al w _)).add (qW.bG d σ) ⟨by rw[hu],#[],0,by rw[hu];exact World.alloc_heap_new w _,rfl,fun i e p k=>by simp at k⟩ (fun _ s b k r=>?_) (fun _ o=>hp.Es (fG _) o) (fun _=>.inl hp.keep.size),?_,fun _=>Ext.al _ _⟩
 .have hx:Ext w (w.alloc (.map #[] 0)):=Ext.al w _
  have:=hp.G1 k (((hp.bx s b k).dS (fun r=>hx.block _ (hp.lt k r))).1 r)
  simp at this
 .have:=bO.mp (ρ:=iK ρ (.loc d 0) ⟨w.heap.size,0,0,true⟩) (m:=m) (.loc d 0)
  rw[hu]at this;exact this
theorem Hg {e:TypeId}{z:PV}(h:rZ P e=some z)(w:World)(m:Mem):∃v,(zeroValue e).run P w=.ok v w/\dG m v z:=by
 unfold rZ at h;cases hv:gS P e with
 |none=>simp[hv]at h
 |some zv=>
  simp only[hv,Option.bind_some]at h;refine⟨zv,KE hv w,?_⟩;unfold YU at h;split at h
  .rename_i cs;obtain⟨xs,k1,rfl⟩:=dZ.1 h;obtain⟨k2,k3⟩:=Yo (m:=m) k1;obtain⟨_,z2,_⟩:=TD (v:=.agg cs) (x:=.agg xs) (by unfold YU;exact dZ.2 ⟨xs,k1,rfl⟩) m;exact .agg cs xs (by simpa using k2) (fun d hd=>z2 d (by simpa[Value.cells]using hd)) (fun j d c h1 h2=>k3 j d c (by simpa using h1) h2)
  .exact Lm h m
theorem Zqd {t k e:TypeId}{x i:Operand}{x' i':bA}{kt:KT}{z:PV}{ok:Bool}(hx:aV x=some x')(hi:aV i=some i')(hu:P.underlying t=some (.map k e))(hk:pR P 20 k=some kt)(hz:rZ P e=some z)
  (ho:o.op=.lookup t x i ok) (h:cC (.look kt z ok x' i') d K σ) (hS:Sat N w0 m0 pl σ ρ m act w):dB (fW σ ρ m w) P σ ρ m o act w K:=by
 simp only[cC]at h;have h1:=hS.aV hx;have h2:=hS.aV hi;split at h
 .rename_i key ei;obtain⟨cZ,h⟩:=h;rw[ei]at h2;obtain⟨v2,c2⟩:=Ez cZ h2.nG;split at h
  .rename_i s ex;rw[ex]at h1;split at h
   .rename_i es hb;obtain⟨o7,hK⟩:=h;obtain⟨hr,fD,clock,g1,g2,g3⟩:=hS.bx s _ hb;have hE:sB kt fD.toList es:=sB.of (m:=m) (by simpa using g2) (fun i e p k1 k2=>g3 i e p (by simpa using k1) k2) o7;obtain⟨zv,_,LR⟩:=Hg hz w m;have Je:∀w',(zeroValue e).run P w'=.ok zv w':=fun w'=>by
     obtain⟨v',q1,_⟩:=Hg hz w' m;obtain⟨v'',q2,_⟩:=Hg hz w m;unfold rZ at hz;cases hv:gS P e with
     |none=>simp[hv]at hz
     |some zz=>
      have a1:=KE hv w;have a2:=KE hv w';rw[‹(zeroValue e).run P w=.ok zv w›]at a1;cases a1;exact a2
    have kr:∀w',fW σ ρ m w w'->(execOp act.eval o).run P w'=.ok (.value (let r:=(jR key es).bind fun j=>(fD.toList[j]?).map fun e=>(j,e.val);let p:Value×Bool:=match r with
      |some (_,v)=>(v,true)
      |none=>(zv,false);if ok=true then .tuple #[p.1,.bool p.2]else p.1)) w':=by
     intro w' bT;have nL:w'.heap[(ρ s).b]?=some (.map fD clock):=(bT.2 s _ hb hr).trans g1;unfold execOp;simp only[ho,v2,h1.Ww,Sem.run_bind,Instr.lookup,run_underlying hu,Result.andThen_ok,MapKept.run_getObj_map nL,Sem.run_pure,XQ _ 20 k kt hk 10000 (by omega) _ c2 w',Zhc hk c2 w' hE];cases(jR key es).bind fun j=>(fD.toList[j]?).map fun e=>(j,e.val)with
     |none=>cases ok<;>simp[Je w']
     |some q=>cases ok<;>simp
    refine⟨_,gI ok (eX key es) z,kr,?_,hK⟩;rw[ZiK];cases Bh:jR key es with
    |none=>
     simp only[Option.bind_none];cases ok with
     |true=>exact .pv _ _ (.bL _ _ rfl (fun j dd c e1 e2=>by
       match j with
       |0=>simp at e1 e2;subst e1 e2;exact LR
       |1=>simp at e1 e2;subst e1 e2;exact .bool _
       |j+2=>simp at e2))
     |false=>exact .pv _ _ LR
    |some j=>
     obtain⟨p,hp,_⟩:=Yi Bh;obtain⟨en,he,_⟩:=hE.get hp;have hv:=(g3 j en p (by simpa using he) hp).2;simp only[Option.bind_some,he,hp,uU];cases ok with
     |true=>exact .pv _ _ (.bL _ _ rfl (fun j dd c e1 e2=>by
       match j with
       |0=>simp at e1 e2;subst e1 e2;exact hv
       |1=>simp at e1 e2;subst e1 e2;exact .bool _
       |j+2=>simp at e2))
     |false=>exact .pv _ _ hv
   .exact h.elim
  .rename_i ex;rw[ex]at h1;obtain⟨zv,Rf,LR⟩:=Hg hz w m;have kr:∀w',(execOp act.eval o).run P w'=.ok (.value (if ok=true then .tuple #[zv,.bool false]else zv)) w':=by
    intro w';have a2:(zeroValue e).run P w'=.ok zv w':=by
     unfold rZ at hz;cases hv:gS P e with
     |none=>simp[hv]at hz
     |some zz=>
      have a1:=KE hv w;rw[Rf]at a1;cases a1;exact KE hv w'
    have hn:∀w',(Instr.findKey k (lF kt.wide key.cells) []).run P w'=.ok none w':=fun w'=>by
     have:=Zhc (fD:=[]) (es:=[]) hk c2 w' trivial
     simpa[jR]using this
    unfold execOp;simp only[ho,v2,h1.ZwC,Sem.run_bind,Instr.lookup,run_underlying hu,Result.andThen_ok,Sem.run_pure,XQ _ 20 k kt hk 10000 (by omega) _ c2 w',hn w'];cases ok<;>simp[a2]
   refine⟨_,gI ok none z,fun w' _=>kr w',?_,h⟩;cases ok with
   |true=>exact .pv _ _ (.bL _ _ rfl (fun j dd c e1 e2=>by
     match j with
     |0=>simp at e1 e2;subst e1 e2;exact LR
     |1=>simp at e1 e2;subst e1 e2;exact .bool _
     |j+2=>simp at e2))
   |false=>exact .pv _ _ LR
  .exact h.elim
 .exact h.elim
theorem Zmt {t k e:TypeId}{x i v:Operand}{x' i' v':bA}{kt:KT}(hx:aV x=some x')(hi:aV i=some i')(hv:aV v=some v')(hu:P.underlying t=some (.map k e))(hk:pR P 20 k=some kt)
  (ho:o.op=.mapUpdate t x i v\/o.op=.insert t x i v) (h:cC (.iK kt x' i' v') d K σ) (hS:Sat N w0 m0 pl σ ρ m act w):oA P N w0 m0 pl o act w K:=by
 simp only[cC]at h;have h1:=hS.aV hx;have h2:=hS.aV hi;split at h
 .rename_i key ei;obtain⟨cZ,h⟩:=h;rw[ei]at h2;obtain⟨v2,c2⟩:=Ez cZ h2.nG;split at h
  .rename_i s ex;rw[ex]at h1;obtain⟨m1,G6,hF⟩:=hS.wV (σ.o v');generalize HA:σ.wV (σ.o v')=τ at h hF;split at h
   .rename_i es val hb hvv;obtain⟨o7,hK⟩:=h;have h3:=hF.aV hv;rw[hvv]at h3;have hvr:=h3.nG;have hkr:dG m1 (act.eval i) key:=h2.nG.mono G6;obtain⟨hr,fD,clock,g1,g2,g3⟩:=hF.bx s _ hb;have hE:sB kt fD.toList es:=sB.of (m:=m1) (by simpa using g2) (fun i e p k1 k2=>g3 i e p (by simpa using k1) k2) o7;have fin:∀zQ E7,(Instr.mapUpdate t (.map (some (ρ s).b)) (act.eval i) (act.eval v)).run P w=.ok () (w.putObj (ρ s).b (.map zQ E7))->zQ.size=(mK key val es).length->
      (∀(j:Nat) (e:MapEntry) (p:PV×PV),zQ[j]?=some e->(mK key val es)[j]?=some p->dG m1 e.key p.1/\dG m1 e.val p.2)->oA P N w0 m0 pl o act w K:=by
     intro zQ E7 dF e1 e2;have wB:(execOp act.eval o).run P w=.ok .skip (w.putObj (ρ s).b (.map zQ E7)):=by
      unfold execOp;rcases ho with ho|ho<;>simp only[ho,h1.Ww,Sem.run_bind,dF,Result.andThen_ok,Sem.run_pure]
     refine⟨undef,_,.any,_,ρ,m1,.inr ⟨wB,rfl⟩,hK,hF.Ew hb hr (Zik w _ _) ⟨hr,zQ,E7,World.putObj_heap_same (qE.1 g1).1,e1,e2⟩,.any _,fun hm=>?_⟩;rcases ho with ho|ho<;>(rw[ho]at hm;cases hm)
    rw[ZkF]at fin;have dX:=Zhc hk c2 w hE;cases Bh:jR key es with
    |none=>
     rw[Bh]at fin dX;simp only[Option.bind_none]at dX;refine fin (fD.push { key:=act.eval i,val:=act.eval v,born:=clock }) (clock+1) ?_ (by simp[g2]) (fun j en p k1 k2=>?_)
     .simp only[Instr.mapUpdate,Sem.run_bind,run_underlying hu,Result.andThen_ok,MapKept.run_getObj_map g1,v2,XQ _ 20 k kt hk 10000 (by omega) _ c2 w,dX,MapKept.run_setObj_map _ g1];rfl
     .rw[Array.getElem?_push]at k1;dsimp only at k2;rw[yS]at k2;split at k1
      .rename_i hj;cases k1;rw[if_neg (by omega)]at k2
       have:p=(key,val):=by
        rw[hj,g2,Nat.sub_self]at k2;simpa using k2.symm
       subst this;exact⟨hkr,hvr⟩
      .have hj:=(qE.1 k1).1;rw[if_pos (by omega)]at k2;exact g3 j en p k1 k2
    |some j0=>
     rw[Bh]at fin dX;obtain⟨p0,BZ,S6⟩:=Yi Bh;obtain⟨en0,he0,QD,Um⟩:=hE.get BZ;have Ca:fD[j0]?=some en0:=by simpa using he0
     simp only[Option.bind_some,he0,uU]at dX;have wA:en0.key=act.eval i:=by
      rw[QD,v2];rw[ZrR c2 Um S6]
     have bT:=ZlP (P:=P) cZ w;refine fin (fD.modify j0 fun e=>{ e with key:=act.eval i,val:=act.eval v }) clock ?_ (by simp[g2]) (fun j en p k1 k2=>?_)
     .rw[<-v2]at bT dX;have MG:=XQ (P:=P) false 20 k kt hk 10000 (by omega) _ c2 w;rw[<-v2]at MG;simp only[Instr.mapUpdate,Sem.run_bind,run_underlying hu,Result.andThen_ok,MapKept.run_getObj_map g1,MG,dX,Ca,uU,rW,wA,bT,MapKept.run_setObj_map _ g1];rfl
     .rw[Array.getElem?_modify]at k1;dsimp only at k2;split at k1
      .rename_i hj;subst hj;rw[Ca,uU]at k1;cases k1;have aI:=(bZ.1 BZ).1;rw[O2 aI]at k2;cases k2;exact⟨hkr,hvr⟩
      .rename_i hj;rw[List.getElem?_set_ne hj]at k2;exact g3 j en p k1 k2
   .exact h.elim
  .exact h.elim
 .exact h.elim
theorem Zp4 {t k e:TypeId}{c:Call}{x:Operand}{x':bA}(hx:aV x=some x')(hu:P.underlying t=some (.map k e))(hc:c.callee=.builtin .len)(ha:c.args.toList=[x])(ht:c.argTypes.toList=[t])(ho:o.op=.call c)
  (h:cC (.BB x') d K σ) (hS:Sat N w0 m0 pl σ ρ m act w):dB (fW σ ρ m w) P σ ρ m o act w K:=by
 simp only[cC]at h;have h1:=hS.aV hx;have fX:c.args=#[x]:=yU.1 (by simpa using ha);have sP:c.argTypes=#[t]:=yU.1 (by simpa using ht);have ex:∀{w':World} {v:Value},(Builtin.len_ #[t] o.type #[act.eval x]).run P w'=.ok v w'->(execOp act.eval o).run P w'=.ok (.value v) w':=fun h=>by
  unfold execOp;simp only[ho];simp[resolve,hc,fX,sP,invoke,builtin,h]
 split at h
 .rename_i s Vv;rw[Vv]at h1;split at h
  .rename_i es hb;obtain⟨hr,fD,clock,g1,g2,g3⟩:=hS.bx s _ hb;refine⟨.int .i64 es.length,_,fun w' bT=>ex ?_,.pv _ _ (.int _ _),h⟩;have nL:w'.heap[(ρ s).b]?=some (.map fD clock):=(bT.2 s _ hb hr).trans g1;simp[Builtin.len_,run_underlying hu,h1.Ww,MapKept.run_getObj_map nL,goInt,g2]
  .exact h.elim
 .rename_i Vv;rw[Vv]at h1;refine⟨.int .i64 0,_,fun w' _=>ex ?_,.pv _ _ (.int _ _),h⟩;simp[Builtin.len_,run_underlying hu,h1.ZwC,goInt]
 .exact h.elim
theorem Flat.take {m:Mem}{ds:List Value}{n:Nat}{xs:List PV}(h:Flat m ds n xs)(k:Nat):Flat m (ds.take (k*n)) n (xs.take k):=by
 refine⟨?_,fun u hu=>h.one u (List.mem_of_mem_take hu),fun i x hi=>?_⟩
 .rw[gJ,gJ,h.len];rcases Nat.le_total k xs.length with h1|h1
  .rw[Nat.min_eq_left (I1 _ h1),Nat.min_eq_left h1]
  .rw[Nat.min_eq_right (I1 _ h1),Nat.min_eq_right h1]
 .rw[mG]at hi;split at hi
  .rename_i qO;obtain⟨k1,k2⟩:=h.get i x hi;refine⟨k1,fun j c hj=>?_⟩;obtain⟨u,q1,q2⟩:=k2 j c hj;have rS:j<n:=by have:=(bZ.1 hj).1;omega
   have:=V4 (n:=n) qO
   exact⟨u,by rw[mG,if_pos (by omega)];exact q1,q2⟩
  .cases hi
theorem Sat.over (hS:Sat N w0 m0 pl σ ρ m act w){s:Site}{e n lo:Nat}{xs zs:List PV}{ds:List Value}(hb:σ.b s=some (.arr e n xs))(hr:(ρ s).real=true){cs:Array Value}(g1:w.heap[(ρ s).b]?=some (.cells cs e (0,0)))(hf:Flat m ds n zs)(hl:lo+zs.length<=xs.length):
  (ρ s).o+lo*n+ds.length<=cs.size/\Sat N w0 m0 pl (σ.set s (.arr e n (aR xs lo zs))) ρ m act (w.setRow (ρ s).b (aR cs.toList ((ρ s).o+lo*n) ds).toArray):=by
 obtain⟨hn,hB|⟨_,iH,Dk,g2,g3,g4,g5⟩⟩:=hS.bx s _ hb
 .rw[hB.1]at hr;cases hr
 rw[g1]at Dk;cases Dk;have gN:cs.toList.length=cs.size:=uV;have dE:(ρ s).o+lo*n+ds.length<=cs.size:=by
  have h1:(lo+zs.length)*n<=(ρ s).cap*n:=I1 _ (by omega);rw[Nat.add_mul]at h1;rw[hf.len];omega
 refine⟨dE,hS.Ew hb hr (cW.setRow w _ _) ⟨hn,.inr ⟨hr,_,setRow_heap w _ cs _ e _ g1,?_,?_,g4,fun i x hi=>?_⟩⟩⟩
 .rw[yT,V1 (by rw[gN];exact dE),gN];exact g2
 .rw[V1 hl];exact g3
 .rw[A0 hl]at hi;have old:∀(i:Nat) (x:PV),xs[i]?=some x->(i<lo\/lo+zs.length<=i)->x.cells.length=n/\∀(j:Nat) (c:PV),x.cells[j]?=some c->∃d,(aR cs.toList ((ρ s).o+lo*n) ds).toArray[(ρ s).o+i*n+j]?=some d/\d.oneCell'=true/\dG m d c:=by
   intro i x hx hi;obtain⟨k1,k2⟩:=g5 i x hx;refine⟨k1,fun j c hj=>?_⟩;obtain⟨d,q1,q2,q3⟩:=k2 j c hj;refine⟨d,?_,q2,q3⟩;have rS:j<n:=by have:=(bZ.1 hj).1;omega
   rw[I0,A0 (by rw[gN];exact dE)];rcases hi with hi|hi
   .have:=V4 (n:=n) hi
    rw[if_pos (by omega),O3];exact q1
   .have h1:(lo+zs.length)*n<=i*n:=I1 _ hi;rw[Nat.add_mul]at h1;rw[if_neg (by omega),if_neg (by rw[hf.len];omega),O3];exact q1
  split at hi
  .rename_i h1;exact old i x hi (.inl h1)
  .split at hi
   .rename_i h1 h2;obtain⟨k1,k2⟩:=hf.get (i-lo) x hi;refine⟨k1,fun j c hj=>?_⟩;obtain⟨u,q1,q2⟩:=k2 j c hj;have aI:=(bZ.1 q1).1;have e1:i*n=lo*n+(i-lo)*n:=by rw[<-Nat.add_mul];congr 1;omega
    refine⟨u,?_,hf.one u (dK q1),q2⟩;rw[I0,A0 (by rw[gN];exact dE),if_neg (by omega),if_pos (by omega),<-q1];congr 1;omega
   .rename_i h1 h2;exact old i x hi (.inr (by omega))
theorem ZkK {e:TypeId}(g:Nat)(q:Nat){cs:Array Value}{ds:List Value}(g1:w.heap[g]?=some (.cells cs e (0,0)))(dE:q+ds.length<=cs.size)(h1:∀u∈ds,u.oneCell'=true):
  (storeCells ⟨g,q,none⟩ ds).run P w=.ok () (w.setRow g (aR cs.toList q ds).toArray):=by
 have bT:=run_storeCells_at P g q e ds 0 cs w g1 (by simpa using dE) h1;unfold aR;simpa only[Nat.add_zero]using bT
theorem Zeo {α:Type}(l:List α)(k:Nat):aR l k []=l:=by simp[aR]
theorem Sat.same (hS:Sat N w0 m0 pl σ ρ m act w){s:Site}{b:aJ}(hb:σ.b s=some b):Sat N w0 m0 pl (σ.set s b) ρ m act w:=by
 have nL:∀s' b',(σ.set s b).b s'=some b'->σ.b s'=some b':=fun s' b' k=>by
  rw[AS.VW]at k;split at k
  .rename_i e;rw[e,hb];exact k
  .exact k
 exact⟨hS.sE,hS.sz,hS.tm,fun s' b' k=>hS.bx s' b' (nL s' b' k),fun s1 s2 b1 b2 i k1 k2=>hS.dY s1 s2 b1 b2 i (nL _ _ k1) (nL _ _ k2),hS.mem,fun s' b' i k=>hS.eL s' b' i (nL _ _ k),fun s' b' i k=>hS.fL s' b' i (nL _ _ k),hS.keep,hS.base,hS.qC,hS.par⟩
theorem ZqG {t u e n:TypeId}{c:Call}{x y:Operand}{x' y':bA}(hx:aV x=some x')(hy:aV y=some y')(he:eG P t=some (e,n,none))(hn:0<n)(hc:c.callee=.builtin .copy)(ha:c.args.toList=[x,y])(ht:c.argTypes.toList=[t,u])(ho:o.op=.call c)
  (h:cC (.copy n x' y') d K σ) (hS:Sat N w0 m0 pl σ ρ m act w):oA P N w0 m0 pl o act w K:=by
 simp only[cC]at h;obtain⟨hu,hs⟩:=KF he;have h1:=hS.aV hx;have fX:c.args=#[x,y]:=yU.1 (by simpa using ha);have sP:c.argTypes=#[t,u]:=yU.1 (by simpa using ht);have ex:∀{w':World} {v:Value},(Builtin.copy_ #[t,u] o.type #[act.eval x,act.eval y]).run P w=.ok v w'->(execOp act.eval o).run P w=.ok (.value v) w':=fun h=>by
  unfold execOp;simp only[ho];simp[resolve,hc,fX,sP,invoke,builtin,h]
 have hm:o.op.vP=true->False:=fun hm=>by rw[ho]at hm;cases hm
 split at h
 .rename_i ys OY;obtain⟨ya,yc,yd,BK,C5,HC⟩:=Fo hn hS (hS.aV hy) OY;have first:∀k,(Builtin.firstCells n (ys.take k).length (.slice ya ys.length yc)).run P w=.ok (yd.take (k*n)).toArray w:=fun k=>
   Zf1 (C5.take k) (fun j u hj=>HC j u (by rw[mG]at hj;split at hj;exact hj;cases hj)) w (fun _=>rfl) _ rfl ys.length yc
  split at h
  .rename_i nl e1;rw[e1]at h1;obtain⟨a,hv,jJ⟩:=h1.VX;refine⟨_,w,_,σ,ρ,m,.inl (ex (v:=.int .i64 0) (w':=w) ?_),h,hS,.pv _ _ (.int _ _),fun q=>(hm q).elim⟩;have f0:=first 0;simp only[List.take_zero,List.length_nil,Nat.zero_mul]at f0;cases a<;>simp[Builtin.copy_,run_underlying hu,hv,BK,Builtin.lenOf,Go.Proofs.YtlllhbmbnjnoiaaGreatDoor.run_sizeOf hs,f0,storeCells,goInt]
  .rename_i s n' lo len e1;rw[e1]at h1;split at h
   .rename_i e' eT xs hb;obtain⟨⟨rfl,rfl,hl⟩,hK⟩:=h;have Tc:(ys.take len).length=min ys.length len:=by rw[gJ];omega
    rcases h1.DQ with⟨cap,hv,c0,c1,c2⟩|⟨a,hv,c0,jJ⟩
    .obtain⟨xF,hB|⟨hr,cs,g1,g2,g3,g4,g5⟩⟩:=hS.bx s _ hb
     .rw[hB.1]at c2;cases c2
     obtain⟨dE,mV⟩:=hS.over hb hr g1 (C5.take len) (lo:=lo) (by rw[gJ];omega);refine⟨_,_,_,_,ρ,m,.inl (ex (v:=.int .i64 (ys.take len).length) ?_),hK,mV,.pv _ _ (.int _ _),fun q=>(hm q).elim⟩;have f0:=first len;rw[Tc]at f0 ⊢;have bT:=ZkK (P:=P) (w:=w) (ρ s).b ((ρ s).o+lo*eT) g1 dE (C5.take len).one;simp[Builtin.copy_,run_underlying hu,hv,BK,Builtin.lenOf,Go.Proofs.YtlllhbmbnjnoiaaGreatDoor.run_sizeOf hs,f0,bT,goInt]
    .subst c0;simp only[List.take_zero,Zeo]at hK;refine⟨_,w,_,_,ρ,m,.inl (ex (v:=.int .i64 ([]:List PV).length) (w':=w) ?_),hK,hS.same hb,.pv _ _ (.int _ _),fun q=>(hm q).elim⟩;have f0:=first 0;simp only[List.take_zero,List.length_nil,Nat.zero_mul]at f0;cases a<;>simp[Builtin.copy_,run_underlying hu,hv,BK,Builtin.lenOf,Go.Proofs.YtlllhbmbnjnoiaaGreatDoor.run_sizeOf hs,f0,storeCells,goInt]
   .exact h.elim
  .exact h.elim
 .exact h.elim
theorem ZoF {t e n:TypeId}{z:PV}{c:Call}{x:Operand}{x':bA}(hx:aV x=some x')(he:eG P t=some (e,n,none))(hz:rZ P e=some z)(hn:0<n)(OW:z.cells.length=n)(hc:c.callee=.builtin .clear)(ha:c.args.toList=[x])(ht:c.argTypes.toList=[t])(ho:o.op=.call c)
  (h:cC (.clear n z x') d K σ) (hS:Sat N w0 m0 pl σ ρ m act w):oA P N w0 m0 pl o act w K:=by
 simp only[cC]at h;obtain⟨hu,hs⟩:=KF he;have h1:=hS.aV hx;have fX:c.args=#[x]:=yU.1 (by simpa using ha);have sP:c.argTypes=#[t]:=yU.1 (by simpa using ht);have ex:∀{w':World} {v:Value},(Builtin.clear_ #[t] o.type #[act.eval x]).run P w=.ok v w'->(execOp act.eval o).run P w=.ok (.value v) w':=fun h=>by
  unfold execOp;simp only[ho];simp[resolve,hc,fX,sP,invoke,builtin,h]
 have hm:o.op.vP=true->False:=fun hm=>by rw[ho]at hm;cases hm
 have X1:bO ρ m (.tuple #[]) (.pv (.bL [])):=.pv _ _ (.bL _ _ rfl (fun j d c e1=>by simp at e1));unfold rZ at hz;cases PE:gS P e with
 |none=>simp[PE]at hz
 |some zv=>
 simp only[PE,Option.bind_some]at hz;obtain⟨z1,z2,z3⟩:=TD hz m;have tT:zv.cells.size=n:=by omega
 have ZU:=KE PE w;split at h
 .rename_i nl e1;rw[e1]at h1;obtain⟨a,hv,jJ⟩:=h1.VX;refine⟨_,w,_,σ,ρ,m,.inl (ex (v:=.tuple #[]) (w':=w) ?_),h,hS,X1,fun q=>(hm q).elim⟩;cases a<;>simp[Builtin.clear_,run_underlying hu,hv]
 .rename_i s n' lo len e1;rw[e1]at h1;split at h
  .rename_i e' eT xs hb;obtain⟨⟨rfl,rfl,hl⟩,hK⟩:=h;rcases h1.DQ with⟨cap,hv,c0,c1,c2⟩|⟨a,hv,c0,jJ⟩
   .by_cases hlen:len=0
    .subst hlen;simp only[List.replicate_zero,Zeo]at hK;refine⟨_,w,_,_,ρ,m,.inl (ex (v:=.tuple #[]) (w':=w) ?_),hK,hS.same hb,X1,fun q=>(hm q).elim⟩;simp[Builtin.clear_,run_underlying hu,hv]
    .obtain⟨xF,hB|⟨hr,cs,g1,g2,g3,g4,g5⟩⟩:=hS.bx s _ hb
     .rw[hB.1]at c2;cases c2
     have N4:∀j,j<eT->∃hj:j<zv.cells.size,zv.cells[j]! = zv.cells[j]:=fun j hj=>⟨by omega,getElem!_pos zv.cells j (by omega)⟩
     have kJ:∀k,k<len*eT->(Builtin.zeroCells zv.cells len).toList[k]?=some (zv.cells[k%eT]!):=fun k hk=>by
      rw[O3];simp only[Builtin.zeroCells,Array.getElem?_map,Array.getElem?_range,tT];rw[if_pos hk];rfl
     have Z1:Flat m (Builtin.zeroCells zv.cells len).toList eT (List.replicate len z):=by
      refine⟨by rw[uV,Zca,tT,List.length_replicate],fun u hu=>?_,fun i x hi=>?_⟩
      .obtain⟨k,hk⟩:=iJ.1 hu;have aI:k<len*eT:=by
        have:=(bZ.1 hk).1
        rw[uV,Zca,tT]at this;exact this
       rw[kJ k aI]at hk;cases hk;obtain⟨hj,e1⟩:=N4 (k%eT) (Nat.mod_lt _ hn);rw[e1];exact z2 _ (Array.getElem_mem hj)
      .rw[List.getElem?_replicate]at hi;split at hi
       .rename_i Tx;cases hi;refine⟨OW,fun j c hj=>?_⟩;have rS:j<eT:=by have:=(bZ.1 hj).1;omega
        obtain⟨X9,e1⟩:=N4 j rS;have yG:(i*eT+j)%eT=j:=by rw[Nat.add_comm,Nat.add_mul_mod_self_right,Nat.mod_eq_of_lt rS]
        have:=V4 (n:=eT) Tx
        exact⟨zv.cells[j],by rw[kJ _ (by omega),yG,e1],z3 j _ c (uT X9) hj⟩
       .cases hi
     obtain⟨dE,mV⟩:=hS.over hb hr g1 Z1 (lo:=lo) (by rw[List.length_replicate];exact hl);refine⟨_,_,_,_,ρ,m,.inl (ex (v:=.tuple #[]) ?_),hK,mV,X1,fun q=>(hm q).elim⟩;have bT:=ZkK (P:=P) (w:=w) (ρ s).b ((ρ s).o+lo*eT) g1 dE Z1.one;obtain⟨Qv,rfl⟩:∃k,len=k+1:=⟨len-1,by omega⟩;simp[Builtin.clear_,run_underlying hu,hv,ZU,bT]
   .subst c0;simp only[List.replicate_zero,Zeo]at hK;refine⟨_,w,_,_,ρ,m,.inl (ex (v:=.tuple #[]) (w':=w) ?_),hK,hS.same hb,X1,fun q=>(hm q).elim⟩;cases a<;>simp[Builtin.clear_,run_underlying hu,hv]
  .exact h.elim
 .exact h.elim
theorem Zkr {n:Nat}{x:Operand}{x' xI:bA}(hx:aV x=some x')(hn:0<n/\n<=1000000)
  (run:∀(A:Addr) (z:Int) (k:IntKind),act.eval x=.pointer (some A)->σ.o xI=.pv (.int k z)->0<=z->z<=n->(execOp act.eval o).run P w=.ok (.value (.slice (some A) z.toNat n)) w)
  (h:cC (.ED n x' xI) d K σ) (hS:Sat N w0 m0 pl σ ρ m act w):oA P N w0 m0 pl o act w K:=by
 simp only[cC]at h;have h1:=hS.aV hx;split at h
 .rename_i k z hz;split at h
  .rename_i s off ex;rw[ex]at h1;have hv:=h1.DP;split at h
   .rename_i gE hb;split at h
    .rename_i xs EH;obtain⟨⟨z0,z1,z2⟩,hK⟩:=h;obtain⟨_,mV,hm,nD⟩:=hS.Wz hb EH;obtain⟨ds,g1,g2,g3⟩:=Zge (hS.bx s _ hb) EH hm nD;have hlen:((xs.drop off).take z.toNat).length=z.toNat:=by rw[gJ,uH];omega
     have get:∀(i:Nat) (y:PV),((xs.drop off).take z.toNat)[i]?=some y->xs[off+i]?=some y:=fun i y hy=>by
      rw[mG]at hy;split at hy
      .rwa [mS]at hy
      .cases hy
     refine⟨_,w,_,_,ρ,_,.inl (run _ z k hv hz z0 z1),hK,mV,.pv _ _ ?_,fun _=>Ext.tI _⟩;have hh:=dG.aF (m:=m.with w (ρ s)) (some ⟨(ρ s).b,off,none⟩) n false 1 ((xs.drop off).take z.toNat) (fun i=>match ds[off+i]? with|some d=>[d]|none=>[]) (by omega) (by omega) (fun e=>by cases e) (fun A hA=>by cases hA;rfl) (fun e=>by cases e)
      (fun i y hy=>?_) (fun i y hy=>?_) (fun i y j d c hy hd hc=>?_)
     .rw[hlen]at hh;exact hh
     .have S0:=get i y hy;have aI:off+i<ds.length:=by rw[g1];exact(bZ.1 S0).1
      have hd:=bB aI;refine⟨_,_,rfl,?_⟩;rw[hd]
      have:=g2.get _ _ hd
      rw[rX]at this;rw[Nat.mul_one];exact⟨this,trivial⟩
     .have S0:=get i y hy;have aI:off+i<ds.length:=by rw[g1];exact(bZ.1 S0).1
      have hd:=bB aI;rw[hd];obtain⟨q1,q2⟩:=g3 _ _ _ hd S0;refine⟨rfl,by rw[q2.Kr q1];rfl,fun u hu=>by simp at hu;subst hu;exact q1⟩
     .have S0:=get i y hy;have aI:off+i<ds.length:=by rw[g1];exact(bZ.1 S0).1
      have HX:=bB aI;rw[HX]at hd;obtain⟨q1,q2⟩:=g3 _ _ _ HX S0;rw[q2.Kr q1]at hc;cases j with
      |zero=>simp at hd hc;subst hd hc;exact q2
      |succ j=>simp at hd
    .exact h.elim
   .exact h.elim
  .rename_i xs ex;rw[ex]at h1;obtain⟨⟨z0,z1,z2⟩,hK⟩:=h;obtain⟨b,off,ds,hv,g1,g2,g3,g4⟩:=h1.Et;have hlen:(xs.take z.toNat).length=z.toNat:=by rw[gJ];omega
   have get:∀(i:Nat) (y:PV),(xs.take z.toNat)[i]?=some y->xs[i]?=some y:=fun i y hy=>by
    rw[mG]at hy;split at hy
    .exact hy
    .cases hy
   refine⟨_,w,_,_,ρ,m,.inl (run _ z k hv hz z0 z1),hK,hS,.pv _ _ ?_,fun _=>Ext.tI _⟩;have hh:=dG.aF (m:=m) (some ⟨b,off,none⟩) n false 1 (xs.take z.toNat) (fun i=>match ds[i]? with|some d=>[d]|none=>[]) (by omega) (by omega) (fun e=>by cases e) (fun A hA=>by cases hA;rfl) (fun e=>by cases e)
    (fun i y hy=>?_) (fun i y hy=>?_) (fun i y j d c hy hd hc=>?_)
   .rw[hlen]at hh;exact hh
   .have S0:=get i y hy;have aI:i<ds.length:=by rw[g2];exact(bZ.1 S0).1
    have hd:=bB aI;refine⟨_,_,rfl,?_⟩;rw[hd,Nat.mul_one];exact⟨g1.get _ _ hd,trivial⟩
   .have S0:=get i y hy;have aI:i<ds.length:=by rw[g2];exact(bZ.1 S0).1
    have hd:=bB aI;rw[hd];have q1:=g3 _ (zX aI);have q2:=g4 _ _ _ hd S0;refine⟨rfl,by rw[q2.Kr q1];rfl,fun u hu=>by simp at hu;subst hu;exact q1⟩
   .have S0:=get i y hy;have aI:i<ds.length:=by rw[g2];exact(bZ.1 S0).1
    have HX:=bB aI;rw[HX]at hd;have q1:=g3 _ (zX aI);have q2:=g4 _ _ _ HX S0;rw[q2.Kr q1]at hc;cases j with
    |zero=>simp at hd hc;subst hd hc;exact q2
    |succ j=>simp at hd
  .exact h.elim
 .exact h.elim
theorem Zsy {t e:TypeId}{n:Nat}{x hi:Operand}{x' xI:bA}(hx:aV x=some x')(hh:aV hi=some xI)(he:eG P t=some (e,1,some n))(hn:0<n/\n<=1000000)(ho:o.op=.slice t x none (some hi) none)
  (h:cC (.ED n x' xI) d K σ) (hS:Sat N w0 m0 pl σ ρ m act w):oA P N w0 m0 pl o act w K:=by
 obtain⟨hu,hs⟩:=Hl he;refine Zkr hx hn (fun A z k ex hz z0 z1=>?_) h hS;have h2:=hS.aV hh;rw[hz]at h2;have ez:=h2.U7;unfold execOp;simp only[ho,ex,Sem.run_bind];have dA:¬n=0:=by omega
 simp[Instr.sliceAt,run_underlying hu,Instr.sliceBounds,run_sizeOf hs,ez,Instr.sliceBound,asIntOf,z0,z1,Instr.sureAddr,Addr.add]
theorem Zpn {t e:TypeId}{n:Nat}{x:Operand}{x':bA}(hx:aV x=some x')(he:eG P t=some (e,1,some n))(hn:0<n/\n<=1000000)(ho:o.op=.slice t x none none none)
  (h:cC (.ED n x' (.c (.int .i64 n))) d K σ) (hS:Sat N w0 m0 pl σ ρ m act w):oA P N w0 m0 pl o act w K:=by
 obtain⟨hu,hs⟩:=Hl he;refine Zkr hx hn (fun A z k ex hz z0 z1=>?_) h hS;have Je:(n:Int)=z:=by
  have P5:AV.pv (.int .i64 n)=AV.pv (.int k z):=hz;injection P5 with Jd;injection Jd
 subst Je;unfold execOp;simp only[ho,ex,Sem.run_bind];have dA:¬n=0:=by omega
 simp[Instr.sliceAt,run_underlying hu,Instr.sliceBounds,run_sizeOf hs,Instr.sureAddr,Addr.add]
theorem Zin {W:Nat}:∀{k:Nat} {xs:List PV} {i:Nat} {y:PV},(oG W k xs)[i]?=some y->i<k/\y=.agg ((xs.drop (i*W)).take W)
 |0,xs,i,y,h=>by simp[oG]at h
 |k+1,xs,0,y,h=>by
  simp only[oG,List.getElem?_cons_zero,Option.some.injEq]at h;exact⟨by omega,by rw[<-h,Nat.zero_mul,List.drop_zero]⟩
 |k+1,xs,i+1,y,h=>by
  simp only[oG,List.getElem?_cons_succ]at h;obtain⟨h1,h2⟩:=Zin h;refine⟨by omega,?_⟩;rw[h2,List.drop_drop];congr 3;rw[Nat.succ_mul];omega
theorem Zim {W:Nat}:∀{k:Nat} {xs:List PV},(oG W k xs).length=k
 |0,xs=>rfl
 |k+1,xs=>by simp only[oG,pB,Zim]
theorem Zpl {n W:Nat}{x:Operand}{x' xI:bA}(hx:aV x=some x')(hn:0<n/\n<=1000000)
  (run:∀(A:Addr) (z:Int) (k:IntKind),act.eval x=.pointer (some A)->σ.o xI=.pv (.int k z)->0<=z->z<=n->(execOp act.eval o).run P w=.ok (.value (.slice (some A) z.toNat n)) w)
  (h:cC (.YI n W x' xI) d K σ) (hS:Sat N w0 m0 pl σ ρ m act w):oA P N w0 m0 pl o act w K:=by
 simp only[cC]at h;have h1:=hS.aV hx;split at h
 .rename_i k z hz;split at h
  .rename_i s off ex;rw[ex]at h1;have hv:=h1.DP;split at h
   .rename_i gE hb;split at h
    .rename_i xs EH;obtain⟨⟨z0,z1,z2⟩,hK⟩:=h;obtain⟨_,mV,hm,nD⟩:=hS.Wz hb EH;obtain⟨ds,g1,g2,g3⟩:=Zge (hS.bx s _ hb) EH hm nD;have hlen:(oG W z.toNat (xs.drop off)).length=z.toNat:=Zim;have get:∀(i:Nat) (y:PV),(oG W z.toNat (xs.drop off))[i]?=some y->off+i*W+W<=xs.length/\y=.agg ((xs.drop (off+i*W)).take W):=fun i y hy=>by
      obtain⟨q1,q2⟩:=Zin hy;have h3:i+1<=n:=by omega
      have h4:=I1 W h3;rw[Nat.succ_mul]at h4;exact⟨by omega,by rw[q2,List.drop_drop]⟩
     refine⟨_,w,_,_,ρ,_,.inl (run _ z k hv hz z0 z1),hK,mV,.pv _ _ ?_,fun _=>Ext.tI _⟩;have hh:=dG.aF (m:=m.with w (ρ s)) (some ⟨(ρ s).b,off,none⟩) n false W (oG W z.toNat (xs.drop off)) (fun i=>(ds.drop (off+i*W)).take W) (by omega) (by omega) (fun e=>by cases e) (fun A hA=>by cases hA;rfl) (fun e=>by cases e)
      (fun i y hy=>?_) (fun i y hy=>?_) (fun i y j d c hy hd hc=>?_)
     .rw[hlen]at hh;exact hh
     .refine⟨_,_,rfl,At.b9 (fun j u hj=>?_)⟩;rw[mG]at hj;split at hj
      .rw[mS]at hj
       have:=g2.get _ _ hj
       rw[rX]at this;rw[Nat.add_assoc]at this ⊢;exact this
      .cases hj
     .obtain⟨q1,rfl⟩:=get i y hy;refine⟨by rw[gJ,uH];omega,?_,fun u hu=>?_⟩
      .show((xs.drop (off+i*W)).take W).length=W;rw[gJ,uH];omega
      .obtain⟨j,hj⟩:=iJ.1 hu;rw[mG]at hj;split at hj
       .rw[mS]at hj;have aI:off+i*W+j<xs.length:=by rw[<-g1];exact(bZ.1 hj).1
        exact(g3 _ _ _ hj (bB aI)).1
       .cases hj
     .obtain⟨q1,rfl⟩:=get i y hy;rw[mG]at hd;have sU:((xs.drop (off+i*W)).take W)[j]?=some c:=hc;rw[mG]at sU;split at hd
      .rw[if_pos (by assumption),mS]at sU;rw[mS]at hd;exact(g3 _ _ _ hd sU).2
      .cases hd
    .exact h.elim
   .exact h.elim
  .exact h.elim
 .exact h.elim
theorem Zsx {t e:TypeId}{n W:Nat}{x hi:Operand}{x' xI:bA}(hx:aV x=some x')(hh:aV hi=some xI)(he:eG P t=some (e,W,some n))(hn:0<n/\n<=1000000)(ho:o.op=.slice t x none (some hi) none)
  (h:cC (.YI n W x' xI) d K σ) (hS:Sat N w0 m0 pl σ ρ m act w):oA P N w0 m0 pl o act w K:=by
 obtain⟨hu,hs⟩:=Hl he;refine Zpl hx hn (fun A z k ex hz z0 z1=>?_) h hS;have h2:=hS.aV hh;rw[hz]at h2;have ez:=h2.U7;unfold execOp;simp only[ho,ex,Sem.run_bind];have dA:¬n=0:=by omega
 simp[Instr.sliceAt,run_underlying hu,Instr.sliceBounds,run_sizeOf hs,ez,Instr.sliceBound,asIntOf,z0,z1,Instr.sureAddr,Addr.add]
end
def Zvb (P:Program)(t:TypeId):Option TypeId:=match P.underlying t with
 |some (.struct fs)=>match fs[1]? with
  |some fl=>match P.underlying fl.type with
   |some (.slice e)=>match P.underlying e with
    |some (.int .u8)=>some e
    |_=>none
   |_=>none
  |none=>none
 |_=>none
def nS (P:Program):Op->Option V5
 |.binOp .add t x y _=>match aV x,aV y,P.underlying t with
  |some x,some y,some .string=>some (.rK x y)
  |_,_,_=>none
 |.binOp .eql t x y _=>match aV x,aV y,P.underlying t with
  |some x,some (.c .eV),some (.interface _)=>some (.LF false x)
  |_,_,_=>none
 |.binOp .neq t x y _=>match aV x,aV y,P.underlying t with
  |some x,some (.c .eV),some (.interface _)=>some (.LF true x)
  |_,_,_=>none
 |.makeInterface t x=>match aV x,P.underlying t with
  |some _,some (.interface _)=>none
  |some x,some _=>some (.sF t x)
  |_,_=>none
 |.alloc t=>match gS P t with
  |some v=>match v.cells.toList with
   |[.pointer none,.slice none 0 0]=>match Zvb P t with
    |some e=>some (.Ek t e)
    |none=>none
   |_=>none
  |none=>none
 |.panic x=>match aV x with
  |some x=>some (.B3 x)
  |none=>none
 |.typeAssert x _ t true=>match aV x,P.underlying t,rZ P t with
  |some _,some (.interface _),_=>none
  |some x,some _,some z=>some (.KR t z x)
  |_,_,_=>none
 |.index t x i=>match aV x,aV i,P.underlying t with
  |some x,some i,some .string=>some (.A5 x i)
  |_,_,_=>none
 |.slice t x lo hi none=>match aV x,P.underlying t,tQ lo,tQ hi with
  |some x,some .string,some lo,some hi=>some (.TT x lo hi)
  |_,_,_,_=>none
 |.convert src dst x=>match aV x,P.underlying src,P.underlying dst with
  |some x,some (.slice e),some .string=>match P.underlying e with
   |some (.int .u8)=>some (.TU x)
   |_=>none
  |some x,some .string,some (.slice e)=>match P.underlying e with
   |some (.int .u8)=>some (.AO e x)
   |_=>none
  |_,_,_=>none
 |.call c=>match c.callee with
  |.builtin .len=>match c.args.toList,c.argTypes.toList with
   |[x],[t]=>match aV x,P.underlying t with
    |some y,some .string=>some (.rI y)
    |_,_=>none
   |_,_=>none
  |.builtin .append=>match c.args.toList,c.argTypes.toList with
   |[x,y],[t,u]=>match aV x,aV y,eG P t,P.underlying u with
    |some x,some y,some (e,n,none),some .string=>match rZ P e,P.info? e with
     |some z,some i=>if n=1/\z.cells.length=n then some (.VQ e n i.bytes x y)else none
     |_,_=>none
    |_,_,_,_=>none
   |_,_=>none
  |_=>none
 |_=>none
theorem ZnK {x:Option Operand}{x':Option bA}(h:tQ x=some x'):(x=none/\x'=none)\/∃a a',x=some a/\x'=some a'/\aV a=some a':=by
 cases x with
 |none=>simp[tQ]at h;exact .inl ⟨rfl,h.symm⟩
 |some a=>
  simp only[tQ,dZ]at h;obtain⟨a',h1,h2⟩:=h;exact .inr ⟨a,a',rfl,h2.symm,h1⟩
theorem Zgg {x:PV}{r:List PV}{ns:List Int}(h:DT (x::r)=some ns):∃n ms,x=.int .u8 n/\DT r=some ms/\ns=n::ms:=by
 unfold DT at h;split at h
 .rename_i e;cases e
 .rename_i n r' e;cases e;obtain⟨ms,h1,h2⟩:=dZ.1 h;exact⟨n,ms,rfl,h1,h2.symm⟩
 .cases h
theorem ZgV {m:Mem}:∀{xs:List PV} {ns:List Int} {vs:List Value},DT xs=some ns->vs.length=xs.length->(∀(i:Nat) (x:PV) (v:Value),xs[i]?=some x->vs[i]?=some v->dG m v x)->vs=ns.map (Value.int .u8)
 |[],ns,vs,h,hl,_=>by
  cases h;exact List.eq_nil_of_length_eq_zero hl
 |x::r,ns,[],h,hl,_=>by simp at hl
 |x::r,ns,v::vs,h,hl,hr=>by
  obtain⟨n,ms,rfl,h1,rfl⟩:=Zgg h;have h0:=hr 0 _ _ rfl rfl;have e:=ZgV (vs:=vs) h1 (by simpa using hl) fun i y u k1 k2=>hr (i+1) y u (by simpa using k1) (by simpa using k2)
  cases h0;rw[e];rfl
theorem ZgW:∀{xs:List PV} {ns:List Int} {y:PV},DT xs=some ns->y∈xs->∃n,∃k,y=.int k n
 |x::r,ns,y,h,hy=>by
  obtain⟨n,ms,rfl,h1,_⟩:=Zgg h;rcases jN.1 hy with rfl|hy
  .exact⟨n,.u8,rfl⟩
  .exact ZgW h1 hy
theorem Zgt:∀(ns:List Int) (r:ByteArray),ns.foldl (fun r n=>r.push (UInt8.ofNat n.toNat)) r=⟨r.data++(ns.map fun n=>UInt8.ofNat n.toNat).toArray⟩
 |[],r=>by simp
 |n::ns,r=>by
  rw[List.foldl_cons,Zgt ns];simp[ByteArray.push]
section
variable {G:World->Prop}{P:Program}{N:Nat}{w0:World}{m0:Env w0}{pl:List Nat}{σ:AS}{ρ:Site->Loc}{m:Mem}{act:Act}{w:World}{o:Oper}{d:Nat}{K:AV->AS->Prop}
theorem bO.SH {v:Value}{s:ByteArray}(h:bO ρ m v (.pv (.str s))):v=.string s:=by
 cases h with
 |pv _ _ h=>cases h;rfl
theorem Zuj {t e:TypeId}{v:Value}(hv:gS P t=some v)(hc:v.cells.toList=[.pointer none,.slice none 0 0])(ho:o.op=.alloc t)(h:cC (.Ek t e) d K σ)(hS:Sat N w0 m0 pl σ ρ m act w):oA P N w0 m0 pl o act w K:=by
 simp only[cC]at h;have sU:v.cells=#[.pointer none,.slice none 0 0]:=yU.1 hc;have hP:=hS.bG d;have hn:=qW.bG d σ;have hh:(w.alloc (.cells v.cells t)).heap[w.heap.size]?=some (.cells #[.pointer none,.slice none 0 0] t (0,0)):=by rw[sU];exact heap_alloc_new w _
 have hu:=Q7 ρ (.loc d 0) ⟨w.heap.size,0,0,true⟩;have M3:=hP.Zx5 d 0 hn v.cells t 0 (box:=.ext (DD t e [])) ⟨by rw[hu],by rw[hu];exact⟨_,_,hh,.inl rfl,.inl ⟨rfl,rfl⟩⟩⟩ (fun k hk=>by
  rw[hu]at hk;have VB:k∈yW ⟨w.heap.size,0,0,true⟩ (w.alloc (.cells v.cells t)):=hk;rw[ZiY (q:=⟨w.heap.size,0,0,true⟩) hh]at VB;cases VB)
 refine⟨.pointer (some ⟨w.heap.size,0,none⟩),w.alloc (.cells v.cells t),_,_,_,m,.inl ?_,h,M3,?_,fun _=>Ext.al w _⟩
 .unfold execOp;simp only[ho,Sem.run_bind,Zno hv,Result.andThen_ok];rfl
 .have:=bO.ptr (ρ:=iK ρ (.loc d 0) ⟨w.heap.size,0,0,true⟩) (m:=m) (.loc d 0) 0
  rw[hu]at this;exact this
theorem Zpq {t u:TypeId}{x y:Operand}{x' y':bA}(hx:aV x=some x')(hy:aV y=some y')(ho:o.op=.binOp .add t x y u)
  (h:cC (.rK x' y') d K σ) (hS:Sat N w0 m0 pl σ ρ m act w):dB G P σ ρ m o act w K:=by
 simp only[cC]at h;have h1:=hS.aV hx;have h2:=hS.aV hy;split at h
 .rename_i a b ea eb;obtain⟨hb,hK⟩:=h;rw[ea]at h1;rw[eb]at h2;refine .pure hS (v:=.string (a++b)) ?_ (.pv _ _ (.str _)) hK;intro w' _;unfold execOp;simp only[ho,h1.SH,h2.SH];simp[eqGuard,binOp,run_string_add_sum w' a b hb]
 .exact h.elim
theorem ZgA {y:Operand}(h:aV y=some (.c .eV)):y=.const .nilIface:=by
 cases y with
 |tmp k=>cases h
 |const v=>
  simp only[aV,dZ]at h;obtain⟨x,h1,h2⟩:=h;cases h2;unfold nP at h1;split at h1<;>first|(cases h1;done)|rfl
 |func f=>cases h
 |global g=>cases h
theorem WN {m:Mem}{a b:Value}{x y:PV}(h:dG m a x)(k:dG m b y):dG m (.tuple #[a,b]) (.bL [x,y]):=.bL _ _ rfl fun j d c h1 h2=>by
 rcases j with _|_|j
 .cases h1;cases h2;exact h
 .cases h1;cases h2;exact k
 .cases h2
theorem ZlQ (w:World)(t:TypeId)(ms:Array (String×TypeId))(hu:P.underlying t=some (.interface ms)):(Op.equal t .nilIface .nilIface).run P w=.ok true w:=by
 have:∀d,(Op.equalIn (d+1) t .nilIface .nilIface).run P w=.ok true w:=fun d=>by simp[Op.equalIn,run_underlying hu]
 exact this 9999
theorem Zja (w:World)(t:TypeId)(ms:Array (String×TypeId))(hu:P.underlying t=some (.interface ms))(u:TypeId)(v:Value):(Op.equal t (.iface u v) .nilIface).run P w=.ok false w:=by
 have:∀d,(Op.equalIn (d+1) t (.iface u v) .nilIface).run P w=.ok false w:=fun d=>by simp[Op.equalIn,run_underlying hu]
 exact this 9999
theorem ZnR {neg:Bool}{t u:TypeId}{x y:Operand}{x':bA}{ms:Array (String×TypeId)}(hx:aV x=some x')(hy:aV y=some (.c .eV))(hu:P.underlying t=some (.interface ms))(ho:o.op=.binOp (if neg=true then .neq else .eql) t x y u)
  (h:cC (.LF neg x') d K σ) (hS:Sat N w0 m0 pl σ ρ m act w):dB G P σ ρ m o act w K:=by
 simp only[cC]at h;have h1:=hS.aV hx;split at h
 .rename_i ex;rw[ex]at h1;have e:act.eval x=.nilIface:=by
   have h2:=h1.nG;generalize act.eval x=u at h2;cases h2;rfl
  refine .pure hS (v:=.bool (!neg)) ?_ (.pv _ _ (.bool _)) h;intro w' _;unfold execOp;obtain rfl:=ZgA hy;have e2:act.eval (.const .nilIface)=.nilIface:=rfl;cases neg<;>simp[ho,e,e2,binOp,eqGuard_nil_constR,fun w=>ZlQ w t ms hu]
 .rename_i tt xx ex;rw[ex]at h1;obtain⟨v,e⟩:∃v,act.eval x=.iface tt v:=by
   have h2:=h1.nG;generalize act.eval x=u at h2;cases h2 with|iface _ v _ _=>exact⟨v,rfl⟩
  refine .pure hS (v:=.bool neg) ?_ (.pv _ _ (.bool _)) h;intro w' _;unfold execOp;obtain rfl:=ZgA hy;have e2:act.eval (.const .nilIface)=.nilIface:=rfl;cases neg<;>simp[ho,e,e2,binOp,eqGuard_at_iface,fun w u v=>Zja w t ms hu u v]
 .exact h.elim
theorem Zth {t:TypeId}{x:Operand}{x':bA}{td:TypeDesc}(hx:aV x=some x')(hu:P.underlying t=some td)(M1:∀ms,td≠.interface ms)(ho:o.op=.makeInterface t x)
  (h:cC (.sF t x') d K σ) (hS:Sat N w0 m0 pl σ ρ m act w):dB G P σ ρ m o act w K:=by
 simp only[cC]at h;have h1:=hS.aV hx;split at h
 .rename_i a ex;rw[ex]at h1;refine .pure hS (v:=.iface t (act.eval x)) ?_ (.pv _ _ (.iface _ _ _ h1.nG)) h;intro w' _;unfold execOp;simp only[ho,Instr.makeInterface,Sem.run_bind,run_underlying hu];cases td<;>first|rfl|exact absurd rfl (M1 _)
 .exact h.elim
theorem ZlG {e:TypeId}{z:PV}(hz:rZ P e=some z)(m:Mem):∃zv,(∀w,(zeroValue e).run P w=.ok zv w)/\dG m zv z:=by
 cases hv:gS P e with
 |none=>unfold rZ at hz;simp[hv]at hz
 |some zz=>
  refine⟨zz,KE hv,?_⟩;obtain⟨v,q1,q2⟩:=Hg hz (default:World) m;rw[KE hv]at q1;cases q1;exact q2
theorem Zsg {t s:TypeId}{x:Operand}{x':bA}{td:TypeDesc}{z:PV}(hx:aV x=some x')(hu:P.underlying t=some td)(M1:∀ms,td≠.interface ms)(hz:rZ P t=some z)(ho:o.op=.typeAssert x s t true)
  (h:cC (.KR t z x') d K σ) (hS:Sat N w0 m0 pl σ ρ m act w):dB G P σ ρ m o act w K:=by
 simp only[cC]at h;have h1:=hS.aV hx;obtain⟨zv,LR,hzm⟩:=ZlG hz m;split at h
 .rename_i ex;rw[ex]at h1;have e:act.eval x=.nilIface:=by
   have h2:=h1.nG;generalize act.eval x=u at h2;cases h2;rfl
  refine .pure hS (v:=.tuple #[zv,.bool false]) ?_ (.pv _ _ (WN hzm (.bool _))) h;intro w' _;unfold execOp;simp only[ho,e,Instr.typeAssert,Sem.run_bind,run_underlying hu];cases td<;>first|exact absurd rfl (M1 _)|simp[LR w']
 .rename_i tt a ex;rw[ex]at h1;obtain⟨v,e,hv⟩:∃v,act.eval x=.iface tt v/\dG m v a:=by
   have h2:=h1.nG;generalize act.eval x=u at h2;cases h2 with|iface _ v _ k=>exact⟨v,rfl,k⟩
  by_cases Ji:tt=t
  .rw[if_pos Ji]at h;refine .pure hS (v:=.tuple #[v,.bool true]) ?_ (.pv _ _ (WN hv (.bool _))) h;intro w' _;unfold execOp;simp only[ho,e,Instr.typeAssert,Sem.run_bind,run_underlying hu];cases td<;>first|exact absurd rfl (M1 _)|simp[Ji]
  .rw[if_neg Ji]at h;refine .pure hS (v:=.tuple #[zv,.bool false]) ?_ (.pv _ _ (WN hzm (.bool _))) h;intro w' _;unfold execOp;simp only[ho,e,Instr.typeAssert,Sem.run_bind,run_underlying hu];cases td<;>first|exact absurd rfl (M1 _)|simp[Ji,LR w']
 .exact h.elim
theorem Zpm {t:TypeId}{c:Call}{x:Operand}{x':bA}(hx:aV x=some x')(hu:P.underlying t=some .string)(hc:c.callee=.builtin .len)(ha:c.args.toList=[x])(ht:c.argTypes.toList=[t])(ho:o.op=.call c)
  (h:cC (.rI x') d K σ) (hS:Sat N w0 m0 pl σ ρ m act w):dB G P σ ρ m o act w K:=by
 simp only[cC]at h;have h1:=hS.aV hx;have fX:c.args=#[x]:=yU.1 (by simpa using ha);have sP:c.argTypes=#[t]:=yU.1 (by simpa using ht);split at h
 .rename_i s es;rw[es]at h1;refine .pure hS (v:=.int .i64 s.size) ?_ (.pv _ _ (.int _ _)) h;intro w' _;unfold execOp;simp only[ho];simp[resolve,hc,fX,sP,invoke,builtin,Builtin.len_,run_underlying hu,h1.SH,goInt]
 .exact h.elim
theorem Zpp {t:TypeId}{x i:Operand}{x' i':bA}(hx:aV x=some x')(hi:aV i=some i')(hu:P.underlying t=some .string)(ho:o.op=.index t x i)
  (h:cC (.A5 x' i') d K σ) (hS:Sat N w0 m0 pl σ ρ m act w):dB G P σ ρ m o act w K:=by
 simp only[cC]at h;have h1:=hS.aV hx;have h2:=hS.aV hi;split at h
 .rename_i s k z es ei;rw[es]at h1;rw[ei]at h2;split at h
  .rename_i b hb;refine .pure hS (v:=.int .u8 b.toNat) ?_ (.pv _ _ (.int _ _)) h;intro w' _;have nL:(if 0<=z then s[z.toNat]? else none)=some b:=hb;unfold execOp;simp only[ho,h1.SH,h2.U7];simp[Instr.index,asIntOf,run_underlying hu,nL]
  .exact h.elim
 .exact h.elim
theorem Zsp {t:TypeId}{x:Operand}{x':bA}{lo hi:Option Operand}{UE xI:Option bA}(hx:aV x=some x')(hu:P.underlying t=some .string)(kN:tQ lo=some UE)(Bm:tQ hi=some xI)
  (ho:o.op=.slice t x lo hi none) (h:cC (.TT x' UE xI) d K σ) (hS:Sat N w0 m0 pl σ ρ m act w):dB G P σ ρ m o act w K:=by
 simp only[cC]at h;have h1:=hS.aV hx;split at h
 .rename_i s es;rw[es]at h1;split at h
  .rename_i l z el ez;obtain⟨⟨l0,l1,l2⟩,hK⟩:=h;refine .pure hS (v:=.string (s.extract l.toNat z.toNat)) ?_ (.pv _ _ (.str _)) hK;intro w' _;have el':=WK (ZnK kN) hS el;have eh':=WK (ZnK Bm) hS ez;unfold execOp;simp only[ho,h1.SH,Sem.run_bind];have z0:0<=z:=by omega
   have l3:l<=(s.size:Int):=by omega
   have l4:l<=(z.toNat:Int):=by omega
   rcases el' with⟨rfl,rfl⟩|⟨b,k,rfl,eb⟩<;>rcases eh' with⟨rfl,rfl⟩|⟨b2,k2,rfl,Dq⟩
   .simp[Instr.sliceAt,run_underlying hu,Instr.slice,Instr.sliceBounds]
   .simp[Instr.sliceAt,run_underlying hu,Instr.slice,Instr.sliceBounds,Dq,Instr.sliceBound,asIntOf,l2,z0]
   .simp[Instr.sliceAt,run_underlying hu,Instr.slice,Instr.sliceBounds,eb,Instr.sliceBound,asIntOf,l0,l3]
   .simp[Instr.sliceAt,run_underlying hu,Instr.slice,Instr.sliceBounds,eb,Dq,Instr.sliceBound,asIntOf,l0,l2,z0];intro h5;omega
  .exact h.elim
 .exact h.elim
theorem Zsu {src dst e:TypeId}{x:Operand}{x':bA}(hx:aV x=some x')(hs:P.underlying src=some (.slice e))(he:P.underlying e=some (.int .u8))(hd:P.underlying dst=some .string)(ho:o.op=.convert src dst x)
  (h:cC (.TU x') d K σ) (hS:Sat N w0 m0 pl σ ρ m act w):oA P N w0 m0 pl o act w K:=by
 simp only[cC]at h;split at h
 .rename_i xs hc;split at h
  .rename_i ns hn;obtain⟨a,cap,ds,hv,hf,oP⟩:=Fo (by decide) hS (hS.aV hx) hc;have qB:ds.length=xs.length:=by have:=hf.len;omega
   have nT:ds=ns.map (Value.int .u8):=ZgV hn qB fun i y u k1 k2=>by
    obtain⟨q1,q2⟩:=hf.get i y k1;obtain⟨n,ms,hy⟩:∃n,∃k,y=.int k n:=by
     obtain⟨j,hj⟩:=iJ.1 (dK k1);exact ZgW hn (dK k1)
    subst hy;obtain⟨u',q3,q4⟩:=q2 0 _ rfl;rw[Nat.mul_one,Nat.add_zero,k2]at q3;cases q3;exact q4
   have hr:(execOp act.eval o).run P w=.ok (.value (.string (NP ns))) w:=by
    have hb:(Conv.bytesToString (.slice a xs.length cap)).run P w=.ok (.string (NP ns)) w:=by
     cases a with
     |none=>
      have h0:ds=[]:=by
       cases ds with
       |nil=>rfl
       |cons u l=>
        obtain⟨b,q,h1,_⟩:=oP 0 u rfl;cases h1
      rw[h0]at nT
      have:ns=[]:=List.map_eq_nil_iff.1 nT.symm
      subst this;rfl
     |some A=>
      have HO:(loadCells A xs.length).run P w=.ok (ns.map (Value.int .u8)).toArray w:=by
       rw[<-nT,<-qB];refine run_loadCells_list w A ds fun j v hj=>?_
       obtain⟨b,q,h1,h2⟩:=oP j v hj;cases h1;by_cases Jq:j=0
       .subst Jq;simpa[Addr.add]using h2
       .simpa[Addr.add,Jq]using h2
      rw[run_bytesToString w A xs.length cap ns HO,Zgt];simp[NP]
    unfold execOp;simp only[ho,hv,Sem.run_bind,run_convert_bytes_string w src dst e a xs.length cap hs he hd,hb];rfl
   exact⟨_,w,_,_,ρ,m,.inl hr,h,hS,.pv _ _ (.str _),fun _=>Ext.tI _⟩
  .exact h.elim
 .exact h.elim
theorem ZgU (w:World)(e:TypeId)(s:ByteArray):Ext w (Lib.bytesWorld w e s):=by
 refine⟨?_,?_,?_,?_,fun k hk=>Lib.bytesWorld_at_old w e s k hk⟩
 .simp[Lib.bytesWorld,World.freeze,World.alloc,World.drew,-World.alloc_eq,-World.drew_eq]
 .simp[Lib.bytesWorld,World.freeze,World.alloc,World.drew,-World.alloc_eq,-World.drew_eq]
 .simp[Lib.bytesWorld,World.freeze,World.alloc,World.drew,-World.alloc_eq,-World.drew_eq]
 .rw[Lib.bytesWorld_size];omega
theorem ZeJ {s:ByteArray}{i:Nat}{x:PV}(h:(qG s)[i]?=some x):i<s.size/\x=.int .u8 (s.data.toList.getD i 0).toNat:=by
 unfold qG at h;rw[bW]at h;obtain⟨b,h1,rfl⟩:=dZ.1 h;have hl:=(bZ.1 h1).1;refine⟨by simpa using hl,?_⟩;rw[List.getD_eq_getElem?_getD,h1];rfl
theorem Ms {s:ByteArray}:(qG s).length=s.size:=by simp[qG]
theorem Zpr {src dst e:TypeId}{x:Operand}{x':bA}(hx:aV x=some x')(hs:P.underlying src=some .string)(hd:P.underlying dst=some (.slice e))(he:P.underlying e=some (.int .u8))(ho:o.op=.convert src dst x)
  (h:cC (.AO e x') d K σ) (hS:Sat N w0 m0 pl σ ρ m act w):oA P N w0 m0 pl o act w K:=by
 simp only[cC]at h;have h1:=hS.aV hx;split at h
 .rename_i s es;rw[es]at h1;obtain⟨fH,hK⟩:=h;have hr:(execOp act.eval o).run P w=.ok (.value (.slice (some ⟨w.heap.size,0,none⟩) s.size (grownCap w s.size 0 e))) (Lib.bytesWorld w e s):=by
   unfold execOp;simp only[ho,h1.SH,Sem.run_bind,Lib.run_convert_string_bytes w src dst e s hs hd he];rfl
  have rP:=ZgU w e s;have wI:=hS.ext rP;have D4:∀o,m w.heap.size o=none:=fun o=>hS.Es (fG _) o
  let m':Mem:=fun b q=>if b=w.heap.size then(Lib.bytesWorld w e s).cell? ⟨b,q,none⟩else m b q
  have hm:Le m m':=fun b q v hv=>by
   show(if b=w.heap.size then _ else m b q)=some v;by_cases hb:b=w.heap.size
   .subst hb;rw[D4 q]at hv;cases hv
   .rw[if_neg hb];exact hv
  have mV:Sat N w0 m0 pl σ ρ m' act (Lib.bytesWorld w e s):=by
   refine wI.Zx6 hm (fun b q v hv=>?_) (fun t b k hb hk q=>?_) (fun b q v hv=>?_)
   .have rQ:(if b=w.heap.size then(Lib.bytesWorld w e s).cell? ⟨b,q,none⟩else m b q)=some v:=hv;by_cases hb:b=w.heap.size
    .rw[if_pos hb]at rQ;exact rQ
    .rw[if_neg hb]at rQ;exact wI.mem b q v rQ
   .show(if k=w.heap.size then _ else m k q)=none;have aI:=hS.G1 hb (((hS.bx t b hb).dS (fun r=>rP.block _ (hS.lt hb r))).1 hk);rw[if_neg (by omega)];exact wI.eL t b k hb hk q
   .have rQ:(if b=w.heap.size then(Lib.bytesWorld w e s).cell? ⟨b,q,none⟩else m b q)=some v:=hv;by_cases hb:b=w.heap.size
    .exact .inr (.inl (by rw[hb];exact hS.keep.size))
    .rw[if_neg hb]at rQ;exact .inl rQ
  have yL:=grownCap_ge w s.size 0 e;have hle:=grownCap_le_maxLen w s.size 0 e (by unfold maxLen;omega);have Bb:grownCap w s.size 0 e<=9223372036854775807:=by unfold maxLen at hle;omega
  have oP:∀j,j<s.size->m' w.heap.size j=some (.int .u8 (s.data.toList.getD j 0).toNat):=fun j hj=>by
   show(if w.heap.size=w.heap.size then _ else _)=_;rw[if_pos rfl];exact Lib.bytesWorld_cell w e s j hj
  refine⟨_,_,_,_,ρ,m',.inl hr,hK,mV,.pv _ _ ?_,fun _=>rP⟩
  have:=dG.aF (m:=m') (some ⟨w.heap.size,0,none⟩) (grownCap w s.size 0 e) false 1 (qG s) (fun i=>[.int .u8 (s.data.toList.getD i 0).toNat]) (by rw[Ms];exact yL) Bb (fun h=>by cases h) (fun A hA=>by cases hA;rfl) (fun h=>by cases h)
   (fun i y hy=>⟨w.heap.size,0,rfl,At.b9 (fun j u hj=>by
    cases j with
    |zero=>
     cases hj
     have:=oP i (ZeJ hy).1
     simpa using this
    |succ j=>cases hj)⟩)
   (fun i y hy=>by
    obtain⟨_,rfl⟩:=ZeJ hy;exact⟨rfl,rfl,fun u hu=>by cases rY.1 hu;rfl⟩)
   (fun i y j u c hy hu hc=>by
    obtain⟨_,rfl⟩:=ZeJ hy;cases j with
    |zero=>cases hu;cases hc;exact .int _ _
    |succ j=>cases hu)
  rw[Ms]at this;exact this
 .exact h.elim
theorem Zl2 (m:Mem)(s:ByteArray):Flat m (Go.byteCells s) 1 (qG s):=by
 refine⟨by rw[Go.byteCells_length,Ms,Nat.mul_one],fun u hu=>?_,fun i x hi=>?_⟩
 .obtain⟨_,_,rfl⟩:=iI.1 hu;rfl
 .unfold qG at hi;rw[bW]at hi;obtain⟨b,hb,rfl⟩:=dZ.1 hi;refine⟨rfl,fun j c hj=>?_⟩
  match j with
  |0=>
   cases hj;refine⟨.int .u8 b.toNat,?_,.int _ _⟩;unfold Go.byteCells;rw[Nat.mul_one,Nat.add_zero,bW,hb];rfl
  |j+1=>simp[PV.cells]at hj
theorem Zer {t u ty e:TypeId}{i:TypeInfo}{z:Value}(ht:P.underlying t=some (.slice e))(hu:P.underlying u=some .string)(hi:P.info? e=some i)(hz:i.zero=some z)(ba:Option Addr)(fI dN:Nat)(s:ByteArray)(k:Nat)(hk:s.size=k)(dU news:List Value)
  (ho:∀w',(∀A,w'.cell? A=w.cell? A)->(Builtin.firstCells i.size fI (.slice ba fI dN)).run P w'=.ok dU.toArray w') (hn:∀w',(∀A,w'.cell? A=w.cell? A)->(Builtin.firstCells i.size s.size (.string s)).run P w'=.ok news.toArray w')
  (hg:dN<fI+k) (Df:((fI+k:Nat):Int)<=9223372036854775807) (dE:Builtin.nextslicecap (fI+k) dN*i.bytes<=281474976710656):
  (Builtin.append_ #[t,u] ty #[.slice ba fI dN,.string s]).run P w =
   .ok (.slice (some ⟨w.heap.size,0,none⟩) (fI+k) (grownCap w (fI+k) dN e)) (w.drew.alloc (.cells ((dU++news).toArray++Builtin.zeroCells z.cells (grownCap w (fI+k) dN e-(fI+k))) e)):=by
 subst hk;have EL:¬(fI+s.size<=dN):=by omega
 have RG:¬(9223372036854775807<((fI:Int)+(s.size:Int))):=by omega
 have RH:¬(281474976710656<Builtin.nextslicecap (fI+s.size) dN*i.bytes):=by omega
 have f1:=ho w.drew (fun A=>rfl);have f2:=hn w.drew (fun A=>rfl);simp[Builtin.append_,run_underlying ht,run_underlying hu,sizeOf,typeInfo,zeroValue,hi,hz,Builtin.lenOf,EL,RG,RH,Question.forced,f1,f2,newRow,grownCap];rw[<-List.append_toArray,Array.append_assoc]
theorem Zgq {t u ty e:TypeId}{i:TypeInfo}(ht:P.underlying t=some (.slice e))(hu:P.underlying u=some .string)(hi:P.info? e=some i)(g q fI dN:Nat)(cur:Array Value)(hg:w.heap[g]?=some (.cells cur e (0,0)))(s:ByteArray)(k:Nat)(hk:s.size=k)(news:List Value)
  (hn:(Builtin.firstCells i.size s.size (.string s)).run P w=.ok news.toArray w) (h1:∀u∈news,u.oneCell'=true) (eP:fI+k<=dN) (dE:q+fI*i.size+news.length<=cur.size):
  (Builtin.append_ #[t,u] ty #[.slice (some ⟨g,q,none⟩) fI dN,.string s]).run P w=.ok (.slice (some ⟨g,q,none⟩) (fI+k) dN) (w.setRow g (aR cur.toList (q+fI*i.size) news).toArray):=by
 subst hk;have bT:=run_storeCells_at P g (q+fI*i.size) e news 0 cur w hg (by simpa using dE) h1;simp only[Nat.add_zero]at bT;simp[Builtin.append_,run_underlying ht,run_underlying hu,sizeOf,typeInfo,hi,Builtin.lenOf,eP,hn,NT,bT,aR]
theorem ZhU {t u:TypeId}{c:Call}{x y:Operand}(hc:c.callee=.builtin .append)(ha:c.args.toList=[x,y])(ht:c.argTypes.toList=[t,u])(ho:o.op=.call c){v:Value}{w':World}(h:(Builtin.append_ #[t,u] o.type #[act.eval x,act.eval y]).run P w=.ok v w'):
  (execOp act.eval o).run P w=.ok (.value v) w':=by
 have fX:c.args=#[x,y]:=yU.1 (by simpa using ha);have sP:c.argTypes=#[t,u]:=yU.1 (by simpa using ht);unfold execOp;simp only[ho];simp[resolve,hc,fX,sP,invoke,builtin,h]
theorem Zrl {t u e n bytes:Nat}{i:TypeInfo}{z:PV}{c:Call}{x y:Operand}{x' y':bA}(hx:aV x=some x')(hy:aV y=some y')(he:eG P t=some (e,n,none))(hz:rZ P e=some z)(hi:P.info? e=some i)(hb:i.bytes=bytes)(EL:n=1)(Ab:P.underlying u=some .string)(OW:z.cells.length=n)
  (hc:c.callee=.builtin .append) (ha:c.args.toList=[x,y]) (ht:c.argTypes.toList=[t,u]) (ho:o.op=.call c) (h:cC (.VQ e n bytes x' y') d K σ) (hS:Sat N w0 m0 pl σ ρ m act w):F4 (∃nl,σ.o x'=.pv (.emp nl)) P N w0 m0 pl o act w K:=by
 simp only[cC]at h;have hn:0<n:=by omega
 obtain⟨hu,hs⟩:=KF he;obtain⟨i2,M8,fH⟩:=He hs;rw[hi]at M8;cases M8;unfold rZ at hz;cases hv:gS P e with
 |none=>simp[hv]at hz
 |some zv=>
 simp only[hv,Option.bind_some]at hz;obtain⟨zi,J9,BJ⟩:=Hh hv;rw[hi]at J9;cases J9;have tT:zv.cells.size=n:=by have:=(TD hz m).1;omega
 split at h
 .rename_i s0 OY;have hyr:=hS.aV hy;rw[OY]at hyr;have BK:act.eval y=.string s0:=hyr.SH;obtain⟨ys,OX⟩:∃ys,ys=qG s0:=⟨_,rfl⟩;obtain⟨yd,Jg⟩:∃yd,yd=Go.byteCells s0:=⟨_,rfl⟩;have Jf:s0.size=ys.length:=by rw[OX,Ms]
  have C5:Flat m yd n ys:=by rw[Jg,OX];subst EL;exact Zl2 m s0
  rw[<-OX]at h;have vY:∀w',(∀A,w'.cell? A=w.cell? A)->(Builtin.firstCells i.size s0.size (.string s0)).run P w'=.ok yd.toArray w':=fun w' hw=>by
   rw[fH,Jg];subst EL;exact Go.firstCells_string s0 w'
  refine ZlB (e:=e) (d:=d) hx hb hn fH tT C5 (fun ba L dN od pV x3 aI Df hf=>ZhU hc ha ht ho ?_) (fun g q L dN cur pV g1 hr hf=>ZhU hc ha ht ho ?_) (fun ba pV R9=>ZhU hc ha ht ho ?_) ?_ hS
  .rw[pV,BK];exact Zer hu Ab hi BJ ba L dN s0 ys.length Jf od yd x3 vY aI Df hf
  .rw[pV,BK];exact Zgq hu Ab hi g q L dN cur g1 s0 ys.length Jf yd (vY w (fun _=>rfl)) C5.one hr hf
  .subst R9;have hf:=vY w (fun _=>rfl);rw[Jf]at hf;have Rh:yd=[]:=List.eq_nil_of_length_eq_zero (by have:=C5.len;simpa using this);rw[Rh]at hf;have Rf:s0.size=0:=Jf;rw[pV,BK];simp only[List.length_nil]at hf ⊢;cases ba<;>simp[Builtin.append_,run_underlying hu,run_underlying Ab,sizeOf,typeInfo,hi,Builtin.lenOf,Rf,hf,storeCells]
  .have R9:σ.cont (σ.o (.c (.aF false n ys))) n=some ys:=by simp[AS.o,AS.cont]
   simp only[bY,R9];split at h
   .rename_i nl ex;exact h
   .rename_i s n' lo len ex;split at h
    .rename_i tX;exact .inl h
    .exact h.elim
   .exact h.elim
 .exact h.elim
theorem Zt8 {t u e n bytes:Nat}{i:TypeInfo}{z:PV}{c:Call}{x y:Operand}{x' y':bA}(hx:aV x=some x')(hy:aV y=some y')(he:eG P t=some (e,n,none))(hz:rZ P e=some z)(hi:P.info? e=some i)(hb:i.bytes=bytes)(EL:n=1)(Ab:P.underlying u=some .string)(OW:z.cells.length=n)
  (hc:c.callee=.builtin .append) (ha:c.args.toList=[x,y]) (ht:c.argTypes.toList=[t,u]) (ho:o.op=.call c) (h:cC (.VQ e n bytes x' y') d K σ) (hS:Sat N w0 m0 pl σ ρ m act w):oA P N w0 m0 pl o act w K:=by
 obtain⟨v,w',a,KL,bV,m',h1,h2,h3,h4,_⟩:=Zrl hx hy he hz hi hb EL Ab OW hc ha ht ho h hS;exact⟨v,w',a,KL,bV,m',h1,h2,h3,h4,fun hm=>by rw[ho]at hm;cases hm⟩
end
section
variable {P:Program}{N:Nat}{w0:World}{m0:Env w0}{pl:List Nat}{σ:AS}{ρ:Site->Loc}{m:Mem}{act:Act}{w:World}{o:Oper}{d:Nat}{K:AV->AS->Prop}
theorem Nb {x:Option Operand}{x':Option bA}(h:tQ x=some x'):(x=none/\x'=none)\/∃a a',x=some a/\x'=some a'/\aV a=some a':=by
 cases x with
 |none=>simp[tQ]at h;exact .inl ⟨rfl,h.symm⟩
 |some a=>
  simp only[tQ,dZ]at h;obtain⟨a',k1,rfl⟩:=h;exact .inr ⟨a,a',rfl,rfl,k1⟩
theorem Mh {l:List Operand}{x y:bA}(h:pJ l=some [x,y]):∃a b,l=[a,b]/\aV a=some x/\aV b=some y:=by
 obtain⟨h1,h2⟩:=KD h
 match l,h1 with
 |[a,b],_=>
  obtain⟨x',k1,k2⟩:=h2 0 a rfl;obtain⟨y',k3,k4⟩:=h2 1 b rfl;simp at k1 k3;subst k1 k3;exact⟨a,b,rfl,k2,k4⟩
def lU.still:lU->Bool
 |.dV _=>true
 |.pick _ _ _=>true
 |.bin _ _ _ _=>true
 |.not _=>true
 |.neg _=>true
 |.yA _ _ _=>true
 |.build _ _=>true
 |.fa _ _=>true
 |.MT _ _ _ _=>true
 |.ia _ _ _ _=>true
 |.len _ _=>true
 |.ext _ _=>true
 |.yB _ _ _=>true
 |.vN _=>true
 |.iW _ _ _=>true
 |.conv _ _=>true
 |.I9 _ _ _ _ _ _=>true
 |.x y=>y.still
 |_=>false
def lU.FE:lU->Bool
 |.load _ _ _=>true
 |.x y=>y.read
 |_=>false
theorem Xs {y:Operand}{x:PV}(h:aV y=some (.c x)):(∃f,y=.func f)\/∃v,y=.const v/\nP v=some x:=by
 cases y with
 |tmp k=>simp[aV]at h
 |const v=>simp[aV]at h;exact .inr ⟨v,rfl,h⟩
 |func f=>exact .inl ⟨f,rfl⟩
 |global g=>simp[aV]at h
theorem Zgx {y:Operand}(h:aV y=some (.c (.emp (some true))))(act:Act):act.eval y=FH .sl:=by
 rcases Xs h with⟨f,rfl⟩|⟨v,rfl,hv⟩
 .simp[aV]at h
 .unfold nP at hv;split at hv<;>first|rfl|cases hv
theorem Zgy {y:Operand}(h:aV y=some (.c .eU))(act:Act):act.eval y=FH .pt:=by
 rcases Xs h with⟨f,rfl⟩|⟨v,rfl,hv⟩
 .simp[aV]at h
 .unfold nP at hv;split at hv<;>first|rfl|cases hv
theorem Zgz {y:Operand}(h:aV y=some (.c .cT))(act:Act):act.eval y=FH .mp:=by
 rcases Xs h with⟨f,rfl⟩|⟨v,rfl,hv⟩
 .simp[aV]at h
 .unfold nP at hv;split at hv<;>first|rfl|cases hv
theorem ZnH (hn:∀f l,mX P o.op≠.call f l)(h:bY (mX P o.op) d K σ)(hS:Sat N w0 m0 pl σ ρ m act w):oA P N w0 m0 pl o act w K:=by
 cases hop:o.op<;>rw[hop]at h hn<;>simp only[mX]at h hn
 case move x=>
  split at h
  .rename_i y e;exact(Ly e (.inl hop) h hS (G:=fun _=>True)).res trivial hS
  .exact h.elim
 case assign x=>
  split at h
  .rename_i y e;exact(Ly e (.inr hop) h hS (G:=fun _=>True)).res trivial hS
  .exact h.elim
 case pick c a b=>
  split at h
  .rename_i e1 e2 e3;exact(Zkm e1 e2 e3 hop h hS (G:=fun _=>True)).res trivial hS
  .exact h.elim
 case binOp op t x y u=>
  split at h
  .rename_i e1 e2 e3;exact(Lp e1 e2 hop h hS (fun e=>by cases e) (G:=fun _=>True)).res trivial hS
  .rename_i e1 e2 e3;exact(Lp e1 e2 hop h hS (fun _=>e3) (G:=fun _=>True)).res trivial hS
  .rename_i e1 e2 e3;exact(XK e1 (Zgx e2 act) ⟨_,e3⟩ hop h hS (G:=fun _=>True)).res trivial hS
  .rename_i e1 e2 e3;exact(XK e1 (Zgy e2 act) ⟨_,e3⟩ hop h hS (G:=fun _=>True)).res trivial hS
  .rename_i e1 e2 e3;exact(XK e1 (Zgz e2 act) ⟨_,_,e3⟩ hop h hS (G:=fun _=>True)).res trivial hS
  .exact h.elim
 case unOp op t x=>
  cases op<;>simp only at h
  case not=>
   split at h
   .rename_i e;exact(ZmO e hop h hS (G:=fun _=>True)).res trivial hS
   .exact h.elim
  case neg=>
   split at h
   .rename_i e;exact(ZmP e hop h hS (G:=fun _=>True)).res trivial hS
   .exact h.elim
  all_goals exact h.elim
 case box t x=>
  split at h
  .rename_i e1 e2;exact Zsw e1 e2 hop h hS
  .exact h.elim
 case alloc t=>
  split at h
  .rename_i e1;exact ZmV e1 hop h hS
  .exact h.elim
 case build t ps=>
  split at h
  .rename_i e1 e2;split at h
   .rename_i e3;exact(Zh8 e1 e2 e3 hop h hS (G:=fun _=>True)).res trivial hS
   .exact h.elim
  .exact h.elim
 case buildSlice t len ps=>
  split at h
  .rename_i e1 e2;split at h
   .rename_i e3;exact ZlM e1 e2 e3.1 e3.2.1 e3.2.2.1 e3.2.2.2 hop h hS
   .exact h.elim
  .exact h.elim
 case load t x=>
  split at h
  .rename_i e1 e2 e3;exact(Zko e1 e2 e3 hop h hS).res (.refl hS) hS
  .exact h.elim
 case store t x y=>
  split at h
  .rename_i e1 e2 e3;exact ZmM e1 e2 e3 hop h hS
  .exact h.elim
 case fieldAddr t x f=>
  split at h
  .rename_i e1 e2;exact(ZrA e1 e2 hop h hS (G:=fun _=>True)).res trivial hS
  .exact h.elim
 case indexAddr t x i=>
  split at h
  .rename_i e1 e2 e3;exact(Zrz e1 e2 e3 hop h hS (G:=fun _=>True)).res trivial hS
  .exact h.elim
 case extract x i=>
  split at h
  .rename_i e1;exact(ZmT e1 hop h hS (G:=fun _=>True)).res trivial hS
  .exact h.elim
 case nilCheck x=>
  split at h
  .rename_i e1;exact(Zkn e1 hop h hS (G:=fun _=>True)).res trivial hS
  .exact h.elim
 case convert src dst x=>
  split at h
  .rename_i e1 e2 e3;exact(Zkp e1 e2 e3 hop h hS (G:=fun _=>True)).res trivial hS
  .exact h.elim
 case makeFunc fn fs cs=>
  cases fn<;>simp only at h
  case func f=>
   split at h
   .rename_i e1 e2;exact(ZmQ e1 e2 hop h hS (G:=fun _=>True)).res trivial hS
   .exact h.elim
  all_goals exact h.elim
 case slice t x lo hi mx=>
  cases mx<;>simp only at h
  case none=>
   split at h
   .rename_i e1 e2 e3 e4;exact(ZmN e1 e2 (Nb e3) (Nb e4) hop h hS (G:=fun _=>True)).res trivial hS
   .exact h.elim
  case some=>exact h.elim
 case field t x f=>
  split at h
  .rename_i e1 e2;split at h
   .rename_i e3;split at h
    .rename_i e4 e5;exact(ZmS e1 e2 e3 e4 (by rw[e5];rfl) hop h hS (G:=fun _=>True)).res trivial hS
    .exact h.elim
   .exact h.elim
  .exact h.elim
 case makeSlice t l c=>
  split at h
  .rename_i e1 e2 e3;split at h
   .rename_i e4 e5;split at h
    .rename_i e6;exact Zsv e2 e3 e1 e4 e5 rfl e6.1 e6.2 hop h hS
    .exact h.elim
   .exact h.elim
  .exact h.elim
 case call c=>
  split at h
  .rename_i hc;split at h
   .rename_i ha ht;split at h
    .rename_i e1 e2;exact(ZmR e1 e2 hc ha ht hop h hS (G:=fun _=>True)).res trivial hS
    .exact h.elim
   .exact h.elim
  .rename_i hc;split at h
   .rename_i ha ht;split at h
    .rename_i e1 e2 e3;split at h
     .rename_i e4 e5;split at h
      .rename_i e6;obtain⟨rfl,e7,e8⟩:=e6;obtain⟨v,w',a,KL,bV,m',k1,k2,k3,k4,k5⟩:=ZmU e1 e2 e3 e4 e5 rfl e7 e8 hc ha ht hop h hS;exact⟨v,w',a,KL,bV,m',k1,k2,k3,k4,fun hm=>by rw[hop]at hm;cases hm⟩
      .exact h.elim
     .exact h.elim
    .exact h.elim
   .exact h.elim
  .rename_i hc;split at h
   .rename_i e1;obtain⟨a,b,k1,k2,k3⟩:=Mh e1;exact(Nn (mx:=false) k2 k3 hc k1 hop h hS (G:=fun _=>True)).res trivial hS
   .exact h.elim
  .rename_i hc;split at h
   .rename_i e1;obtain⟨a,b,k1,k2,k3⟩:=Mh e1;exact(Nn (mx:=true) k2 k3 hc k1 hop h hS (G:=fun _=>True)).res trivial hS
   .exact h.elim
  .rename_i f hc;simp only[hc]at hn;split at h
   .rename_i e1 e2;simp only[e1,e2]at hn;exact absurd rfl (hn _ _)
   .exact h.elim
  .exact h.elim
 all_goals exact h.elim
theorem ZpX {e n bytes:Nat}{x' y':bA}(hn:mX P o.op=.app e n bytes x' y')(h:bY (mX P o.op) d K σ)(hS:Sat N w0 m0 pl σ ρ m act w):F4 (∃nl,σ.o x'=.pv (.emp nl)) P N w0 m0 pl o act w K:=by
 rw[hn]at h;cases hop:o.op<;>rw[hop]at hn
 case call c=>
  simp only[mX]at hn;split at hn
  case h_2 hc=>
   split at hn
   .rename_i ha ht;split at hn
    .rename_i e1 e2 e3;split at hn
     .rename_i e4 e5;split at hn
      .rename_i e6;obtain⟨rfl,e7,e8⟩:=e6;cases hn;exact ZmU e1 e2 e3 e4 e5 rfl e7 e8 hc ha ht hop h hS
      .cases hn
     .cases hn
    .cases hn
   .cases hn
  all_goals (exfalso;repeat' (first|(cases hn;done)|split at hn))
 case unOp op t x=>exfalso;cases op<;>simp only[mX]at hn<;>(try split at hn)<;>cases hn
 case makeFunc fn fs cs=>exfalso;cases fn<;>simp only[mX]at hn<;>(try split at hn)<;>cases hn
 case slice t x lo hi mx=>exfalso;cases mx<;>simp only[mX]at hn<;>(try split at hn)<;>cases hn
 all_goals (exfalso;simp only[mX,vO]at hn;repeat' (first|(cases hn;done)|split at hn))
theorem ZnG {G:World->Prop}(hn:(mX P o.op).still=true)(h:bY (mX P o.op) d K σ)(hS:Sat N w0 m0 pl σ ρ m act w):dB G P σ ρ m o act w K:=by
 cases hop:o.op<;>rw[hop]at h hn<;>simp only[mX]at h hn
 case move x=>
  split at h
  .rename_i y e;exact Ly e (.inl hop) h hS
  .exact h.elim
 case assign x=>
  split at h
  .rename_i y e;exact Ly e (.inr hop) h hS
  .exact h.elim
 case pick c a b=>
  split at h
  .rename_i e1 e2 e3;exact Zkm e1 e2 e3 hop h hS
  .exact h.elim
 case binOp op t x y u=>
  split at h
  .rename_i e1 e2 e3;exact Lp e1 e2 hop h hS (fun e=>by cases e)
  .rename_i e1 e2 e3;exact Lp e1 e2 hop h hS (fun _=>e3)
  .rename_i e1 e2 e3;exact XK e1 (Zgx e2 act) ⟨_,e3⟩ hop h hS
  .rename_i e1 e2 e3;exact XK e1 (Zgy e2 act) ⟨_,e3⟩ hop h hS
  .rename_i e1 e2 e3;exact XK e1 (Zgz e2 act) ⟨_,_,e3⟩ hop h hS
  .exact h.elim
 case unOp op t x=>
  cases op<;>simp only at h
  case not=>
   split at h
   .rename_i e;exact ZmO e hop h hS
   .exact h.elim
  case neg=>
   split at h
   .rename_i e;exact ZmP e hop h hS
   .exact h.elim
  all_goals exact h.elim
 case box t x=>
  split at h
  .rename_i e1 e2;simp_all [lU.still]
  .exact h.elim
 case alloc t=>
  split at h
  .rename_i e1;simp_all [lU.still]
  .exact h.elim
 case build t ps=>
  split at h
  .rename_i e1 e2;split at h
   .rename_i e3;exact Zh8 e1 e2 e3 hop h hS
   .exact h.elim
  .exact h.elim
 case buildSlice t len ps=>
  split at h
  .rename_i e1 e2;split at h
   .rename_i e3;simp_all [lU.still]
   .exact h.elim
  .exact h.elim
 case load t x=>
  split at h
  .rename_i e1 e2 e3;simp_all [lU.still]
  .exact h.elim
 case store t x y=>
  split at h
  .rename_i e1 e2 e3;simp_all [lU.still]
  .exact h.elim
 case fieldAddr t x f=>
  split at h
  .rename_i e1 e2;exact ZrA e1 e2 hop h hS
  .exact h.elim
 case indexAddr t x i=>
  split at h
  .rename_i e1 e2 e3;exact Zrz e1 e2 e3 hop h hS
  .exact h.elim
 case extract x i=>
  split at h
  .rename_i e1;exact ZmT e1 hop h hS
  .exact h.elim
 case nilCheck x=>
  split at h
  .rename_i e1;exact Zkn e1 hop h hS
  .exact h.elim
 case convert src dst x=>
  split at h
  .rename_i e1 e2 e3;exact Zkp e1 e2 e3 hop h hS
  .exact h.elim
 case makeFunc fn fs cs=>
  cases fn<;>simp only at h
  case func f=>
   split at h
   .rename_i e1 e2;exact ZmQ e1 e2 hop h hS
   .exact h.elim
  all_goals exact h.elim
 case slice t x lo hi mx=>
  cases mx<;>simp only at h
  case none=>
   split at h
   .rename_i e1 e2 e3 e4;exact ZmN e1 e2 (Nb e3) (Nb e4) hop h hS
   .exact h.elim
  case some=>exact h.elim
 case field t x f=>
  split at h
  .rename_i e1 e2;split at h
   .rename_i e3;split at h
    .rename_i e4 e5;exact ZmS e1 e2 e3 e4 (by rw[e5];rfl) hop h hS
    .exact h.elim
   .exact h.elim
  .exact h.elim
 case makeSlice t l c=>
  split at h
  .rename_i e1 e2 e3;split at h
   .rename_i e4 e5;split at h
    .rename_i e6;simp_all [lU.still]
    .exact h.elim
   .exact h.elim
  .exact h.elim
 case call c=>
  split at h
  .rename_i hc;split at h
   .rename_i ha ht;split at h
    .rename_i e1 e2;exact ZmR e1 e2 hc ha ht hop h hS
    .exact h.elim
   .exact h.elim
  .rename_i hc;split at h
   .rename_i ha ht;split at h
    .rename_i e1 e2 e3;split at h
     .rename_i e4 e5;split at h
      .rename_i e6;obtain⟨e0,e7,e8⟩:=e6
       simp_all [lU.still]
      .exact h.elim
     .exact h.elim
    .exact h.elim
   .exact h.elim
  .rename_i hc;split at h
   .rename_i e1;obtain⟨a,b,k1,k2,k3⟩:=Mh e1;exact Nn (mx:=false) k2 k3 hc k1 hop h hS
   .exact h.elim
  .rename_i hc;split at h
   .rename_i e1;obtain⟨a,b,k1,k2,k3⟩:=Mh e1;exact Nn (mx:=true) k2 k3 hc k1 hop h hS
   .exact h.elim
  .rename_i f hc;simp only[hc]at hn;split at h
   .rename_i e1 e2;simp[e1,e2,lU.still]at hn
   .exact h.elim
  .exact h.elim
 all_goals exact h.elim
theorem ZpW (hn:∃b n x,mX P o.op=.load b n x)(h:bY (mX P o.op) d K σ)(hS:Sat N w0 m0 pl σ ρ m act w):dB (fW σ ρ m w) P σ ρ m o act w K:=by
 obtain⟨b,n,x,hn⟩:=hn;cases hop:o.op<;>rw[hop]at h hn
 case load t x=>
  simp only[mX]at h;split at h
  .rename_i e1 e2 e3;exact Zko e1 e2 e3 hop h hS
  .exact h.elim
 case unOp op t x=>
  clear h hS;cases op<;>simp only[mX]at hn<;>(try split at hn)<;>cases hn
 case makeFunc fn fs cs=>
  clear h hS;cases fn<;>simp only[mX]at hn<;>(try split at hn)<;>cases hn
 case slice t x lo hi mx=>
  clear h hS;cases mx<;>simp only[mX]at hn<;>(try split at hn)<;>cases hn
 all_goals (exfalso;clear h hS;simp only[mX,vO]at hn;repeat' (first|(cases hn;done)|split at hn))
def W6 (P:Program)(op:Op):Option V5:=match pN P op with
 |some y=>some y
 |none=>nS P op
def aZ (P:Program)(op:Op):lU:=match W6 P op with
 |some y=>.x y
 |none=>mX P op
theorem Ziu {op:Op}{y:V5}:mX P op≠.x y:=fun h=>by
 cases op
 case unOp op t x=>cases op<;>simp only[mX]at h<;>(try split at h)<;>cases h
 case makeFunc fn fs cs=>cases fn<;>simp only[mX]at h<;>(try split at h)<;>cases h
 case slice t x lo hi mx=>cases mx<;>simp only[mX]at h<;>(try split at h)<;>cases h
 all_goals (simp only[mX,vO]at h;repeat' (first|(cases h;done)|split at h))
theorem ZlW {y:V5}(hl:pN P o.op=some y)(h:cC y d K σ)(hS:Sat N w0 m0 pl σ ρ m act w):
  oA P N w0 m0 pl o act w K/\(∀G:World->Prop,y.still=true->dB G P σ ρ m o act w K)/\(y.read=true->dB (fW σ ρ m w) P σ ρ m o act w K):=by
 have still:(∀G:World->Prop,dB G P σ ρ m o act w K)->oA P N w0 m0 pl o act w K/\(∀G:World->Prop,y.still=true->dB G P σ ρ m o act w K)/\(y.read=true->dB (fW σ ρ m w) P σ ρ m o act w K):=
  fun h=>⟨(h (fun _=>True)).res trivial hS,fun G _=>h G,fun _=>h _⟩
 have read:y.still=false->dB (fW σ ρ m w) P σ ρ m o act w K->oA P N w0 m0 pl o act w K/\(∀G:World->Prop,y.still=true->dB G P σ ρ m o act w K)/\(y.read=true->dB (fW σ ρ m w) P σ ρ m o act w K):=
  fun hn h=>⟨h.res (.refl hS) hS,fun G e=>(by rw[hn]at e;cases e),fun _=>h⟩
 have p7:y.still=false->y.read=false->oA P N w0 m0 pl o act w K->oA P N w0 m0 pl o act w K/\(∀G:World->Prop,y.still=true->dB G P σ ρ m o act w K)/\(y.read=true->dB (fW σ ρ m w) P σ ρ m o act w K):=
  fun hn hr h=>⟨h,fun G e=>(by rw[hn]at e;cases e),fun e=>(by rw[hr]at e;cases e)⟩
 cases hop:o.op<;>rw[hop]at hl
 case binOp op t x y u=>
  simp only[pN]at hl;split at hl
  .rename_i e1 e2 e3;split at hl
   .rename_i hc;split at hl
    .cases hl;exact still fun G=>Zon e1 e2 e3 hc (.inl ⟨rfl,rfl⟩) hop h hS
    .cases hl;exact still fun G=>Zon e1 e2 e3 hc (.inr ⟨rfl,rfl⟩) hop h hS
    .cases hl
   .cases hl
  .cases hl
 case makeMap t r=>
  cases r with
  |none=>simp only[pN]at hl;cases hl;exact p7 rfl rfl (Ztg hop h hS)
  |some r=>simp[pN]at hl
 case lookup t x i ok=>
  simp only[pN]at hl;split at hl
  .rename_i hu;split at hl
   .rename_i e1 e2 e3 e4;cases hl;exact read rfl (Zqd e1 e2 hu e3 e4 hop h hS)
   .cases hl
  .cases hl
 case mapUpdate t x i v=>
  simp only[pN]at hl;split at hl
  .rename_i hu;split at hl
   .rename_i e1 e2 e3 e4;cases hl;exact p7 rfl rfl (Zmt e1 e2 e3 hu e4 (.inl hop) h hS)
   .cases hl
  .cases hl
 case insert t x i v=>
  simp only[pN]at hl;split at hl
  .rename_i hu;split at hl
   .rename_i e1 e2 e3 e4;cases hl;exact p7 rfl rfl (Zmt e1 e2 e3 hu e4 (.inr hop) h hS)
   .cases hl
  .cases hl
 case call c=>
  simp only[pN]at hl;split at hl
  .rename_i hc;split at hl
   .rename_i ha ht;split at hl
    .rename_i e1 e2;cases hl;exact read rfl (Zp4 e1 e2 hc ha ht hop h hS)
    .cases hl
   .cases hl
  .rename_i hc;split at hl
   .rename_i ha ht;split at hl
    .rename_i e1 e2 e3;split at hl
     .rename_i hn;cases hl;exact p7 rfl rfl (ZqG e1 e2 e3 hn hc ha ht hop h hS)
     .cases hl
    .cases hl
   .cases hl
  .rename_i hc;split at hl
   .rename_i ha ht;split at hl
    .rename_i e1 e2;split at hl
     .rename_i hz;split at hl
      .rename_i hn;cases hl;exact p7 rfl rfl (ZoF e1 e2 hz hn.1 hn.2 hc ha ht hop h hS)
      .cases hl
     .cases hl
    .cases hl
   .cases hl
  .cases hl
 case slice t x lo hi mx=>
  cases lo with
  |some lo=>simp[pN]at hl
  |none=>
   cases hi with
   |none=>
    cases mx with
    |some mx=>simp[pN]at hl
    |none=>
     simp only[pN]at hl;split at hl
     .rename_i e1 e2;split at hl
      .rename_i hn;cases hl;exact p7 rfl rfl (Zpn e1 e2 hn hop h hS)
      .cases hl
     .cases hl
   |some hi=>
    cases mx with
    |some mx=>simp[pN]at hl
    |none=>
     simp only[pN]at hl;split at hl
     .rename_i e1 e2 e3;split at hl
      .rename_i hn;cases hl;exact p7 rfl rfl (Zsy e1 e2 e3 hn hop h hS)
      .cases hl
     .rename_i e1 e2 e3;split at hl
      .rename_i hn;cases hl;exact p7 rfl rfl (Zsx e1 e2 e3 hn hop h hS)
      .cases hl
     .cases hl
 all_goals (simp[pN]at hl)
theorem ZlX {y:V5}(hl:nS P o.op=some y)(h:cC y d K σ)(hS:Sat N w0 m0 pl σ ρ m act w):
  oA P N w0 m0 pl o act w K/\(∀G:World->Prop,y.still=true->dB G P σ ρ m o act w K)/\(y.read=true->dB (fW σ ρ m w) P σ ρ m o act w K):=by
 have still:(∀G:World->Prop,dB G P σ ρ m o act w K)->oA P N w0 m0 pl o act w K/\(∀G:World->Prop,y.still=true->dB G P σ ρ m o act w K)/\(y.read=true->dB (fW σ ρ m w) P σ ρ m o act w K):=
  fun h=>⟨(h (fun _=>True)).res trivial hS,fun G _=>h G,fun _=>h _⟩
 have p7:y.still=false->y.read=false->oA P N w0 m0 pl o act w K->oA P N w0 m0 pl o act w K/\(∀G:World->Prop,y.still=true->dB G P σ ρ m o act w K)/\(y.read=true->dB (fW σ ρ m w) P σ ρ m o act w K):=
  fun hn hr h=>⟨h,fun G e=>(by rw[hn]at e;cases e),fun e=>(by rw[hr]at e;cases e)⟩
 cases hop:o.op<;>rw[hop]at hl
 case binOp op t x y u=>
  cases op
  case add=>
   simp only[nS]at hl;split at hl
   .rename_i e1 e2 e3;cases hl;exact still fun G=>Zpq e1 e2 hop h hS
   .cases hl
  case eql=>
   simp only[nS]at hl;split at hl
   .rename_i e1 e2 e3;cases hl;exact still fun G=>ZnR (neg:=false) e1 e2 e3 hop h hS
   .cases hl
  case neq=>
   simp only[nS]at hl;split at hl
   .rename_i e1 e2 e3;cases hl;exact still fun G=>ZnR (neg:=true) e1 e2 e3 hop h hS
   .cases hl
  all_goals (simp[nS]at hl)
 case makeInterface t x=>
  simp only[nS]at hl;split at hl
  .cases hl
  .rename_i e1 e2 e3;cases hl;exact still fun G=>Zth e2 e3 (fun ms k=>e1 ms k) hop h hS
  .cases hl
 case alloc t=>
  simp only[nS]at hl;split at hl
  .rename_i v hv;split at hl
   .rename_i hc;split at hl
    .cases hl;exact p7 rfl rfl (Zuj hv hc hop h hS)
    .cases hl
   .cases hl
  .cases hl
 case panic x=>
  simp only[nS]at hl;split at hl
  .cases hl;exact h.elim
  .cases hl
 case typeAssert x s t c=>
  cases c
  .simp[nS]at hl
  .simp only[nS]at hl;split at hl
   .cases hl
   .rename_i e1 e2 e3 e4;cases hl;exact still fun G=>Zsg e2 e3 (fun ms k=>e1 ms k) e4 hop h hS
   .cases hl
 case index t x i=>
  simp only[nS]at hl;split at hl
  .rename_i e1 e2 e3;cases hl;exact still fun G=>Zpp e1 e2 e3 hop h hS
  .cases hl
 case slice t x lo hi mx=>
  cases mx with
  |some mx=>simp[nS]at hl
  |none=>
   simp only[nS]at hl;split at hl
   .rename_i e1 e2 e3 e4;cases hl;exact still fun G=>Zsp e1 e2 e3 e4 hop h hS
   .cases hl
 case convert src dst x=>
  simp only[nS]at hl;split at hl
  .rename_i e1 e2 e3;split at hl
   .rename_i e4;cases hl;exact p7 rfl rfl (Zsu e1 e2 e4 e3 hop h hS)
   .cases hl
  .rename_i e1 e2 e3;split at hl
   .rename_i e4;cases hl;exact p7 rfl rfl (Zpr e1 e2 e3 e4 hop h hS)
   .cases hl
  .cases hl
 case call c=>
  simp only[nS]at hl;split at hl
  .rename_i hc;split at hl
   .rename_i ha ht;split at hl
    .rename_i e1 e2;cases hl;exact still fun G=>Zpm e1 e2 hc ha ht hop h hS
    .cases hl
   .cases hl
  .rename_i hc;split at hl
   .rename_i ha ht;split at hl
    .rename_i e1 e2 e3 e4;split at hl
     .rename_i e5 e6;split at hl
      .rename_i hn;cases hl;exact p7 rfl rfl (Zt8 e1 e2 e3 e5 e6 rfl hn.1 e4 hn.2 hc ha ht hop h hS)
      .cases hl
     .cases hl
    .cases hl
   .cases hl
  .cases hl
 all_goals (simp[nS]at hl)
theorem Zdv {y:V5}(hl:W6 P o.op=some y)(h:cC y d K σ)(hS:Sat N w0 m0 pl σ ρ m act w):
  oA P N w0 m0 pl o act w K/\(∀G:World->Prop,y.still=true->dB G P σ ρ m o act w K)/\(y.read=true->dB (fW σ ρ m w) P σ ρ m o act w K):=by
 unfold W6 at hl;split at hl
 .rename_i y' hx;cases hl;exact ZlW hx h hS
 .exact ZlX hl h hS
theorem ZpV (hn:∀f l,aZ P o.op≠.call f l)(h:bY (aZ P o.op) d K σ)(hS:Sat N w0 m0 pl σ ρ m act w):oA P N w0 m0 pl o act w K:=by
 unfold aZ at h hn;split at h
 .rename_i y hl;exact(Zdv hl h hS).1
 .rename_i hl;rw[hl]at hn;exact ZnH hn h hS
theorem Zs6 {e n bytes:Nat}{x' y':bA}(hn:aZ P o.op=.app e n bytes x' y')(h:bY (aZ P o.op) d K σ)(hS:Sat N w0 m0 pl σ ρ m act w):F4 (∃nl,σ.o x'=.pv (.emp nl)) P N w0 m0 pl o act w K:=by
 unfold aZ at h hn;split at h
 .rename_i y hl;rw[hl]at hn;cases hn
 .rename_i hl;rw[hl]at hn;exact ZpX hn h hS
theorem ZpU {G:World->Prop}(hn:(aZ P o.op).still=true)(h:bY (aZ P o.op) d K σ)(hS:Sat N w0 m0 pl σ ρ m act w):dB G P σ ρ m o act w K:=by
 unfold aZ at h hn;split at h
 .rename_i y hl;rw[hl]at hn;exact(Zdv hl h hS).2.1 G hn
 .rename_i hl;rw[hl]at hn;exact ZnG hn h hS
theorem Zs5 (hn:(aZ P o.op).FE=true)(h:bY (aZ P o.op) d K σ)(hS:Sat N w0 m0 pl σ ρ m act w):dB (fW σ ρ m w) P σ ρ m o act w K:=by
 unfold aZ at h hn;split at h
 .rename_i y hl;rw[hl]at hn;exact(Zdv hl h hS).2.2 hn
 .rename_i hl;rw[hl]at hn;dsimp only at hn;refine ZpW ?_ h hS;cases hx:mX P o.op<;>rw[hx]at hn<;>first|exact⟨_,_,_,rfl⟩|(exact absurd hx Ziu)|cases hn
theorem ZfK {f:bA}{l:List bA}(h:aZ P o.op=.call f l):mX P o.op=.call f l:=by
 unfold aZ at h;split at h
 .cases h
 .exact h
theorem ZlY {h:lU}(hh:aZ P o.op=h)(hx:∀y,h≠.x y):mX P o.op=h:=by
 unfold aZ at hh;split at hh
 .rename_i y _;exact absurd hh.symm (hx y)
 .exact hh
end
end Go.Proofs.YtlllhbmbnjnoiaaGreatDoor
