import Derived.WalkKit
import Derived.Lib.Hide
import Derived.Lib.ItoaNum
import Derived.WalkSpells
import Derived.Deep.MidRow
import Derived.Laws.CopyRow
import Derived.Laws.Tables
import Derived.Laws.MakeOwn
import Derived.Laws.Small
import Derived.Great.BuildSlice
import Derived.Laws.Cover3
import Derived.Laws.Pointers
import Derived.DeepKeys3
import Derived.MapKept
import Derived.RangeFuncRecord
import Derived.Laws.Concat
import Derived.Laws.BytesString
import Derived.Laws.AppendOwn
import Derived.Deep.AppendSrc
import Derived.Lib.ConvBytes
set_option linter.unusedSimpArgs false
set_option linter.unusedVariables false
namespace Go.Proofs
set_option linter.defProp false
def tG:=@Nat.le_of_ble_eq_true
def aX:=@List.getElem?_eq_getElem
def bR:=@List.getElem?_map
def bZ:=@List.getElem?_eq_some_iff
def dK:=@Bool.and_eq_true
def dL:=@List.mem_of_getElem?
def eA:=@Option.map_eq_some_iff
def fE:=@Nat.le_refl
def fH:=@List.take_of_length_le
def fQ:=@List.length_map
def fT:=@Nat.zero_le
def gE:=@List.length_append
def gI:=@List.length_take
def iM:=@List.mem_iff_getElem?
def iL:=@List.mem_map
def iQ:=@List.map_cons
def iY:=@List.mem_filter
def jF:=@List.contains_iff_mem
def jQ:=@List.mem_cons
def lJ:=@Nat.le_trans
def lI:=@List.map_append
def lX:=@List.take_add_one
def mG:=@List.getElem?_take
def mW:=@List.getElem?_drop
def nC:=@List.take_length
def s6:=@List.findIdx?_cons
def oT:=@List.any_eq_true
def pA:=@List.length_cons
def qD:=@Array.getElem?_eq_some_iff
def qQ:=@Bool.eq_iff_iff
def qZ:=@List.all_eq_true
def rU:=@List.mem_singleton
def rT:=@Nat.zero_add
def rS:=@Option.getD_some
def rR:=@Bool.or_eq_true
def sE:=@List.mem_append
def uG:=@List.length_drop
def uV:=@Array.length_toList
def uU:=@Option.map_some
def uT:=@Array.getElem?_eq_getElem
def wW:=@List.append_nil
def xL:=@List.filter_cons
def yU:=@Array.toList_inj
def yT:=@List.size_toArray
def yS:=@List.getElem?_append
def zX:=@List.getElem_mem
def I2:=@Nat.mul_le_mul_right
def I1:=@List.getElem?_toArray
def I0:=@List.append_assoc
def H9:=@List.filter_append
def H8:=@List.pairwise_cons
def H7:=@Int.toNat_natCast
def O7:=@Array.getElem?_toList
def O6:=@List.getElem?_set_self
def R0:=@List.pairwise_iff_getElem
def R3:=@List.length_filter_le
def AF:=@List.drop_eq_getElem_cons
def DS:=@List.nodup_iff_pairwise_ne
def JL:=@List.findIdx?_eq_some_iff_getElem
end Go.Proofs
set_option maxHeartbeats 32000000
set_option maxRecDepth 100000
namespace Go.Proofs.YthmbecacehfgfaaGreatDoor
open Go.RowKit
abbrev Ext (w w':World):Prop:=Below w.heap.size w w'
theorem Ext.tH (w:World):Ext w w:=Below.refl _ _
theorem Ext.trans' {a b c:World}(h:Ext a b)(k:Ext b c):Ext a c:=Below.trans h (Below.mono k h.size)
theorem Ext.al (w:World)(o:Obj):Ext w (w.alloc o):=(Below.refl _ _).alloc (fE _) o
theorem Ext.dr (w:World):Ext w w.drew:=(Below.refl _ _).drew
theorem up {b n:Nat}(h:b<n):b<n+1/\b<n+1+1/\b<n+1+1+1/\b<n+1+1+1+1/\b<n+1+1+1+1+1/\b<n+1+1+1+1+1+1:=by omega
theorem AQ {w:World}{b o:Nat}{v:Value}(h:w.cell? ⟨b,o,none⟩=some v):b<w.heap.size:=by
 unfold World.cell? at h;cases hb:w.heap[b]? with
 |none=>simp[hb]at h
 |some x=>exact(qD.1 hb).1
theorem Ext.cell {w w':World}(h:Ext w w'){b o:Nat}{v:Value}(hc:w.cell? ⟨b,o,none⟩=some v):w'.cell? ⟨b,o,none⟩=some v:=
 (Below.cell h (p:=⟨b,o,none⟩) (AQ hc)).trans hc
abbrev Mem:=Nat->Nat->Option Value
def _root_.Go.World.mem (w:World):Mem:=fun b o=>w.cell? ⟨b,o,none⟩
instance:Coe World Mem:=⟨World.mem⟩
def Le (m m':Mem):Prop:=∀b o v,m b o=some v->m' b o=some v
theorem Le.refl (m:Mem):Le m m:=fun _ _ _ h=>h
theorem Le.trans {a b c:Mem}(h:Le a b)(k:Le b c):Le a c:=fun x o v e=>k x o v (h x o v e)
theorem Ext.le {w w':World}(h:Ext w w'):Le w.mem w'.mem:=fun _ _ _ hc=>h.cell hc
def At (m:Mem)(b:Nat):Nat->List Value->Prop
 |_,[]=>True
 |o,c::cs=>m b o=some c/\At m b (o+1) cs
theorem At.mono {m m':Mem}(h:Le m m'){b:Nat}:∀{cs:List Value} {o:Nat},At m b o cs->At m' b o cs
 |[],_,_=>trivial
 |_::_,_,⟨h1,h2⟩=>⟨h _ _ _ h1,At.mono h h2⟩
theorem At.get {m:Mem}{b:Nat}:∀{cs:List Value} {o:Nat},At m b o cs->∀(j:Nat) (u:Value),cs[j]?=some u->m b (o+j)=some u
 |[],_,_,j,u,h=>by simp at h
 |c::cs,o,⟨h1,h2⟩,0,u,h=>by simp at h;subst h;exact h1
 |c::cs,o,⟨h1,h2⟩,j+1,u,h=>by
  have:=At.get h2 j u (by simpa using h)
  rwa [show o+(j+1)=o+1+j by omega]
theorem At.j3 {m:Mem}{b:Nat}:∀{cs:List Value} {o:Nat},(∀(j:Nat) (u:Value),cs[j]?=some u->m b (o+j)=some u)->At m b o cs
 |[],_,_=>trivial
 |c::cs,o,h=>⟨h 0 c rfl,At.j3 (fun j u hj=>by have:=h (j+1) u (by simpa using hj);rwa [show o+1+j=o+(j+1) by omega])⟩
structure R (α:Type) where
 n:Nat
 r:Mem->List Value->α->Prop
 mono:∀{m m':Mem} {cs:List Value} {x:α},Le m m'->r m cs x->r m' cs x
 len:∀{m:Mem} {cs:List Value} {x:α},r m cs x->cs.length=n
 one:∀{m:Mem} {cs:List Value} {x:α},r m cs x->∀u∈cs,u.oneCell'=true
 npos:0<n
section
variable {α:Type}{a:R α}{e:TypeId}{S:List Nat}{w w':World}{v:Value}{xs:List α}
end
theorem Zvh {b o j:Nat}:(⟨b,o,none⟩:Addr).add j=⟨b,o+j,none⟩:=by unfold Addr.add;split<;>simp_all
section
variable {P:Program}{α:Type}{a:R α}{t ty e:TypeId}{bytes:Nat}{S:List Nat}{w:World}{v:Value}{xs ys:List α}{ad:Option Addr}{cp:Nat}
end
def nL (m:Mem)(w:World):Prop:=(∃z,m 1 0=some (.int .i64 z))/\(∃t p,m 2 0=some (.iface t p))/\(∃t p,m 3 0=some (.iface t p))/\(∃v,m 0 0=some v)/\
 ∃t fr,w.heap[0]?=some (.cells (Lib.pow10Tab.map (Value.int .u64)).toArray t fr)
theorem nL.mono {m m':Mem}{w:World}(h:nL m w)(hm:Le m m'):nL m' w:=
 let ⟨⟨z,h1⟩,⟨t,p,h2⟩,⟨t',p',h3⟩,⟨v,h4⟩,h5⟩:=h
 ⟨⟨z,hm _ _ _ h1⟩,⟨t,p,hm _ _ _ h2⟩,⟨t',p',hm _ _ _ h3⟩,⟨v,hm _ _ _ h4⟩,h5⟩
theorem nL.keep {m:Mem}{w w':World}(h:nL m w)(hk:∀k o v,k<w.heap.size->m k o=some v->w'.heap[k]?=w.heap[k]?):nL m w':=by
 obtain⟨h1,h2,h3,⟨v,h4⟩,t,fr,h5⟩:=h;exact⟨h1,h2,h3,⟨v,h4⟩,t,fr,by rw[hk _ 0 v (qD.1 h5).1 h4];exact h5⟩
inductive PV where
 |int (k:IntKind) (n:Int)
 |bool (b:Bool)
 |str (s:ByteArray)
 |eU
 |dP
 |cR
 |eV
 |P6
 |emp (nl:Option Bool)
 |aE (nn:Bool) (n:Nat) (xs:List PV)
 |ref (cs:List PV)
 |fn (f:FuncId) (fs cs:List PV)
 |agg (cs:List PV)
 |bM (vs:List PV)
 |iface (t:TypeId) (x:PV)
 deriving Inhabited
def PV.cells:PV->List PV
 |.agg cs=>cs
 |x=>[x]
abbrev JT (A:Addr):Prop:=A.spot=A.spot
inductive dG (m:Mem):Value->PV->Prop where
 |int (k n):dG m (.int k n) (.int k n)
 |bool (b):dG m (.bool b) (.bool b)
 |str (s):dG m (.string s) (.str s)
 |eU:dG m (.pointer none) .eU
 |dP:dG m .nilFunc .dP
 |cR:dG m (.map none) .cR
 |eV:dG m .nilIface .eV
 |P6 (v:Value) (h:v.oneCell'=true):dG m v .P6
 |emp (a:Option Addr) (nl:Option Bool) (h0:nl=some true->a=none) (h1:nl=some false->a≠none) (h2:∀A,a=some A->JT A):dG m (.slice a 0 0) (.emp nl)
 |aE (a:Option Addr) (cap:Nat) (nn:Bool) (n:Nat) (xs:List PV) (ds:Nat->List Value) (h0:xs.length<=cap) (h1:cap<=9223372036854775807)
   (h2:a=none->cap=0) (h3:∀A,a=some A->JT A) (h4:nn=true->a≠none)
   (h5:∀(i:Nat) (x:PV),xs[i]?=some x->∃b o,a=some ⟨b,o,none⟩/\At m b (o+i*n) (ds i))
   (h6:∀(i:Nat) (x:PV),xs[i]?=some x->(ds i).length=n/\x.cells.length=n/\∀d∈ds i,d.oneCell'=true)
   (h7:∀(i:Nat) (x:PV) (j:Nat) (d:Value) (c:PV),xs[i]?=some x->(ds i)[j]?=some d->x.cells[j]?=some c->dG m d c):dG m (.slice a xs.length cap) (.aE nn n xs)
 |ref (b o:Nat) (cs:List PV) (ds:List Value) (h0:At m b o ds) (h1:ds.length=cs.length) (h2:∀d∈ds,d.oneCell'=true)
   (h3:∀(j:Nat) (d:Value) (c:PV),ds[j]?=some d->cs[j]?=some c->dG m d c):dG m (.pointer (some ⟨b,o,none⟩)) (.ref cs)
 |fn (f:FuncId) (vf vc:Array Value) (fs cs:List PV) (h0:vf.size=fs.length) (h1:vc.size=cs.length)
   (h2:∀(j:Nat) (d:Value) (c:PV),vf[j]?=some d->fs[j]?=some c->dG m d c) (h3:∀(j:Nat) (d:Value) (c:PV),vc[j]?=some d->cs[j]?=some c->dG m d c):dG m (.func (.func f) vf vc) (.fn f fs cs)
 |agg (vs:Array Value) (cs:List PV) (h0:vs.size=cs.length) (h1:∀d∈vs,d.oneCell'=true) (h2:∀(j:Nat) (d:Value) (c:PV),vs[j]?=some d->cs[j]?=some c->dG m d c):dG m (.agg vs) (.agg cs)
 |bM (vs:Array Value) (cs:List PV) (h0:vs.size=cs.length) (h2:∀(j:Nat) (d:Value) (c:PV),vs[j]?=some d->cs[j]?=some c->dG m d c):dG m (.tuple vs) (.bM cs)
 |iface (t:TypeId) (v:Value) (x:PV) (h:dG m v x):dG m (.iface t v) (.iface t x)
theorem dG.mono {m m':Mem}(hm:Le m m'){v:Value}{x:PV}(h:dG m v x):dG m' v x:=by
 induction h with
 |int k n=>exact .int k n
 |bool b=>exact .bool b
 |str s=>exact .str s
 |eU=>exact .eU
 |dP=>exact .dP
 |cR=>exact .cR
 |eV=>exact .eV
 |P6 v h=>exact .P6 v h
 |emp a nl h0 h1 h2=>exact .emp a nl h0 h1 h2
 |aE a cap nn n xs ds h0 h1 h2 h3 h4 h5 h6 h7 ih=>exact .aE a cap nn n xs ds h0 h1 h2 h3 h4 (fun i x hx=>let ⟨b,o,e,k⟩:=h5 i x hx;⟨b,o,e,k.mono hm⟩) h6 ih
 |ref b o cs ds h0 h1 h2 h3 ih=>exact .ref b o cs ds (h0.mono hm) h1 h2 ih
 |fn f vf vc fs cs h0 h1 h2 h3 ih1 BS=>exact .fn f vf vc fs cs h0 h1 ih1 BS
 |agg vs cs h0 h1 h2 ih=>exact .agg vs cs h0 h1 ih
 |bM vs cs h0 h2 ih=>exact .bM vs cs h0 ih
 |iface t v x h ih=>exact .iface t v x ih
inductive Site where
 |par (i:Nat)
 |loc (d j:Nat)
 |ret (j:Nat)
 deriving DecidableEq,Inhabited
def Site.fP (d:Nat):Site->Bool
 |.loc e _=>d==e
 |_=>false
structure Loc where
 b:Nat
 o:Nat
 cap:Nat
 real:Bool
 deriving Inhabited
inductive AV where
 |any
 |pv (x:PV)
 |ptr (s:Site) (off:Nat)
 |lB (s:Site) (n i off:Nat)
 |vec (s:Site) (n lo len:Nat)
 |mp (s:Site)
 |nM (s:Site)
 |fn (f:FuncId) (fs cs:List AV)
 |agg (cs:List AV)
 |bM (vs:List AV)
 deriving Inhabited
def AV.cells:AV->List AV
 |.agg cs=>cs
 |.pv (.agg cs)=>cs.map .pv
 |a=>[a]
inductive bN (ρ:Site->Loc)(m:Mem):Value->AV->Prop where
 |any (v):bN ρ m v .any
 |pv (v x) (h:dG m v x):bN ρ m v (.pv x)
 |ptr (s off):bN ρ m (.pointer (some ⟨(ρ s).b,off,none⟩)) (.ptr s off)
 |lB (s n i off):bN ρ m (.pointer (some ⟨(ρ s).b,(ρ s).o+i*n+off,none⟩)) (.lB s n i off)
 |vec (s n lo len cap) (h0:len<=cap) (h1:lo+cap<=(ρ s).cap) (h2:(ρ s).real=true):bN ρ m (.slice (some ⟨(ρ s).b,(ρ s).o+lo*n,none⟩) len cap) (.vec s n lo len)
 |nE (s n lo a) (h:∀A,a=some A->JT A):bN ρ m (.slice a 0 0) (.vec s n lo 0)
 |mp (s):bN ρ m (.map (some (ρ s).b)) (.mp s)
 |nM (s):bN ρ m (.func (.yield (ρ s).b) #[] #[]) (.nM s)
 |fn (f:FuncId) (vf vc:Array Value) (fs cs:List AV) (h0:vf.size=fs.length) (h1:vc.size=cs.length)
   (h2:∀(j:Nat) (d:Value) (c:AV),vf[j]?=some d->fs[j]?=some c->bN ρ m d c) (h3:∀(j:Nat) (d:Value) (c:AV),vc[j]?=some d->cs[j]?=some c->bN ρ m d c):bN ρ m (.func (.func f) vf vc) (.fn f fs cs)
 |agg (vs:Array Value) (cs:List AV) (h0:vs.size=cs.length) (h1:∀d∈vs,d.oneCell'=true) (h2:∀(j:Nat) (d:Value) (c:AV),vs[j]?=some d->cs[j]?=some c->bN ρ m d c):bN ρ m (.agg vs) (.agg cs)
 |bM (vs:Array Value) (cs:List AV) (h0:vs.size=cs.length) (h2:∀(j:Nat) (d:Value) (c:AV),vs[j]?=some d->cs[j]?=some c->bN ρ m d c):bN ρ m (.tuple vs) (.bM cs)
mutual
def AV.has (d:Nat):AV->Bool
 |.any=>false
 |.pv _=>false
 |.ptr s _=>s.fP d
 |.lB s _ _ _=>s.fP d
 |.vec s _ _ _=>s.fP d
 |.mp s=>s.fP d
 |.nM s=>s.fP d
 |.fn _ fs cs=>AV.qR d fs||AV.qR d cs
 |.agg cs=>AV.qR d cs
 |.bM vs=>AV.qR d vs
def AV.qR (d:Nat):List AV->Bool
 |[]=>false
 |a::r=>AV.has d a||AV.qR d r
end
theorem AV.NS {d:Nat}:∀{l:List AV} {i:Nat} {a:AV},AV.qR d l=false->l[i]?=some a->a.has d=false
 |[],i,a,_,h=>by simp at h
 |b::r,0,a,hl,h=>by
  simp[AV.qR]at hl h;subst h;exact hl.1
 |b::r,i+1,a,hl,h=>by
  simp only[AV.qR,Bool.or_eq_false_iff]at hl;exact AV.NS hl.2 (by simpa using h)
theorem bN.mono {ρ bW:Site->Loc}{m m':Mem}(hm:Le m m'){d:Nat}(K3:∀s,s.fP d=false->bW s=ρ s){v:Value}{a:AV}(h:bN ρ m v a)(ha:a.has d=false):bN bW m' v a:=by
 induction h with
 |any v=>exact .any v
 |pv v x h=>exact .pv v x (h.mono hm)
 |ptr s off=>rw[AV.has]at ha;rw[<-K3 s ha];exact .ptr s off
 |lB s n i off=>rw[AV.has]at ha;rw[<-K3 s ha];exact .lB s n i off
 |vec s n lo len cap h0 h1 h2=>rw[AV.has]at ha;rw[<-K3 s ha]at h1 h2 ⊢;exact .vec s n lo len cap h0 h1 h2
 |nE s n lo a h=>exact .nE s n lo a h
 |mp s=>rw[AV.has]at ha;rw[<-K3 s ha];exact .mp s
 |nM s=>rw[AV.has]at ha;rw[<-K3 s ha];exact .nM s
 |fn f vf vc fs cs h0 h1 h2 h3 BS PB=>
  simp only[AV.has,Bool.or_eq_false_iff]at ha;exact .fn f vf vc fs cs h0 h1 (fun j d c k1 k2=>BS j d c k1 k2 (AV.NS ha.1 k2)) (fun j d c k1 k2=>PB j d c k1 k2 (AV.NS ha.2 k2))
 |agg vs cs h0 h1 h2 ih=>
  rw[AV.has]at ha;exact .agg vs cs h0 h1 (fun j d c k1 k2=>ih j d c k1 k2 (AV.NS ha k2))
 |bM vs cs h0 h2 ih=>
  rw[AV.has]at ha;exact .bM vs cs h0 (fun j d c k1 k2=>ih j d c k1 k2 (AV.NS ha k2))
theorem bN.more {ρ:Site->Loc}{m m':Mem}(hm:Le m m'){v:Value}{a:AV}(h:bN ρ m v a):bN ρ m' v a:=by
 induction h with
 |any v=>exact .any v
 |pv v x h=>exact .pv v x (h.mono hm)
 |ptr s off=>exact .ptr s off
 |lB s n i off=>exact .lB s n i off
 |vec s n lo len cap h0 h1 h2=>exact .vec s n lo len cap h0 h1 h2
 |nE s n lo a h=>exact .nE s n lo a h
 |mp s=>exact .mp s
 |nM s=>exact .nM s
 |fn f vf vc fs cs h0 h1 h2 h3 BS PB=>exact .fn f vf vc fs cs h0 h1 BS PB
 |agg vs cs h0 h1 h2 ih=>exact .agg vs cs h0 h1 ih
 |bM vs cs h0 h2 ih=>exact .bM vs cs h0 ih
structure Ic where
 rd:Loc->Mem->World->Prop
 ins:Loc->World->List Nat
 same:∀(l:Loc) (w w':World),w'.heap[l.b]?=w.heap[l.b]?->ins l w'=ins l w
 obj:∀(l:Loc) (m:Mem) (w:World),rd l m w->∃cs T,w.heap[l.b]?=some (.cells cs T (0,0))
 vY:∀(l:Loc) (m:Mem) (w:World) (k:Nat),rd l m w->k∈ins l w->∃cs T,w.heap[k]?=some (.cells cs T (0,0))
 more:∀(l:Loc) (m m':Mem) (w w':World),rd l m w->Le m m'->w'.heap[l.b]?=w.heap[l.b]?->(∀k∈ins l w,w'.heap[k]?=w.heap[k]?)->rd l m' w'
inductive aL where
 |cells (cs:List AV)
 |arr (e:TypeId) (n:Nat) (xs:List PV)
 |map (es:List (PV×PV))
 |loop (C:Code×Code) (ps:List Nat) (nt:Nat) (tm:List (Nat×AV)) (st:Option Code)
 |ext (E:Ic)
 deriving Inhabited
def ins (w:World)(l:Loc):aL->List Nat
 |.ext E=>E.ins l w
 |_=>[]
def fL (ρ:Site->Loc)(w:World)(s:Site)(b:aL)(k:Nat):Prop:=((ρ s).real=true/\(ρ s).b=k)\/k∈ins w (ρ s) b
def kO (ρ:Site->Loc)(m:Mem)(w:World)(s:Site):aL->Prop
 |.cells bU=>(ρ s).real=true/\∃cs T,w.heap[(ρ s).b]?=some (.cells cs T (0,0))/\cs.size=bU.length/\∀(i:Nat) (c:Value) (a:AV),cs[i]?=some c->bU[i]?=some a->c.oneCell'=true/\bN ρ m c a
 |.arr e n xs=>0<n/\(((ρ s).real=false/\xs=[]/\(ρ s).cap=0)\/((ρ s).real=true/\∃cs,w.heap[(ρ s).b]?=some (.cells cs e (0,0))/\(ρ s).o+(ρ s).cap*n<=cs.size/\xs.length<=(ρ s).cap/\(ρ s).cap<=maxLen/\
   ∀(i:Nat) (x:PV),xs[i]?=some x->x.cells.length=n/\∀(j:Nat) (c:PV),x.cells[j]?=some c->∃d,cs[(ρ s).o+i*n+j]?=some d/\d.oneCell'=true/\dG m d c))
 |.map es=>(ρ s).real=true/\∃fC clock,w.heap[(ρ s).b]?=some (.map fC clock)/\fC.size=es.length/\∀(i:Nat) (e:MapEntry) (p:PV×PV),fC[i]?=some e->es[i]?=some p->dG m e.key p.1/\dG m e.val p.2
 |.loop C ps nt tm st=>(ρ s).real=true/\∃r:Loop,w.heap[(ρ s).b]?=some (.loop r)/\(r.state=match st with|none=>.ready|some _=>.done)/\r.pending=st/\r.params=ps.toArray/\r.assign=C.1/\r.body=C.2/\r.tmps.size=nt/\
   ∀(t:Nat) (a:AV),tm.lookup t=some a->∃v,r.tmps[t]?=some v/\bN ρ m v a
 |.ext E=>(ρ s).real=true/\E.rd (ρ s) m w
def aL.has (d:Nat):aL->Bool
 |.cells bU=>AV.qR d bU
 |.loop _ _ _ tm _=>AV.qR d (tm.map (·.2))
 |_=>false
structure AS where
 tm:List (Nat×AV)
 bx:List (Site×aL)
def AS.t (σ:AS)(k:Nat):Option AV:=σ.tm.lookup k
def AS.b (σ:AS)(s:Site):Option aL:=σ.bx.lookup s
structure cV (bs:List Nat)(w w':World):Prop where
 os:w'.os=w.os
 tape:w'.tape=w.tape
 output:w'.output=w.output
 size:w.heap.size<=w'.heap.size
 block:∀k,k<w.heap.size->k∉bs->w'.heap[k]?=w.heap[k]?
theorem cV.tH (bs:List Nat)(w:World):cV bs w w:=⟨rfl,rfl,rfl,fE _,fun _ _ _=>rfl⟩
theorem cV.trans {bs:List Nat}{a b c:World}(h:cV bs a b)(k:cV bs b c):cV bs a c:=
 ⟨k.os.trans h.os,k.tape.trans h.tape,k.output.trans h.output,lJ h.size k.size,fun i hi hn=>(k.block i (Nat.lt_of_lt_of_le hi h.size) hn).trans (h.block i hi hn)⟩
theorem cV.ext {w w':World}(h:cV [] w w'):Ext w w':=⟨h.os,h.tape,h.output,h.size,fun k hk=>h.block k hk (by simp)⟩
theorem cV.Ex {w w':World}(h:Ext w w')(bs:List Nat):cV bs w w':=⟨h.os,h.tape,h.output,h.size,fun k hk _=>h.block k hk⟩
structure Env (w0:World) where
 m:Mem
 ρ:Site->Loc
 rest:List Deferred
 uB:nL m w0
 strict:Bool
def WL (D:Nat):Deferred:={ target:=.collected D,args:=#[]}
def Ff (m0 m:Mem)(pl:List Nat):Prop:=Le m0 m/\∀k∈pl,∀o,m0 k o=none
theorem Ff.trans {a b c:Mem}{pl:List Nat}(h:Ff a b pl)(k:Le b c):Ff a c pl:=⟨h.1.trans k,h.2⟩
def Ib (rest:List Deferred)(ds:List Nat)(l:List Deferred):Prop:=∃d1 d2,ds=d1++d2/\l=d1.map WL++rest++d2.map WL
theorem Ib.nil {ds:List Nat}{l:List Deferred}(h:Ib [] ds l):l=ds.map WL:=by
 obtain⟨d1,d2,rfl,rfl⟩:=h;simp
def Nod (b:Bool)(ds:List Nat):Prop:=ds.Nodup/\(b=true->ds=[])
theorem yA {b:Bool}:Nod b []:=⟨by simp,fun _=>rfl⟩
theorem B7:Ib [] [] []:=⟨[],[],rfl,rfl⟩
structure Sat (N:Nat)(w0:World)(m0:Env w0)(pl:List Nat)(σ:AS)(ρ:Site->Loc)(m:Mem)(act:Act)(w:World):Prop where
 sA:∃ds:List Nat,Ib m0.rest ds act.defers/\Nod m0.strict ds/\∀D∈ds,(w0.heap.size<=D\/D∈pl)/\w.heap[D]?=some (.deferred (some []))
 sz:act.tmps.size=N
 tm:∀t a,σ.t t=some a->∃v,act.tmps[t]?=some v/\bN ρ m v a
 bx:∀s b,σ.b s=some b->kO ρ m w s b
 dZ:∀s s' b b' k,σ.b s=some b->σ.b s'=some b'->fL ρ w s b k->fL ρ w s' b' k->s=s'
 mem:Le m w.mem
 eM:∀s b k,σ.b s=some b->fL ρ w s b k->∀o,m k o=none
 fM:∀s b k,σ.b s=some b->fL ρ w s b k->w0.heap.size<=k\/k∈pl
 keep:cV pl w0 w
 base:Ff m0.m m pl
 qB:∀b o v,m b o=some v->m0.m b o=some v\/w0.heap.size<=b\/b∈pl
 par:∀i,ρ (.par i)=m0.ρ (.par i)
theorem mX {α β:Type}[BEq α][LawfulBEq α]{k:α}{v:β}{l:List (α×β)}:List.lookup k ((k,v)::l)=some v:=by simp[List.lookup]
theorem jG {α β:Type}[BEq α][LawfulBEq α]{k k':α}{v:β}{l:List (α×β)}(h:k≠k'):List.lookup k ((k',v)::l)=List.lookup k l:=by
 have:(k==k')=false:=by simpa using h
 simp[List.lookup,this]
theorem xN {ρ:Site->Loc}{w:World}{s:Site}{b:aL}(hr:(ρ s).real=true):fL ρ w s b (ρ s).b:=.inl ⟨hr,rfl⟩
section
variable {N:Nat}{w0:World}{m0:Env w0}{pl:List Nat}{σ:AS}{ρ:Site->Loc}{m:Mem}{act:Act}{w:World}
theorem Sat.inj (h:Sat N w0 m0 pl σ ρ m act w)(s s':Site)(b b':aL)(k:σ.b s=some b)(k':σ.b s'=some b')(r:(ρ s).real=true)(r':(ρ s').real=true)(e:(ρ s).b=(ρ s').b):s=s':=
 h.dZ s s' b b' _ k k' (xN r) (by rw[e];exact xN r')
theorem Sat.off (h:Sat N w0 m0 pl σ ρ m act w)(s:Site)(b:aL)(k:σ.b s=some b)(r:(ρ s).real=true):∀o,m (ρ s).b o=none:=h.eM s b _ k (xN r)
theorem Sat.own (h:Sat N w0 m0 pl σ ρ m act w)(s:Site)(b:aL)(k:σ.b s=some b)(r:(ρ s).real=true):w0.heap.size<=(ρ s).b\/(ρ s).b∈pl:=h.fM s b _ k (xN r)
end
theorem Sat.uB {N:Nat}{w0:World}{m0:Env w0}{pl:List Nat}{σ:AS}{ρ:Site->Loc}{m:Mem}{act:Act}{w:World}(h:Sat N w0 m0 pl σ ρ m act w):nL m w:=
 (m0.uB.keep fun k o v hk hv=>h.keep.block k hk fun hp=>by rw[h.base.2 k hp o]at hv;cases hv).mono h.base.1
theorem Zqf {w w':World}{l:Loc}{b:aL}(h:w'.heap[l.b]?=w.heap[l.b]?):ins w' l b=ins w l b:=by
 cases b with
 |ext E=>exact E.same _ _ _ h
 |_=>rfl
theorem kO.vY {ρ:Site->Loc}{m:Mem}{w:World}{s:Site}{b:aL}(h:kO ρ m w s b){k:Nat}(hk:k∈ins w (ρ s) b):∃cs T,w.heap[k]?=some (.cells cs T (0,0)):=by
 cases b with
 |ext E=>exact E.vY _ _ _ _ h.2 hk
 |_=>cases hk
theorem kO.lt {ρ:Site->Loc}{m:Mem}{w:World}{s:Site}{b:aL}(h:kO ρ m w s b)(hr:(ρ s).real=true):(ρ s).b<w.heap.size:=by
 cases b with
 |cells bU=>obtain⟨_,cs,T,h1,_⟩:=h;exact(qD.1 h1).1
 |arr e n xs=>
  obtain⟨_,h|⟨_,cs,h1,_⟩⟩:=h
  .rw[h.1]at hr;cases hr
  .exact(qD.1 h1).1
 |map es=>obtain⟨_,en,cl,h1,_⟩:=h;exact(qD.1 h1).1
 |loop C ps nt tm st=>obtain⟨_,r,h1,_⟩:=h;exact(qD.1 h1).1
 |ext E=>obtain⟨cs,T,h1⟩:=E.obj _ _ _ h.2;exact(qD.1 h1).1
theorem kO.G2 {ρ:Site->Loc}{m:Mem}{w:World}{s:Site}{b:aL}{k:Nat}(h:kO ρ m w s b)(hk:fL ρ w s b k):k<w.heap.size:=by
 rcases hk with⟨hr,rfl⟩|hk
 .exact h.lt hr
 .obtain⟨cs,T,h1⟩:=h.vY hk;exact(qD.1 h1).1
theorem kO.obj {ρ:Site->Loc}{m:Mem}{w:World}{s:Site}{b:aL}(h:kO ρ m w s b)(hr:(ρ s).real=true):w.heap[(ρ s).b]?≠some (.deferred (some [])):=by
 intro e;cases b with
 |cells bU=>obtain⟨_,cs,T,h1,_⟩:=h;rw[h1]at e;cases e
 |arr e' n xs=>
  obtain⟨_,h|⟨_,cs,h1,_⟩⟩:=h
  .rw[h.1]at hr;cases hr
  .rw[h1]at e;cases e
 |map es=>obtain⟨_,en,cl,h1,_⟩:=h;rw[h1]at e;cases e
 |loop C ps nt tm st=>obtain⟨_,r,h1,_⟩:=h;rw[h1]at e;cases e
 |ext E=>obtain⟨cs,T,h1⟩:=E.obj _ _ _ h.2;rw[h1]at e;cases e
theorem kO.Xg {ρ:Site->Loc}{m:Mem}{w:World}{s:Site}{b:aL}{k:Nat}(h:kO ρ m w s b)(hk:fL ρ w s b k):w.heap[k]?≠some (.deferred (some [])):=by
 rcases hk with⟨hr,rfl⟩|hk
 .exact h.obj hr
 .obtain⟨cs,T,h1⟩:=h.vY hk;intro e;rw[h1]at e;cases e
theorem ZdR {α β:Type}[BEq α][LawfulBEq α]{k:α}{v:β}:∀{l:List (α×β)},l.lookup k=some v->∃i:Nat,(l.map (·.2))[i]?=some v
 |[],h=>by simp[List.lookup]at h
 |(a,b)::r,h=>by
  by_cases e:k=a
  .subst e;rw[mX]at h;cases h;exact⟨0,rfl⟩
  .rw[jG e]at h;obtain⟨i,hi⟩:=ZdR h;exact⟨i+1,by simpa using hi⟩
theorem dS {ρ:Site->Loc}{w w':World}{s:Site}{b:aL}(h:w'.heap[(ρ s).b]?=w.heap[(ρ s).b]?){k:Nat}:fL ρ w' s b k↔fL ρ w s b k:=by
 unfold fL;rw[Zqf h]
theorem kO.dS {ρ:Site->Loc}{m:Mem}{w w':World}{s:Site}{b:aL}(hB:kO ρ m w s b)(h:(ρ s).real=true->w'.heap[(ρ s).b]?=w.heap[(ρ s).b]?){k:Nat}:fL ρ w' s b k↔fL ρ w s b k:=by
 cases b with
 |ext E=>exact Go.Proofs.YthmbecacehfgfaaGreatDoor.dS (h hB.1)
 |_=>exact Iff.rfl
theorem R6 {ρ bW:Site->Loc}{w:World}{s:Site}{b:aL}{k:Nat}(h:bW s=ρ s):fL bW w s b k↔fL ρ w s b k:=by unfold fL;rw[h]
theorem kO.gen {ρ bW:Site->Loc}{m m':Mem}{w w':World}{s s':Site}{b b':aL}(h:kO ρ m w s b)(f:AV->AV)(hf:b'=match b with
   |.cells bU=>.cells (bU.map f)
   |.loop C ps nt tm st=>.loop C ps nt (tm.map fun p=>(p.1,f p.2)) st
   |b=>b) (hm:Le m m') (hs:bW s'=ρ s) (hv:∀v a,bN ρ m v a->(∃bU,b=.cells bU/\a∈bU)\/(∃C ps nt tm st t,b=.loop C ps nt tm st/\(t,a)∈tm)->bN bW m' v (f a))
  (hb:∀k,fL ρ w s b k->w'.heap[k]?=w.heap[k]?):kO bW m' w' s' b':=by
 subst hf;cases b with
 |cells bU=>
  obtain⟨h0,cs,T,h1,h2,h3⟩:=h;refine⟨by rw[hs];exact h0,cs,T,by rw[hs,hb _ (xN h0)];exact h1,by rw[fQ];exact h2,fun i c a k1 k2=>?_⟩;rw[bR]at k2;obtain⟨a',k3,rfl⟩:=eA.1 k2;exact⟨(h3 i c a' k1 k3).1,hv _ _ (h3 i c a' k1 k3).2 (.inl ⟨bU,rfl,dL k3⟩)⟩
 |arr e n xs=>
  obtain⟨h0,h|⟨h1,cs,h2,h3,h4,h5,h6⟩⟩:=h
  .exact⟨h0,.inl (by rw[hs];exact h)⟩
  .refine⟨h0,.inr ⟨by rw[hs];exact h1,cs,by rw[hs,hb _ (xN h1)];exact h2,by rw[hs];exact h3,by rw[hs];exact h4,by rw[hs];exact h5,fun i x k1=>⟨(h6 i x k1).1,fun j c k2=>?_⟩⟩⟩;obtain⟨d,k3,k4,k5⟩:=(h6 i x k1).2 j c k2;exact⟨d,by rw[hs];exact k3,k4,k5.mono hm⟩
 |map es=>
  obtain⟨h0,en,cl,h1,h2,h3⟩:=h;exact⟨by rw[hs];exact h0,en,cl,by rw[hs,hb _ (xN h0)];exact h1,h2,fun i e p k1 k2=>⟨(h3 i e p k1 k2).1.mono hm,(h3 i e p k1 k2).2.mono hm⟩⟩
 |loop C ps nt tm st=>
  obtain⟨h0,r,h1,h2,h3,h4,h5,h6,h7,h8⟩:=h;refine⟨by rw[hs];exact h0,r,by rw[hs,hb _ (xN h0)];exact h1,h2,h3,h4,h5,h6,h7,fun t a k=>?_⟩;have hl:∀l:List (Nat×AV),(l.map fun p=>(p.1,f p.2)).lookup t=(l.lookup t).map f:=by
   intro l;induction l with
   |nil=>rfl
   |cons p r ih=>
    obtain⟨x,y⟩:=p;by_cases e:t=x
    .subst e;simp[List.lookup]
    .rw[iQ,jG e,jG e];exact ih
  rw[hl]at k;obtain⟨a',k3,rfl⟩:=eA.1 k;obtain⟨v,k4,k5⟩:=h8 t a' k3;have gU:∀l:List (Nat×AV),l.lookup t=some a'->(t,a')∈l:=by
   intro l;induction l with
   |nil=>intro h;simp[List.lookup]at h
   |cons p r ih=>
    obtain⟨x,y⟩:=p;intro h;by_cases e:t=x
    .subst e;rw[mX]at h;cases h;simp
    .rw[jG e]at h;simp[ih h]
  exact⟨v,k4,hv _ _ k5 (.inr ⟨C,ps,nt,tm,st,t,rfl,gU _ k3⟩)⟩
 |ext E=>
  refine⟨by rw[hs];exact h.1,?_⟩;rw[hs];exact E.more _ _ _ _ _ h.2 hm (hb _ (xN h.1)) (fun k hk=>hb k (.inr hk))
theorem kO.more {ρ:Site->Loc}{m m':Mem}{w w':World}{s:Site}{b:aL}(h:kO ρ m w s b)(hm:Le m m')(hb:∀k,fL ρ w s b k->w'.heap[k]?=w.heap[k]?):kO ρ m' w' s b:=
 h.gen id (by cases b<;>simp) hm rfl (fun v a hv _=>hv.more hm) hb
theorem aL.ZxE {d:Nat}{b:aL}(hd:b.has d=false){a:AV}(h:(∃bU,b=.cells bU/\a∈bU)\/(∃C ps nt tm st t,b=.loop C ps nt tm st/\(t,a)∈tm)):a.has d=false:=by
 rcases h with⟨bU,rfl,h⟩|⟨C,ps,nt,tm,st,t,rfl,h⟩
 .obtain⟨i,hi⟩:=iM.1 h;exact AV.NS hd hi
 .obtain⟨i,hi⟩:=iM.1 h;have IG:AV.qR d (tm.map (·.2))=false:=hd;exact AV.NS (i:=i) IG (by rw[bR,hi];rfl)
theorem kO.stay {ρ bW:Site->Loc}{m m':Mem}{w w':World}{s:Site}{b:aL}(h:kO ρ m w s b)(hm:Le m m'){d:Nat}(K3:∀s,s.fP d=false->bW s=ρ s)(hs:s.fP d=false)(hd:b.has d=false)
  (hb:∀k,fL ρ w s b k->w'.heap[k]?=w.heap[k]?):kO bW m' w' s b:=
 h.gen id (by cases b<;>simp) hm (K3 s hs) (fun v a hv hw=>hv.mono hm K3 (aL.ZxE hd hw)) hb
section
variable {N:Nat}{w0:World}{m0:Env w0}{pl:List Nat}{σ:AS}{ρ:Site->Loc}{m:Mem}{act:Act}{w w':World}
theorem Sat.Zx1 (h:Sat N w0 m0 pl σ ρ m act w){τ:AS}(ht:∀t a,τ.t t=some a->σ.t t=some a\/a=.any/\∃c,σ.t t=some c)(hb:∀s b,τ.b s=some b->σ.b s=some b):Sat N w0 m0 pl τ ρ m act w:=
 ⟨h.sA,h.sz,fun t a k=>by
  rcases ht t a k with k|⟨rfl,c,k⟩
  .exact h.tm t a k
  .obtain⟨v,k1,_⟩:=h.tm t c k;exact⟨v,k1,.any v⟩,fun s b k=>h.bx s b (hb s b k),fun s s' b b' i k k'=>h.dZ s s' b b' i (hb s b k) (hb s' b' k'),h.mem,fun s b i k=>h.eM s b i (hb s b k),fun s b i k=>h.fM s b i (hb s b k),h.keep,h.base,h.qB,h.par⟩
theorem Sat.put (h:Sat N w0 m0 pl σ ρ m act w){d:Nat}(hd:d<N){v:Value}{a:AV}(hv:bN ρ m v a):Sat N w0 m0 pl { σ with tm:=(d,a)::σ.tm } ρ m (act.put (some d) v) w:=by
 refine⟨h.sA,by simp[Act.put,h.sz],fun t a' k=>?_,h.bx,h.dZ,h.mem,h.eM,h.fM,h.keep,h.base,h.qB,h.par⟩;unfold AS.t at k;rcases Nat.decEq t d with cZ|rfl
 .rw[jG cZ]at k;obtain⟨u,k1,k2⟩:=h.tm t a' k;exact⟨u,by show(act.tmps.setIfInBounds d v)[t]?=some u;rw[Array.getElem?_setIfInBounds_ne (fun e=>cZ e.symm)];exact k1,k2⟩
 .rw[mX]at k;cases k;exact⟨v,by show(act.tmps.setIfInBounds t v)[t]?=some v;rw[Array.getElem?_setIfInBounds_self_of_lt (by rw[h.sz];exact hd)],hv⟩
theorem Sat.ext (h:Sat N w0 m0 pl σ ρ m act w)(hx:Ext w w'):Sat N w0 m0 pl σ ρ m act w':=by
 have hq:∀s b,σ.b s=some b->∀k,fL ρ w' s b k↔fL ρ w s b k:=fun s b k i=>(h.bx s b k).dS (fun r=>hx.block _ ((h.bx s b k).lt r))
 exact⟨let ⟨ds,h1,h0,h2⟩:=h.sA;⟨ds,h1,h0,fun D hD=>⟨(h2 D hD).1,by rw[hx.block _ (qD.1 (h2 D hD).2).1];exact(h2 D hD).2⟩⟩,h.sz,h.tm,fun s b k=>(h.bx s b k).more (Le.refl _) (fun i r=>hx.block _ ((h.bx s b k).G2 r)),
  fun s s' b b' i k k' r r'=>h.dZ s s' b b' i k k' ((hq s b k i).1 r) ((hq s' b' k' i).1 r'),h.mem.trans hx.le,fun s b i k r=>h.eM s b i k ((hq s b k i).1 r),fun s b i k r=>h.fM s b i k ((hq s b k i).1 r),h.keep.trans (cV.Ex hx pl),h.base,h.qB,h.par⟩
end
def AV.bI (d:Nat)(a:AV):AV:=if a.has d=true then .any else a
def aL.bI (d:Nat):aL->aL
 |.cells bU=>.cells (bU.map (AV.bI d))
 |.loop C ps nt tm st=>.loop C ps nt (tm.map fun p=>(p.1,p.2.bI d)) st
 |b=>b
def AS.bI (d:Nat)(σ:AS):AS:=⟨σ.tm.map fun p=>(p.1,p.2.bI d),(σ.bx.filter fun p=>!p.1.fP d).map fun p=>(p.1,p.2.bI d)⟩
def AS.drop (s:Site)(σ:AS):AS:=⟨σ.tm,σ.bx.filter fun p=>!decide (p.1=s)⟩
def AS.set (s:Site)(b:aL)(σ:AS):AS:=⟨σ.tm,(s,b)::σ.bx⟩
def AS.put (d:Nat)(a:AV)(σ:AS):AS:=⟨(d,a)::σ.tm,σ.bx⟩
def AS.add (s:Site)(b:aL)(σ:AS):AS:=⟨σ.tm,(s,b)::σ.bx⟩
theorem AV.Ez (d:Nat)(a:AV):(a.bI d).has d=false:=by
 unfold AV.bI;split
 .rfl
 .rename_i h;simpa using h
theorem AV.Xn (d:Nat):∀l:List AV,AV.qR d (l.map (AV.bI d))=false
 |[]=>rfl
 |a::r=>by simp[AV.qR,AV.Ez,AV.Xn d r]
theorem aL.Ez (d:Nat)(b:aL):(b.bI d).has d=false:=by
 cases b with
 |cells bU=>exact AV.Xn d bU
 |arr e n xs=>rfl
 |map es=>rfl
 |loop C ps nt tm st=>
  show AV.qR d ((tm.map fun p=>(p.1,p.2.bI d)).map (·.2))=false;rw[List.map_map]
  have:((fun p:Nat×AV=>p.2)∘fun p:Nat×AV=>(p.1,p.2.bI d))=AV.bI d∘(fun p:Nat×AV=>p.2):=rfl
  rw[this,<-List.map_map];exact AV.Xn d _
 |ext E=>rfl
theorem SX {α β γ:Type}[BEq α][LawfulBEq α](f:β->γ)(k:α):∀l:List (α×β),(l.map fun p=>(p.1,f p.2)).lookup k=(l.lookup k).map f
 |[]=>rfl
 |(a,b)::r=>by
  by_cases h:k=a
  .subst h;simp[List.lookup]
  .rw[iQ,jG h,jG h];exact SX f k r
theorem TH {α β:Type}[BEq α][LawfulBEq α](q:α->Bool)(k:α):∀l:List (α×β),(l.filter fun p=>q p.1).lookup k=if q k=true then l.lookup k else none
 |[]=>by simp
 |(a,b)::r=>by
  rw[xL];by_cases h:k=a
  .subst h;cases hq:q k
   .simp only[Bool.false_eq_true,if_false];rw[TH q k r];simp[hq]
   .simp[List.lookup]
  .cases hq:q a
   .simp only[Bool.false_eq_true,if_false];rw[TH q k r,jG h]
   .simp only[if_true];rw[jG h,jG h];exact TH q k r
theorem AS.Kz (d:Nat)(σ:AS)(k:Nat):(σ.bI d).t k=(σ.t k).map (AV.bI d):=SX _ _ _
theorem AS.NQ (d:Nat)(σ:AS)(s:Site):(σ.bI d).b s=if s.fP d=true then none else(σ.b s).map (aL.bI d):=by
 show((σ.bx.filter fun p=>!p.1.fP d).map fun p=>(p.1,p.2.bI d)).lookup s=_;rw[SX (aL.bI d) s,show List.lookup s (List.filter (fun p=>!p.1.fP d) σ.bx)=_ from TH (fun s=>!s.fP d) s σ.bx];cases s.fP d<;>simp[AS.b]
theorem AS.JN (s:Site)(σ:AS)(s':Site):(σ.drop s).b s'=if s'=s then none else σ.b s':=by
 show(σ.bx.filter fun p=>!decide (p.1=s)).lookup s'=_;rw[show List.lookup s' (List.filter (fun p=>!decide (p.1=s)) σ.bx)=_ from TH (fun x=>!decide (x=s)) s' σ.bx];by_cases h:s'=s<;>simp[h,AS.b]
theorem AS.SI (s:Site)(b:aL)(σ:AS)(s':Site):(σ.add s b).b s'=if s'=s then some b else σ.b s':=by
 show((s,b)::σ.bx).lookup s'=_;by_cases h:s'=s
 .subst h;rw[mX,if_pos rfl]
 .rw[jG h,if_neg h];rfl
theorem AS.VY (s:Site)(b:aL)(σ:AS)(s':Site):(σ.set s b).b s'=if s'=s then some b else σ.b s':=AS.SI s b σ s'
theorem AS.ZxK (d:Nat)(a:AV)(σ:AS)(k:Nat):(σ.put d a).t k=if k=d then some a else σ.t k:=by
 show((d,a)::σ.tm).lookup k=_;by_cases h:k=d
 .subst h;rw[mX,if_pos rfl]
 .rw[jG h,if_neg h];rfl
structure qT (d:Nat)(σ:AS):Prop where
 t:∀k a,σ.t k=some a->a.has d=false
 b:∀s b,σ.b s=some b->s.fP d=false/\b.has d=false
theorem qT.bI (d:Nat)(σ:AS):qT d (σ.bI d):=by
 refine⟨fun k a h=>?_,fun s b h=>?_⟩
 .rw[AS.Kz]at h;obtain⟨c,_,rfl⟩:=eA.1 h;exact AV.Ez d c
 .rw[AS.NQ]at h;split at h
  .cases h
  .rename_i hs;obtain⟨c,_,rfl⟩:=eA.1 h;exact⟨by simpa using hs,aL.Ez d c⟩
section
variable {N:Nat}{w0:World}{m0:Env w0}{pl:List Nat}{σ:AS}{ρ:Site->Loc}{m:Mem}{act:Act}{w w':World}
theorem ZpE {d:Nat}{v:Value}{a:AV}(h:bN ρ m v a):bN ρ m v (a.bI d):=by
 unfold AV.bI;split
 .exact .any v
 .exact h
theorem kO.bI {s:Site}{b:aL}(d:Nat)(h:kO ρ m w s b):kO ρ m w s (b.bI d):=
 h.gen (AV.bI d) (by cases b<;>rfl) (Le.refl m) rfl (fun v a hv _=>ZpE hv) (fun _ _=>rfl)
theorem Zn2 {w:World}{l:Loc}{b:aL}{d:Nat}:ins w l (b.bI d)=ins w l b:=by
 cases b with
 |_=>rfl
theorem KA {s:Site}{b:aL}{d k:Nat}:fL ρ w s (b.bI d) k↔fL ρ w s b k:=by unfold fL;rw[Zn2]
theorem Sat.bI (h:Sat N w0 m0 pl σ ρ m act w)(d:Nat):Sat N w0 m0 pl (σ.bI d) ρ m act w:=by
 have hb:∀s b,(σ.bI d).b s=some b->∃b',σ.b s=some b'/\b=b'.bI d:=fun s b k=>by
  rw[AS.NQ]at k;split at k
  .cases k
  .obtain⟨b',k1,rfl⟩:=eA.1 k;exact⟨b',k1,rfl⟩
 refine⟨h.sA,h.sz,fun t a k=>?_,fun s b k=>?_,fun s s' b b' i k k' r r'=>?_,h.mem,fun s b i k r=>?_,fun s b i k r=>?_,h.keep,h.base,h.qB,h.par⟩
 .rw[AS.Kz]at k;obtain⟨c,k1,rfl⟩:=eA.1 k;obtain⟨v,k2,k3⟩:=h.tm t c k1;refine⟨v,k2,?_⟩;unfold AV.bI;split
  .exact .any v
  .exact k3
 .obtain⟨b',k1,rfl⟩:=hb s b k;exact(h.bx s b' k1).bI d
 .obtain⟨c,k1,rfl⟩:=hb s b k;obtain⟨c',C0,rfl⟩:=hb s' b' k';exact h.dZ s s' c c' i k1 C0 (KA.1 r) (KA.1 r')
 .obtain⟨c,k1,rfl⟩:=hb s b k;exact h.eM s c i k1 (KA.1 r)
 .obtain⟨c,k1,rfl⟩:=hb s b k;exact h.fM s c i k1 (KA.1 r)
theorem Sat.drop (h:Sat N w0 m0 pl σ ρ m act w)(s:Site):Sat N w0 m0 pl (σ.drop s) ρ m act w:=
 h.Zx1 (fun t a k=>.inl k) (fun s' b k=>by
  rw[AS.JN]at k;split at k
  .cases k
  .exact k)
def iN (ρ:Site->Loc)(s:Site)(l:Loc):Site->Loc:=fun s'=>if s'=s then l else ρ s'
theorem R9 (ρ:Site->Loc)(s:Site)(l:Loc):iN ρ s l s=l:=by simp[iN]
theorem AK (ρ:Site->Loc){s s':Site}(l:Loc)(h:s'≠s):iN ρ s l s'=ρ s':=by simp[iN,h]
theorem Mm (ρ:Site->Loc)(d j:Nat)(l:Loc):∀s,s.fP d=false->iN ρ (.loc d j) l s=ρ s:=fun s hs=>AK ρ l (fun e=>by subst e;simp[Site.fP]at hs)
def aL.plain:aL->Bool
 |.ext _=>false
 |_=>true
theorem EE {s:Site}{b:aL}{k:Nat}(hb:b.plain=true)(h:fL ρ w s b k):(ρ s).real=true/\(ρ s).b=k:=by
 rcases h with h|h
 .exact h
 .cases b with
  |ext E=>cases hb
  |_=>cases h
theorem Zfn {w:World}{l:Loc}{b:aL}(hb:b.plain=true)(k:Nat):k∉ins w l b:=fun h=>by
 cases b with
 |ext E=>cases hb
 |_=>cases h
theorem Mn {s:Site}{b:aL}{k:Nat}(hb:∀k,k∉ins w (ρ s) b)(h:fL ρ w s b k):(ρ s).real=true/\(ρ s).b=k:=h.elim id fun h=>absurd h (hb k)
theorem Sat.Zx5 (h:Sat N w0 m0 pl σ ρ m act w){d j:Nat}(hn:qT d σ){l:Loc}{box:aL}(hb:kO (iN ρ (.loc d j) l) m w (.loc d j) box)
  (hi:l.real=true->∀s b,σ.b s=some b->¬fL ρ w s b l.b) (ho:l.real=true->∀o,m l.b o=none) (hw:l.real=true->w0.heap.size<=l.b\/l.b∈pl) (mJ:∀k,k∉ins w (iN ρ (.loc d j) l (.loc d j)) box):
  Sat N w0 m0 pl (σ.add (.loc d j) box) (iN ρ (.loc d j) l) m act w:=by
 have cZ:∀s b,σ.b s=some b->s≠.loc d j:=fun s b k e=>by
  subst e
  have:=(hn.b _ b k).1
  simp[Site.fP]at this
 have K3:=Mm ρ d j l;have hu:=R9 ρ (.loc d j) l;refine⟨h.sA,h.sz,fun t a k=>?_,fun s b k=>?_,fun s s' b b' i k k' r r'=>?_,h.mem,fun s b i k r=>?_,fun s b i k r=>?_,h.keep,h.base,h.qB,fun i=>(AK ρ l (by simp)).trans (h.par i)⟩
 .obtain⟨v,k1,k2⟩:=h.tm t a k;exact⟨v,k1,k2.mono (Le.refl m) K3 (hn.t t a k)⟩
 .rw[AS.SI]at k;split at k
  .rename_i e;subst e;cases k;exact hb
  .exact(h.bx s b k).stay (Le.refl m) K3 (hn.b s b k).1 (hn.b s b k).2 (fun _ _=>rfl)
 .rw[AS.SI]at k k';split at k<;>split at k'
  .rename_i e1 e2;rw[e1,e2]
  .rename_i e1 e2;subst e1;cases k;obtain⟨q1,q2⟩:=Mn mJ r;rw[hu]at q1 q2;rw[R6 (AK ρ l e2)]at r';exact absurd (by rw[q2];exact r') (hi q1 s' b' k')
  .rename_i e1 e2;subst e2;cases k';obtain⟨q1,q2⟩:=Mn mJ r';rw[hu]at q1 q2;rw[R6 (AK ρ l e1)]at r;exact absurd (by rw[q2];exact r) (hi q1 s b k)
  .rename_i e1 e2;rw[R6 (AK ρ l e1)]at r;rw[R6 (AK ρ l e2)]at r';exact h.dZ s s' b b' i k k' r r'
 .rw[AS.SI]at k;split at k
  .rename_i e;subst e;cases k;obtain⟨q1,q2⟩:=Mn mJ r;rw[hu]at q1 q2;subst q2;exact ho q1
  .rename_i e;rw[R6 (AK ρ l e)]at r;exact h.eM s b i k r
 .rw[AS.SI]at k;split at k
  .rename_i e;subst e;cases k;obtain⟨q1,q2⟩:=Mn mJ r;rw[hu]at q1 q2;subst q2;exact hw q1
  .rename_i e;rw[R6 (AK ρ l e)]at r;exact h.fM s b i k r
theorem Sat.add (h:Sat N w0 m0 pl σ ρ m act w){d j:Nat}(hn:qT d σ){l:Loc}{box:aL}(hb:kO (iN ρ (.loc d j) l) m w (.loc d j) box)
  (hi:l.real=true->∀s b,σ.b s=some b->¬fL ρ w s b l.b) (ho:l.real=true->∀o,m l.b o=none) (hw:l.real=true->w0.heap.size<=l.b\/l.b∈pl) (mJ:box.plain=true:=by rfl):
  Sat N w0 m0 pl (σ.add (.loc d j) box) (iN ρ (.loc d j) l) m act w:=h.Zx5 hn hb hi ho hw (Zfn mJ)
theorem Sat.Eu (h:Sat N w0 m0 pl σ ρ m act w){k:Nat}(hk:w.heap.size<=k)(o:Nat):m k o=none:=by
 cases hm:m k o with
 |none=>rfl
 |some v=>have:=AQ (h.mem k o v hm);omega
theorem Sat.lt (h:Sat N w0 m0 pl σ ρ m act w){s:Site}{b:aL}(hb:σ.b s=some b)(hr:(ρ s).real=true):(ρ s).b<w.heap.size:=(h.bx s b hb).lt hr
theorem Sat.G2 (h:Sat N w0 m0 pl σ ρ m act w){s:Site}{b:aL}(hb:σ.b s=some b){k:Nat}(hr:fL ρ w s b k):k<w.heap.size:=(h.bx s b hb).G2 hr
theorem Sat.Zx2 (h:Sat N w0 m0 pl σ ρ m act w)(d j:Nat)(hn:qT d σ)(cs:Array Value)(T:TypeId)(cap:Nat){box:aL}
  (hb:kO (iN ρ (.loc d j) ⟨w.heap.size,0,cap,true⟩) m (w.alloc (.cells cs T)) (.loc d j) box) (mJ:∀k,k∉ins (w.alloc (.cells cs T)) (iN ρ (.loc d j) ⟨w.heap.size,0,cap,true⟩ (.loc d j)) box):
  Sat N w0 m0 pl (σ.add (.loc d j) box) (iN ρ (.loc d j) ⟨w.heap.size,0,cap,true⟩) m act (w.alloc (.cells cs T)):=
 (h.ext (Ext.al w _)).Zx5 hn hb (fun _ s b k r=>by
  have hx:Ext w (w.alloc (.cells cs T)):=Ext.al w _
  have:=h.G2 k (((h.bx s b k).dS (fun r=>hx.block _ (h.lt k r))).1 r)
  simp at this) (fun _ o=>h.Eu (fE _) o) (fun _=>.inl h.keep.size) mJ
theorem Sat.new (h:Sat N w0 m0 pl σ ρ m act w)(d j:Nat)(hn:qT d σ)(cs:Array Value)(T:TypeId)(cap:Nat){box:aL}
  (hb:kO (iN ρ (.loc d j) ⟨w.heap.size,0,cap,true⟩) m (w.alloc (.cells cs T)) (.loc d j) box) (mJ:box.plain=true:=by rfl):
  Sat N w0 m0 pl (σ.add (.loc d j) box) (iN ρ (.loc d j) ⟨w.heap.size,0,cap,true⟩) m act (w.alloc (.cells cs T)):=h.Zx2 d j hn cs T cap hb (Zfn mJ)
theorem Sat.write (h:Sat N w0 m0 pl σ ρ m act w){k:Nat}(hk:∀s b,σ.b s=some b->¬fL ρ w s b k)(hm:∀o,m k o=none)(hp:w0.heap.size<=k\/k∈pl)(pW:w.heap[k]?≠some (.deferred (some []))\/act.defers=[])
  (hx:cV [k] w w'):Sat N w0 m0 pl σ ρ m act w':=by
 have bQ:∀s b,σ.b s=some b->∀i,fL ρ w s b i->w'.heap[i]?=w.heap[i]?:=fun s b hs i r=>hx.block _ (h.G2 hs r) (by
  rw[rU];intro e;subst e;exact hk s b hs r)
 have hq:∀s b,σ.b s=some b->∀i,fL ρ w' s b i↔fL ρ w s b i:=fun s b k i=>(h.bx s b k).dS (fun r=>bQ s b k _ (xN r))
 refine⟨let ⟨ds,h1,h0,h2⟩:=h.sA;⟨ds,h1,h0,fun D hD=>⟨(h2 D hD).1,by
  obtain⟨k1,k2⟩:=h2 D hD;rw[hx.block D (qD.1 k2).1 (by
   rw[rU];intro e;subst e;rcases pW with pW|pW
   .exact pW k2
   .rw[pW]at h1;obtain⟨d1,d2,rfl,h3⟩:=h1;have h4:=List.append_eq_nil_iff.1 h3.symm;have h5:=List.map_eq_nil_iff.1 (List.append_eq_nil_iff.1 h4.1).1;have h6:=List.map_eq_nil_iff.1 h4.2;subst h5 h6;cases hD)]
  exact k2⟩⟩,h.sz,h.tm,fun s b hs=>(h.bx s b hs).more (Le.refl _) (bQ s b hs),fun s s' b b' i k k' r r'=>h.dZ s s' b b' i k k' ((hq s b k i).1 r) ((hq s' b' k' i).1 r'),fun b o v hv=>?_,fun s b i k r=>h.eM s b i k ((hq s b k i).1 r),fun s b i k r=>h.fM s b i k ((hq s b k i).1 r),?_,h.base,h.qB,h.par⟩
 .have hw:=h.mem b o v hv;have aI:=AQ hw;have cZ:b≠k:=fun e=>by subst e;rw[hm o]at hv;cases hv
  exact(World.cell?_of_block (a:=⟨b,o,none⟩) (hx.block b aI (by simpa using cZ))).trans hw
 .refine⟨hx.os.trans h.keep.os,hx.tape.trans h.keep.tape,hx.output.trans h.keep.output,lJ h.keep.size hx.size,fun i hi hn=>?_⟩;have cZ:i≠k:=fun e=>by
   subst e;rcases hp with hp|hp
   .omega
   .exact hn hp
  exact(hx.block i (Nat.lt_of_lt_of_le hi h.keep.size) (by simpa using cZ)).trans (h.keep.block i hi hn)
theorem Sat.Zxy (h:Sat N w0 m0 pl σ ρ m act w){s:Site}{b:aL}(hs:σ.b s=some b)(hr:(ρ s).real=true)(hx:cV [(ρ s).b] w w'){box:aL}(hb:kO ρ m w' s box)(hq:∀k,k∈ins w' (ρ s) box->k∈ins w (ρ s) b):
  Sat N w0 m0 pl (σ.set s box) ρ m act w':=by
 have hd:Sat N w0 m0 pl (σ.drop s) ρ m act w':=(h.drop s).write (k:=(ρ s).b) (fun s' b' k r=>by
  rw[AS.JN]at k;split at k
  .cases k
  .rename_i cZ;exact cZ (h.dZ s' s b' b _ k hs r (xN hr))) (h.off s b hs hr) (h.own s b hs hr) (.inl ((h.bx s b hs).obj hr)) hx
 have IL:∀k,fL ρ w' s box k->fL ρ w s b k:=fun k r=>r.imp id (hq k)
 have hold:∀s' b',s'≠s->σ.b s'=some b'->∀k,fL ρ w' s' b' k->fL ρ w s' b' k:=fun s' b' cZ k i r=>
  ((h.bx s' b' k).dS (fun r'=>hx.block _ (h.lt k r') (by
   rw[rU];exact fun e=>cZ (h.inj s' s b' b k hs r' hr e)))).1 r
 refine⟨hd.sA,hd.sz,hd.tm,fun s' b' k=>?_,fun s1 s2 b1 b2 i k1 k2 r1 r2=>?_,hd.mem,fun s' b' i k r=>?_,fun s' b' i k r=>?_,hd.keep,hd.base,hd.qB,hd.par⟩
 .rw[AS.VY]at k;split at k
  .rename_i e;subst e;cases k;exact hb
  .rename_i cZ;exact hd.bx s' b' (by rw[AS.JN,if_neg cZ];exact k)
 .have g:∀s' b',(σ.set s box).b s'=some b'->fL ρ w' s' b' i->∃c,σ.b s'=some c/\fL ρ w s' c i:=fun s' b' k r=>by
   rw[AS.VY]at k;split at k
   .rename_i e;subst e;cases k;exact⟨b,hs,IL i r⟩
   .rename_i cZ;exact⟨b',k,hold s' b' cZ k i r⟩
  obtain⟨c1,g1,r1⟩:=g s1 b1 k1 r1;obtain⟨c2,g2,r2⟩:=g s2 b2 k2 r2;exact h.dZ s1 s2 c1 c2 i g1 g2 r1 r2
 .rw[AS.VY]at k;split at k
  .rename_i e;subst e;cases k;exact h.eM s' b i hs (IL i r)
  .rename_i cZ;exact h.eM s' b' i k (hold s' b' cZ k i r)
 .rw[AS.VY]at k;split at k
  .rename_i e;subst e;cases k;exact h.fM s' b i hs (IL i r)
  .rename_i cZ;exact h.fM s' b' i k (hold s' b' cZ k i r)
theorem Sat.Ey (h:Sat N w0 m0 pl σ ρ m act w){s:Site}{b:aL}(hs:σ.b s=some b)(hr:(ρ s).real=true)(hx:cV [(ρ s).b] w w'){box:aL}(hb:kO ρ m w' s box)(mJ:box.plain=true:=by rfl):
  Sat N w0 m0 pl (σ.set s box) ρ m act w':=h.Zxy hs hr hx hb (fun k hk=>by
 cases box with
 |ext E=>cases mJ
 |_=>cases hk)
theorem Sat.Zx3 (h:Sat N w0 m0 pl σ ρ m act w){m':Mem}(hm:Le m m')(hw:Le m' w.mem)(ho:∀s b k,σ.b s=some b->fL ρ w s b k->∀o,m' k o=none)(hf:∀b o v,m' b o=some v->m b o=some v\/w0.heap.size<=b\/b∈pl):Sat N w0 m0 pl σ ρ m' act w:=by
 refine⟨h.sA,h.sz,fun t a k=>?_,fun s b k=>?_,h.dZ,hw,ho,h.fM,h.keep,h.base.trans hm,fun b o v hv=>by
  rcases hf b o v hv with k|k
  .exact h.qB b o v k
  .exact .inr k,h.par⟩
 .obtain⟨v,k1,k2⟩:=h.tm t a k;exact⟨v,k1,k2.more hm⟩
 .exact(h.bx s b k).more hm (fun _ _=>rfl)
end
section
variable {P:Program}{w:World}
def eI (P:Program)(t:TypeId):Option Nat:=(P.info? t).map (·.size)
def sI (P:Program)(t:TypeId):Bool:=match P.underlying t with
 |some (.struct _)|some (.array _ _)=>true
 |_=>false
theorem run_sizeOf {t:TypeId}{n:Nat}(h:eI P t=some n)(w:World):(sizeOf t).run P w=.ok n w:=by
 unfold eI at h;cases hx:P.info? t with
 |none=>simp[hx]at h
 |some i=>
  simp[hx]at h;simp[sizeOf,typeInfo,hx,h]
theorem Zfj {t:TypeId}{d:TypeDesc}(h:P.underlying t=some d)(w:World):(isAgg t).run P w=.ok (sI P t) w:=by
 unfold isAgg sI;rw[Sem.run_bind,run_underlying h w];simp only[Result.andThen_ok,h];cases d<;>rfl
theorem Znf {t:TypeId}{d:TypeDesc}(hu:P.underlying t=some d)(hr:sI P t=false){b o:Nat}{v:Value}(hc:w.cell? ⟨b,o,none⟩=some v):
  (Instr.loadAt t (.pointer (some ⟨b,o,none⟩))).run P w=.ok v w:=by
 simp only[Instr.loadAt,Instr.sureAddr,Sem.run_bind,Sem.run_pure,Result.andThen_ok,loadVar,Zfj hu,hr];simp[load,Sem.run,hc]
theorem Zne {t:TypeId}{d:TypeDesc}(hu:P.underlying t=some d)(hr:sI P t=true){b o:Nat}{cs:List Value}(hc:At w.mem b o cs)(hi:eI P t=some cs.length):
  (Instr.loadAt t (.pointer (some ⟨b,o,none⟩))).run P w=.ok (.agg cs.toArray) w:=by
 refine run_loadAt_mid w b o t cs d (fun j v hv=>hc.get j v hv) hu ?_ hi;unfold sI at hr;rw[hu]at hr;cases d<;>first|rfl|(simp at hr)
theorem ZsV {t:TypeId}{b o:Nat}{v:Value}{cur:Array Value}{T:TypeId}(hi:eI P t=some v.cells.size)(hh:w.heap[b]?=some (.cells cur T (0,0)))(hl:o+v.cells.size<=cur.size)(h1:∀u∈v.cells,u.oneCell'=true):
  (Instr.storeAt t (.pointer (some ⟨b,o,none⟩)) v).run P w=.ok () (w.setRow b (cur.toList.take o++v.cells.toList++cur.toList.drop (o+v.cells.size)).toArray):=by
 have hs:=run_storeCells_at P b o T v.cells.toList 0 cur w hh (by simpa using hl) (fun u hu=>h1 u (by simpa using hu));simp only[Nat.add_zero,uV]at hs;simp only[Instr.storeAt,Instr.sureAddr,Sem.run_bind,Sem.run_pure,Result.andThen_ok,storeVar,run_sizeOf hi];simp[hs]
def HE (P:Program)(t f:Nat):Option Nat:=match P.underlying t with
 |some (.struct fs)=>match fs[f]? with
  |some fl=>if(eI P fl.type).getD 0=0 then none else some fl.offset
  |none=>none
 |_=>none
theorem NY (b o k:Nat):(⟨b,o,none⟩:Addr).add k=⟨b,o+k,none⟩:=Zvh
theorem Qb {t f off:Nat}(h:HE P t f=some off)(b o:Nat):(Instr.fieldAt t (.pointer (some ⟨b,o,none⟩)) f).run P w=.ok (.pointer (some ⟨b,o+off,none⟩)) w:=by
 unfold HE at h;split at h
 .rename_i fs hu;split at h
  .rename_i fl hf;split at h
   .cases h
   .rename_i hz;cases h;cases hs:eI P fl.type with
    |none=>rw[hs]at hz;simp at hz
    |some n=>
     rw[hs]at hz;simp at hz;simp[Instr.fieldAt,run_underlying hu,hf,Instr.sureAddr,fieldPlace,run_sizeOf hs,hz,NY]
  .cases h
 .cases h
def eH (P:Program)(t:TypeId):Option (TypeId×Nat×Option Nat):=match P.underlying t with
 |some (.slice e)=>(eI P e).map fun n=>(e,n,none)
 |some (.array l e)=>(eI P e).map fun n=>(e,n,some l)
 |_=>none
theorem KN {t e n:Nat}(h:eH P t=some (e,n,none)):P.underlying t=some (.slice e)/\eI P e=some n:=by
 unfold eH at h;split at h
 .rename_i e' hu;cases hs:eI P e' with
  |none=>rw[hs]at h;simp at h
  |some k=>
   rw[hs]at h;simp only[uU,Option.some.injEq,Prod.mk.injEq]at h;obtain⟨rfl,rfl,_⟩:=h;exact⟨hu,hs⟩
 .rename_i l e' hu;cases hs:eI P e'<;>rw[hs]at h<;>simp at h
 .cases h
theorem Hi {t e n l:Nat}(h:eH P t=some (e,n,some l)):P.underlying t=some (.array l e)/\eI P e=some n:=by
 unfold eH at h;split at h
 .rename_i e' hu;cases hs:eI P e'<;>rw[hs]at h<;>simp at h
 .rename_i l' e' hu;cases hs:eI P e' with
  |none=>rw[hs]at h;simp at h
  |some k=>
   rw[hs]at h;simp only[uU,Option.some.injEq,Prod.mk.injEq]at h;obtain⟨rfl,rfl,rfl⟩:=h;exact⟨hu,hs⟩
 .cases h
theorem Qa {t e n:Nat}(h:eH P t=some (e,n,none))(b o len cap:Nat)(k:IntKind){i:Int}(h0:0<=i)(h1:i<len):
  (Instr.indexAt t (.slice (some ⟨b,o,none⟩) len cap) (.int k i)).run P w=.ok (.pointer (some ⟨b,o+i.toNat*n,none⟩)) w:=by
 obtain⟨hu,hs⟩:=KN h;simp[Instr.indexAt,run_underlying hu,asIntOf,run_sizeOf hs,h0,h1,NY]
theorem ZpD {t e n l:Nat}(h:eH P t=some (e,n,some l))(b o:Nat)(k:IntKind){i:Int}(h0:0<=i)(h1:i<l):
  (Instr.indexAt t (.pointer (some ⟨b,o,none⟩)) (.int k i)).run P w=.ok (.pointer (some ⟨b,o+i.toNat*n,none⟩)) w:=by
 obtain⟨hu,hs⟩:=Hi h;simp[Instr.indexAt,run_underlying hu,asIntOf,Instr.sureAddr,run_sizeOf hs,h0,h1,NY]
theorem X1 {t e n:Nat}(h:eH P t=some (e,n,none))(ty:TypeId)(a:Option Addr)(len cap:Nat):(Builtin.len_ #[t] ty #[.slice a len cap]).run P w=.ok (.int .i64 len) w:=by
 obtain⟨hu,hs⟩:=KN h;simp[Builtin.len_,run_underlying hu,goInt]
theorem Zng {t e n l:Nat}(h:eH P t=some (e,n,some l))(ty:TypeId)(v:Value):(Builtin.len_ #[t] ty #[v]).run P w=.ok (.int .i64 l) w:=by
 obtain⟨hu,hs⟩:=Hi h;cases v<;>simp[Builtin.len_,run_underlying hu,goInt]
def gX (P:Program)(t:TypeId):Option Value:=(P.info? t).bind (·.zero)
theorem KM {t:TypeId}{z:Value}(h:gX P t=some z)(w:World):(zeroValue t).run P w=.ok z w:=by
 unfold gX at h;cases hx:P.info? t with
 |none=>simp[hx]at h
 |some i=>
  simp[hx]at h;simp[zeroValue,typeInfo,hx,h]
theorem Znh {t:TypeId}{z:Value}(h:gX P t=some z):(Instr.alloc t true (.tuple #[])).run P w=.ok (.pointer (some ⟨w.heap.size,0,none⟩)) (w.alloc (.cells z.cells t)):=by
 simp[Instr.alloc,KM h,newVar,newRow]
theorem YR (t:TypeId)(v:Value):(Instr.box t v).run P w=.ok (.pointer (some ⟨w.heap.size,0,none⟩)) (w.alloc (.cells v.cells t)):=by
 simp[Instr.box,newVar,newRow]
end
inductive bD where
 |t (k:Nat)
 |c (x:PV)
 deriving Inhabited
def AS.o (σ:AS):bD->AV
 |.t k=>(σ.t k).getD .any
 |.c x=>.pv x
def nS:Value->Option PV
 |.int k n=>some (.int k n)
 |.bool b=>some (.bool b)
 |.string s=>some (.str s)
 |.pointer none=>some .eU
 |.slice none 0 0=>some (.emp (some true))
 |.nilFunc=>some .dP
 |.map none=>some .cR
 |.nilIface=>some .eV
 |_=>none
def aW:Operand->Option bD
 |.tmp k=>some (.t k)
 |.const v=>(nS v).map .c
 |.func f=>some (.c (.fn f [] []))
 |.global _=>none
theorem Lx {v:Value}{x:PV}(h:nS v=some x)(m:Mem):dG m v x:=by
 unfold nS at h;split at h<;>first|(cases h;constructor)|(cases h)
 .intro _;rfl
 .intro e;cases e
 .intro A e;cases e
def AV.one:AV->Bool
 |.any=>false
 |.pv (.agg _)=>false
 |.pv (.bM _)=>false
 |.agg _=>false
 |.bM _=>false
 |_=>true
theorem bN.one {ρ:Site->Loc}{m:Mem}{v:Value}{a:AV}(h:bN ρ m v a)(ha:a.one=true):v.oneCell'=true:=by
 cases h with
 |any=>cases ha
 |pv v x h=>cases h<;>first|rfl|assumption|(simp[AV.one]at ha)
 |_=>first|rfl|(simp[AV.one]at ha)
def eB:List AV->Option (List PV)
 |[]=>some []
 |a::r=>match a,eB r with
  |.pv x,some l=>some (x::l)
  |_,_=>none
def w8 (l:List AV):AV:=match eB l with
 |some xs=>.pv (.agg xs)
 |none=>.agg l
def aR {α:Type}(l:List α)(off:Nat)(c:List α):List α:=l.take off++c++l.drop (off+c.length)
theorem SY:∀{l:List AV} {xs:List PV},eB l=some xs->l=xs.map .pv
 |[],xs,h=>by simp[eB]at h;subst h;rfl
 |a::r,xs,h=>by
  unfold eB at h;split at h
  .rename_i x l h1;cases h;rw[iQ,SY h1]
  .cases h
section
variable {N:Nat}{w0:World}{m0:Env w0}{pl:List Nat}{σ:AS}{ρ:Site->Loc}{m:Mem}{act:Act}{w w':World}
def AV.wide:AV->Bool
 |.agg _=>true
 |.pv (.agg _)=>true
 |_=>false
theorem bN.Zxr {v:Value}{a:AV}(h:bN ρ m v a)(ha:a≠.any):v.cells.size=a.cells.length/\∀(j:Nat) (d:Value) (c:AV),v.cells[j]?=some d->a.cells[j]?=some c->bN ρ m d c/\(a.wide=true->d.oneCell'=true):=by
 have single:∀{v:Value} {a:AV},bN ρ m v a->v.cells=#[v]->a.cells=[a]->a.wide=false->v.cells.size=a.cells.length/\∀(j:Nat) (d:Value) (c:AV),v.cells[j]?=some d->a.cells[j]?=some c->bN ρ m d c/\(a.wide=true->d.oneCell'=true):=by
  intro v a h h1 h2 h3;rw[h1,h2];refine⟨rfl,fun j d c k1 k2=>?_⟩;cases j with
  |zero=>simp at k1 k2;subst k1 k2;exact⟨h,fun e=>by rw[h3]at e;cases e⟩
  |succ j=>simp at k2
 have h':=h;cases h with
 |any=>exact absurd rfl ha
 |agg vs cs h0 h1 h2=>exact⟨h0,fun j d c k1 k2=>⟨h2 j d c k1 k2,fun _=>h1 d (Array.mem_of_getElem? k1)⟩⟩
 |pv v x hx=>
  cases hx with
  |agg vs cs h0 h1 h2=>
   refine⟨by simp only[AV.cells,Value.cells,fQ];exact h0,fun j d c k1 k2=>?_⟩;simp only[AV.cells,bR]at k2;obtain⟨x,k3,rfl⟩:=eA.1 k2;exact⟨.pv _ _ (h2 j d x k1 k3),fun _=>h1 d (Array.mem_of_getElem? k1)⟩
  |P6 _ hv=>exact single h' (by cases v<;>first|rfl|cases hv) rfl rfl
  |_=>exact single h' rfl rfl rfl
 |_=>exact single h' rfl rfl rfl
theorem Sat.aW (h:Sat N w0 m0 pl σ ρ m act w){x:Operand}{y:bD}(e:Go.Proofs.YthmbecacehfgfaaGreatDoor.aW x=some y):bN ρ m (act.eval x) (σ.o y):=by
 cases x with
 |tmp k=>
  simp[Go.Proofs.YthmbecacehfgfaaGreatDoor.aW]at e;subst e;show bN ρ m (act.tmps.getD k undef) ((σ.t k).getD .any);cases ht:σ.t k with
  |none=>exact .any _
  |some a=>
   obtain⟨v,k1,k2⟩:=h.tm k a ht;rw[Array.getD_eq_getD_getElem?,k1];exact k2
 |const v=>
  simp only[Go.Proofs.YthmbecacehfgfaaGreatDoor.aW,eA]at e;obtain⟨x,k1,rfl⟩:=e;exact .pv _ _ (Lx k1 m)
 |func f=>
  simp[Go.Proofs.YthmbecacehfgfaaGreatDoor.aW]at e;subst e;exact .pv _ _ (.fn f #[] #[] [] [] rfl rfl (fun j d c k=>by simp at k) (fun j d c k=>by simp at k))
 |global g=>simp[Go.Proofs.YthmbecacehfgfaaGreatDoor.aW]at e
theorem Ha {vs:Array Value}{l:List AV}(h0:vs.size=l.length)(h1:∀d∈vs,d.oneCell'=true)(h2:∀(j:Nat) (d:Value) (c:AV),vs[j]?=some d->l[j]?=some c->bN ρ m d c):bN ρ m (.agg vs) (w8 l):=by
 unfold w8;split
 .rename_i xs hx;have e:=SY hx;subst e;refine .pv _ _ (.agg vs xs (by simpa using h0) h1 (fun j d c k1 k2=>?_))
  have:=h2 j d (.pv c) k1 (by rw[bR,k2];rfl)
  cases this with
  |pv _ _ h=>exact h
 .exact .agg vs l h0 h1 h2
def OO (l:List AV):AV:=match eB l with
 |some xs=>.pv (.bM xs)
 |none=>.bM l
def FD (f:FuncId)(fs cs:List AV):AV:=match eB fs,eB cs with
 |some a,some b=>.pv (.fn f a b)
 |_,_=>.fn f fs cs
theorem Zr9 {vs:Array Value}{l:List AV}(h0:vs.size=l.length)(h2:∀(j:Nat) (d:Value) (c:AV),vs[j]?=some d->l[j]?=some c->bN ρ m d c):bN ρ m (.tuple vs) (OO l):=by
 unfold OO;split
 .rename_i xs hx;have e:=SY hx;subst e;refine .pv _ _ (.bM vs xs (by simpa using h0) (fun j d c k1 k2=>?_))
  have:=h2 j d (.pv c) k1 (by rw[bR,k2];rfl)
  cases this with
  |pv _ _ h=>exact h
 .exact .bM vs l h0 h2
theorem ZuY {f:FuncId}{vf vc:Array Value}{fs cs:List AV}(h0:vf.size=fs.length)(h1:vc.size=cs.length)(h2:∀(j:Nat) (d:Value) (c:AV),vf[j]?=some d->fs[j]?=some c->bN ρ m d c)
  (h3:∀(j:Nat) (d:Value) (c:AV),vc[j]?=some d->cs[j]?=some c->bN ρ m d c):bN ρ m (.func (.func f) vf vc) (FD f fs cs):=by
 unfold FD;split
 .rename_i a b hx hy;have e:=SY hx;have e':=SY hy;subst e e';refine .pv _ _ (.fn f vf vc a b (by simpa using h0) (by simpa using h1) (fun j d c k1 k2=>?_) (fun j d c k1 k2=>?_))
  .have:=h2 j d (.pv c) k1 (by rw[bR,k2];rfl)
   cases this with
   |pv _ _ h=>exact h
  .have:=h3 j d (.pv c) k1 (by rw[bR,k2];rfl)
   cases this with
   |pv _ _ h=>exact h
 .exact .fn f vf vc fs cs h0 h1 h2 h3
def DN (op:BinOp)(k k':IntKind)(a b:Int):Option PV:=
 match op with
 |.shl=>if b<0 then none else some (.int k (k.wrap (a*2^(min b.toNat k.bits))))
 |.shr=>if b<0 then none else some (.int k (a.fdiv (2^(min b.toNat k.bits))))
 |.add=>if k=k' then some (.int k (k.wrap (a+b)))else none
 |.sub=>if k=k' then some (.int k (k.wrap (a-b)))else none
 |.mul=>if k=k' then some (.int k (k.wrap (a*b)))else none
 |.quo=>if k=k' then(if b=0 then none else some (.int k (k.wrap (a.tdiv b))))else none
 |.rem=>if k=k' then(if b=0 then none else some (.int k (a.tmod b)))else none
 |.eql=>if k=k' then some (.bool (decide (a=b)))else none
 |.neq=>if k=k' then some (.bool (decide (a≠b)))else none
 |.lss=>if k=k' then some (.bool (decide (a<b)))else none
 |.leq=>if k=k' then some (.bool (decide (a<=b)))else none
 |.gtr=>if k=k' then some (.bool (decide (b<a)))else none
 |.geq=>if k=k' then some (.bool (decide (b<=a)))else none
 |.and=>if k=k' then some (.int k (k.wrap (BitVec.ofInt k.bits a&&& BitVec.ofInt k.bits b).toNat))else none
 |.or=>if k=k' then some (.int k (k.wrap (BitVec.ofInt k.bits a||| BitVec.ofInt k.bits b).toNat))else none
 |.xor=>if k=k' then some (.int k (k.wrap (BitVec.ofInt k.bits a ^^^ BitVec.ofInt k.bits b).toNat))else none
 |.andNot=>none
def DO (op:BinOp)(a b:Bool):Option PV:=
 match op with
 |.eql=>some (.bool (a==b))
 |.neq=>some (.bool (a != b))
 |_=>none
theorem ZtP (a b:Int):decide (a=b)=(a==b):=by rw[qQ];simp
theorem ZtO (a b:Int):decide (a≠b)=(a != b):=by rw[qQ];simp
theorem ZqY {P:Program}{op:BinOp}{k k':IntKind}{a b:Int}{r:PV}(h:DN op k k' a b=some r)(t:TypeId)(x y:Operand):
  ∃v,(∀w:World,(do eqGuard op t x y (.int k a) (.int k' b);binOp op t (.int k a) (.int k' b):Sem Value).run P w=.ok v w)/\∀m,dG m v r:=by
 have hg:∀w,(eqGuard op t x y (.int k a) (.int k' b)).run P w=.ok () w:=by
  intro w;unfold eqGuard;cases op<;>simp
 simp only[Sem.run_bind,hg,Result.andThen_ok];unfold DN at h;cases op<;>simp only at h
 case shl=>
  split at h
  .cases h
  .rename_i hb;cases h
   (refine⟨_,?_,fun m=>.int _ _⟩;intro w;simp[binOp,Op.shift,hb])
 case shr=>
  split at h
  .cases h
  .rename_i hb;cases h
   (refine⟨_,?_,fun m=>.int _ _⟩;intro w;simp[binOp,Op.shift,hb])
 case quo=>
  split at h
  .rename_i hk;subst hk;split at h
   .cases h
   .rename_i hb;cases h
    (refine⟨_,?_,fun m=>.int _ _⟩;intro w;simp[binOp,Op.intDiv,hb])
  .cases h
 case rem=>
  split at h
  .rename_i hk;subst hk;split at h
   .cases h
   .rename_i hb;cases h
    (refine⟨_,?_,fun m=>.int _ _⟩;intro w;simp[binOp,Op.intDiv,hb])
  .cases h
 case andNot=>cases h
 case eql=>
  split at h
  .rename_i hk;subst hk;cases h;exact⟨.bool (a==b),by intro w;simp[binOp,Op.intCmp],fun m=>by rw[ZtP];exact .bool _⟩
  .cases h
 case neq=>
  split at h
  .rename_i hk;subst hk;cases h;exact⟨.bool (a != b),by intro w;simp[binOp,Op.intCmp],fun m=>by rw[ZtO];exact .bool _⟩
  .cases h
 all_goals
  split at h
  .rename_i hk;subst hk;cases h;first
   |(refine⟨_,?_,fun m=>.int _ _⟩;intro w;simp[binOp,Op.intArith];done)
   |(refine⟨_,?_,fun m=>.int _ _⟩;intro w;simp[binOp,Op.intBits];done)
   |(refine⟨_,?_,fun m=>.bool _⟩;intro w;simp[binOp,Op.intCmp];done)
  .cases h
theorem ZqZ {P:Program}{op:BinOp}{a b:Bool}{r:PV}(h:DO op a b=some r)(t:TypeId)(x y:Operand)(ht:P.underlying t=some .bool):
  ∃v,(∀w:World,(do eqGuard op t x y (.bool a) (.bool b);binOp op t (.bool a) (.bool b):Sem Value).run P w=.ok v w)/\∀m,dG m v r:=by
 have hg:∀w,(eqGuard op t x y (.bool a) (.bool b)).run P w=.ok () w:=by
  intro w;unfold eqGuard;cases op<;>simp
 simp only[Sem.run_bind,hg,Result.andThen_ok];unfold DO at h;cases op<;>simp only at h<;>cases h
 ·(refine⟨_,?_,fun m=>.bool _⟩;intro w;simp only[binOp,Sem.run_bind,run_equal_bool w t a b ht,Result.andThen_ok];rfl)
 ·(refine⟨_,?_,fun m=>.bool _⟩;intro w;simp only[binOp,Sem.run_bind,run_equal_bool w t a b ht,Result.andThen_ok];rfl)
end
mutual
def AV.cH (s:Site)(nb:Nat)(xs:List PV):AV->AV
 |.any=>.any
 |.pv x=>.pv x
 |.ptr s' off=>if s'=s then(if nb=0 then .pv (.ref (xs.drop off))else .any)else .ptr s' off
 |.lB s' n i off=>if s'=s then .any else .lB s' n i off
 |.vec s' n lo len=>if s'=s then(if 0<n/\n=nb/\lo+len<=xs.length then .pv (.aE false n ((xs.drop lo).take len))else .any)else .vec s' n lo len
 |.mp s'=>if s'=s then .any else .mp s'
 |.nM s'=>if s'=s then .any else .nM s'
 |.fn f fs cs=>FD f (AV.bB s nb xs fs) (AV.bB s nb xs cs)
 |.agg cs=>w8 (AV.bB s nb xs cs)
 |.bM vs=>OO (AV.bB s nb xs vs)
def AV.bB (s:Site)(nb:Nat)(xs:List PV):List AV->List AV
 |[]=>[]
 |a::r=>AV.cH s nb xs a::AV.bB s nb xs r
end
def aL.cH (s:Site)(nb:Nat)(xs:List PV):aL->aL
 |.cells bU=>.cells (AV.bB s nb xs bU)
 |.loop C ps nt tm st=>.loop C ps nt (tm.map fun p=>(p.1,p.2.cH s nb xs)) st
 |b=>b
mutual
def AV.dC (q:Site->Bool):AV->Bool
 |.any=>true
 |.pv _=>true
 |.ptr s _=>q s
 |.lB s _ _ _=>q s
 |.vec s _ _ _=>q s
 |.mp s=>q s
 |.nM s=>q s
 |.fn _ fs cs=>AV.hZ q fs&&AV.hZ q cs
 |.agg cs=>AV.hZ q cs
 |.bM vs=>AV.hZ q vs
def AV.hZ (q:Site->Bool):List AV->Bool
 |[]=>true
 |a::r=>AV.dC q a&&AV.hZ q r
end
def AV.live (q:Site->Bool)(a:AV):AV:=match a.dC q with
 |true=>a
 |false=>.any
def aL.live (q:Site->Bool):aL->aL
 |.cells bU=>.cells (bU.map (AV.live q))
 |.loop C ps nt tm st=>.loop C ps nt (tm.map fun p=>(p.1,p.2.live q)) st
 |b=>b
def AS.tidy (σ:AS):AS:=⟨σ.tm,σ.bx.map fun p=>(p.1,p.2.live fun s=>(σ.b s).isSome)⟩
def AS.cH (s:Site)(σ:AS):AS:=match σ.b s with
 |none=>σ.tidy
 |some (.arr _ n xs)=>⟨σ.tm.map fun p=>(p.1,p.2.cH s n xs),(σ.bx.filter fun p=>!decide (p.1=s)).map fun p=>(p.1,p.2.cH s n xs)⟩
 |some (.cells gF)=>match eB gF with
  |some xs=>⟨σ.tm.map fun p=>(p.1,p.2.cH s 0 xs),(σ.bx.filter fun p=>!decide (p.1=s)).map fun p=>(p.1,p.2.cH s 0 xs)⟩
  |none=>σ
 |_=>σ
def AS.JM (a:AV)(σ:AS):AS:=match a with
 |.vec s _ _ _=>σ.cH s
 |_=>σ
def AS.i7:List AV->AS->AS
 |[],σ=>σ
 |a::r,σ=>AS.i7 r (σ.JM a)
def AS.wX (a:AV)(σ:AS):AS:=match a with
 |.agg cs=>σ.i7 cs
 |a=>σ.JM a
def AS.DV:List bD->AS->AS
 |[],σ=>σ
 |x::r,σ=>AS.DV r (σ.wX (σ.o x))
def AS.tN (σ:AS):List bD->Option (List PV)
 |[]=>some []
 |x::r=>match σ.o x,σ.tN r with
  |.pv x,some l=>some (x::l)
  |_,_=>none
def wK (σ:AS):List AV->List (Nat×Nat×bD)->Option (List AV)
 |l,[]=>some l
 |l,(off,n,x)::r=>if(σ.o x).cells.length=n/\off+n<=l.length/\((σ.o x).wide=true\/(σ.o x).one=true)then wK σ (aR l off (σ.o x).cells) r else none
def setAt (x:PV)(off:Nat)(p:PV):PV:=match x with
 |.agg l=>.agg (aR l off p.cells)
 |_=>p
def AS.cont (σ:AS)(a:AV)(n:Nat):Option (List PV):=match a with
 |.pv (.aE _ n' xs)=>if n'=n then some xs else none
 |.pv (.emp _)=>some []
 |.vec s n' lo len=>match σ.b s with
  |some (.arr _ eT xs)=>if n'=n/\eT=n/\lo+len<=xs.length then some ((xs.drop lo).take len)else none
  |_=>none
 |_=>none
inductive QK where
 |sl
 |pt
 |mp
 deriving Inhabited,DecidableEq
def dH:QK->AV->Option Bool
 |.sl,.pv (.emp nl)=>nl
 |.sl,.pv (.aE nn _ xs)=>if nn=true then some false else match xs with
  |[]=>none
  |_::_=>some false
 |.sl,.vec _ _ _ len=>if len=0 then none else some false
 |.pt,.pv .eU=>some true
 |.pt,.pv (.ref _)=>some false
 |.pt,.ptr _ _=>some false
 |.pt,.lB _ _ _ _=>some false
 |.mp,.pv .cR=>some true
 |.mp,.mp _=>some false
 |_,_=>none
def x3:QK->AV->Prop
 |.sl,.pv (.emp _)=>True
 |.sl,.pv (.aE _ _ _)=>True
 |.sl,.vec _ _ _ _=>True
 |_,_=>False
inductive CK where
 |int (k:IntKind)
 |bool
 |str
 deriving DecidableEq,Inhabited
structure KT where
 wide:Bool
 ks:List CK
 deriving DecidableEq,Inhabited
def CK.ok:CK->PV->Bool
 |.int k,.int k' _=>decide (k'=k)
 |.bool,.bool _=>true
 |.str,.str _=>true
 |_,_=>false
def bV:List CK->List PV->Bool
 |[],[]=>true
 |k::ks,x::xs=>k.ok x&&bV ks xs
 |_,_=>false
def KT.ok (t:KT):PV->Bool
 |.agg cs=>t.wide&&bV t.ks cs
 |x=>!t.wide&&bV t.ks [x]
def wL:PV->PV->Bool
 |.int _ a,.int _ b=>a==b
 |.bool a,.bool b=>a==b
 |.str a,.str b=>a.toList==b.toList
 |_,_=>false
def lR:List PV->List PV->Bool
 |[],[]=>true
 |x::xs,y::ys=>wL x y&&lR xs ys
 |_,_=>false
def gV (x y:PV):Bool:=lR x.cells y.cells
def eX (k:PV):List (PV×PV)->Option PV
 |[]=>none
 |(k',v)::r=>match gV k k' with
  |true=>some v
  |false=>eX k r
def mN (k v:PV):List (PV×PV)->List (PV×PV)
 |[]=>[(k,v)]
 |(k',v')::r=>match gV k k' with
  |true=>(k,v)::r
  |false=>(k',v')::mN k v r
def zZ (kt:KT)(es:List (PV×PV)):Bool:=es.all fun p=>kt.ok p.1
def gK (ok:Bool)(v:Option PV)(z:PV):AV:=match ok with
 |true=>.pv (.bM [v.getD z,.bool v.isSome])
 |false=>.pv (v.getD z)
def oI (W:Nat):Nat->List PV->List PV
 |0,_=>[]
 |k+1,xs=>.agg (xs.take W)::oI W k (xs.drop W)
def BC (s:ByteArray)(z:Int):Option UInt8:=if 0<=z then s[z.toNat]? else none
def qE (s:ByteArray):List PV:=s.data.toList.map fun b=>.int .u8 b.toNat
def EB:List PV->Option (List Int)
 |[]=>some []
 |.int .u8 n::r=>(EB r).map (n::·)
 |_=>none
def NU (ns:List Int):ByteArray:=⟨(ns.map fun n=>UInt8.ofNat n.toNat).toArray⟩
def c8 (T e:TypeId)(l:List UInt8)(q:Loc)(_:Mem)(w:World):Prop:=
 ∃p v,w.heap[q.b]?=some (.cells #[p,v] T (0,0))/\(p=.pointer none\/p=.pointer (some ⟨q.b,0,none⟩))/\
  ((v=.slice none 0 0/\l=[])\/∃g c cur,v=.slice (some ⟨g,0,none⟩) l.length (c+1)/\g≠q.b/\w.heap[g]?=some (.cells cur e (0,0))/\l.length<=c+1/\c+1<=cur.size/\c+1<=maxLen/\∀(i:Nat) (b:UInt8),l[i]?=some b->cur[i]?=some (.int .u8 b.toNat))
def yW (q:Loc)(w:World):List Nat:=match w.heap[q.b]? with
 |some (.cells cs _ _)=>match cs[(1:Nat)]? with
  |some (.slice (some A) _ (_+1))=>[A.block]
  |_=>[]
 |_=>[]
theorem Ht {q:Loc}{w:World}{p:Value}{T:TypeId}{t:Nat×Nat}{g o n c:Nat}(h:w.heap[q.b]?=some (.cells #[p,.slice (some ⟨g,o,none⟩) n (c+1)] T t)):yW q w=[g]:=by
 unfold yW;rw[h];rfl
theorem ZiT {q:Loc}{w:World}{p:Value}{T:TypeId}{t:Nat×Nat}(h:w.heap[q.b]?=some (.cells #[p,.slice none 0 0] T t)):yW q w=[]:=by
 unfold yW;rw[h];rfl
def DL (T e:TypeId)(l:List UInt8):Ic where
 rd:=c8 T e l
 ins:=yW
 same q w w' h:=by unfold yW;rw[h]
 obj q m w h:=by
  obtain⟨p,v,h1,_⟩:=h;exact⟨_,_,h1⟩
 vY q m w k h hk:=by
  obtain⟨p,v,h1,_,⟨rfl,_⟩|⟨g,c,cur,rfl,_,h3,_⟩⟩:=h
  .rw[ZiT h1]at hk;cases hk
  .rw[Ht h1]at hk;rw[rU]at hk;subst hk;exact⟨_,_,h3⟩
 more q m m' w w' h _ hb hk:=by
  obtain⟨p,v,h1,h2,⟨rfl,h3⟩|⟨g,c,cur,rfl,h4,h3,h5⟩⟩:=h
  .exact⟨p,_,by rw[hb];exact h1,h2,.inl ⟨rfl,h3⟩⟩
  .have hg:=hk g (by rw[Ht h1];exact List.mem_singleton_self _);exact⟨p,_,by rw[hb];exact h1,h2,.inr ⟨g,c,cur,rfl,h4,by rw[hg];exact h3,h5⟩⟩
inductive W7 where
 |eqv (neg:Bool) (kt:KT) (x y:bD)
 |G0
 |look (kt:KT) (z:PV) (ok:Bool) (x i:bD)
 |iN (kt:KT) (x i v:bD)
 |BK (x:bD)
 |copy (n:Nat) (x y:bD)
 |clear (n:Nat) (z:PV) (x:bD)
 |EM (n:Nat) (x hi:bD)
 |YG (n W:Nat) (x hi:bD)
 |rE (x:bD)
 |A5 (x i:bD)
 |TU (x:bD) (lo hi:Option bD)
 |rG (x y:bD)
 |BB (e:TypeId) (x:bD)
 |TW (x:bD)
 |sB (t:TypeId) (x:bD)
 |LN (neg:Bool) (x:bD)
 |KZ (t:TypeId) (z:PV) (x:bD)
 |B3 (x:bD)
 |VQ (e:TypeId) (n bytes:Nat) (x y:bD)
 |Ek (T e:TypeId)
 deriving Inhabited
inductive lZ where
 |dV (x:bD)
 |pick (c a b:bD)
 |bin (bt:Bool) (op:BinOp) (x y:bD)
 |not (x:bD)
 |neg (x:bD)
 |box (n:Nat) (x:bD)
 |alloc (z:PV)
 |build (z:PV) (ps:List (Nat×Nat×bD))
 |aQ (e n:Nat) (ps:List bD)
 |load (row:Bool) (n:Nat) (x:bD)
 |store (n:Nat) (x y:bD)
 |fa (off:Nat) (x:bD)
 |NC (row:Bool) (off n:Nat) (x:bD)
 |ia (n:Nat) (arr:Option Nat) (x i:bD)
 |len (arr:Option Nat) (x:bD)
 |ext (x:bD) (i:Nat)
 |yC (f:FuncId) (fs cs:List bD)
 |vO (x:bD)
 |jB (mx:Bool) (x y:bD)
 |conv (k:IntKind) (x:bD)
 |app (e n bytes:Nat) (x y:bD)
 |iJ (e n bytes:Nat) (x y:bD)
 |UD (e n bytes:Nat) (z:PV) (l c:bD)
 |J5 (n:Nat) (arr:Option Nat) (x:bD) (lo hi mx:Option bD)
 |call (f:bD) (args:List bD)
 |yB (k:QK) (neg:Bool) (x:bD)
 |x (y:W7)
 |other
 deriving Inhabited
def AS.ob (σ:AS)(x:Option bD)(z:Int):Option Int:=match x with
 |none=>some z
 |some x=>match σ.o x with
  |.pv (.int _ a)=>some a
  |_=>none
def cD (l:W7)(d:Nat)(K:AV->AS->Prop)(σ:AS):Prop:=
 match l with
 |.eqv neg kt x y=>match σ.o x,σ.o y with
  |.pv a,.pv b=>kt.ok a=true/\kt.ok b=true/\K (.pv (.bool (gV a b != neg))) σ
  |_,_=>False
 |.G0=>K (.mp (.loc d 0)) ((σ.bI d).add (.loc d 0) (.map []))
 |.look kt z ok x i=>match σ.o i with
  |.pv k=>kt.ok k=true/\match σ.o x with
   |.mp s=>match σ.b s with
    |some (.map es)=>zZ kt es=true/\K (gK ok (eX k es) z) σ
    |_=>False
   |.pv .cR=>K (gK ok none z) σ
   |_=>False
  |_=>False
 |.iN kt x i v=>match σ.o i with
  |.pv k=>kt.ok k=true/\match σ.o x with
   |.mp s=>match(σ.wX (σ.o v)).b s,(σ.wX (σ.o v)).o v with
    |some (.map es),.pv val=>zZ kt es=true/\K .any ((σ.wX (σ.o v)).set s (.map (mN k val es)))
    |_,_=>False
   |_=>False
  |_=>False
 |.BK x=>match σ.o x with
  |.mp s=>match σ.b s with
   |some (.map es)=>K (.pv (.int .i64 es.length)) σ
   |_=>False
  |.pv .cR=>K (.pv (.int .i64 0)) σ
  |_=>False
 |.copy n x y=>match σ.cont (σ.o y) n with
  |some ys=>match σ.o x with
   |.pv (.emp _)=>K (.pv (.int .i64 0)) σ
   |.vec s n' lo len=>match σ.b s with
    |some (.arr e eT xs)=>(n'=n/\eT=n/\lo+len<=xs.length)/\K (.pv (.int .i64 (ys.take len).length)) (σ.set s (.arr e n (aR xs lo (ys.take len))))
    |_=>False
   |_=>False
  |none=>False
 |.clear n z x=>match σ.o x with
  |.pv (.emp _)=>K (.pv (.bM [])) σ
  |.vec s n' lo len=>match σ.b s with
   |some (.arr e eT xs)=>(n'=n/\eT=n/\lo+len<=xs.length)/\K (.pv (.bM [])) (σ.set s (.arr e n (aR xs lo (List.replicate len z))))
   |_=>False
  |_=>False
 |.EM n x hi=>match σ.o hi with
  |.pv (.int _ h)=>match σ.o x with
   |.ptr s off=>match σ.b s with
    |some (.cells gF)=>match eB gF with
     |some xs=>(0<=h/\h<=n/\off+n<=xs.length)/\K (.pv (.aE false 1 ((xs.drop off).take h.toNat))) (σ.cH s)
     |none=>False
    |_=>False
   |.pv (.ref xs)=>(0<=h/\h<=n/\n<=xs.length)/\K (.pv (.aE false 1 (xs.take h.toNat))) σ
   |_=>False
  |_=>False
 |.YG n W x hi=>match σ.o hi with
  |.pv (.int _ h)=>match σ.o x with
   |.ptr s off=>match σ.b s with
    |some (.cells gF)=>match eB gF with
     |some xs=>(0<=h/\h<=n/\off+n*W<=xs.length)/\K (.pv (.aE false W (oI W h.toNat (xs.drop off)))) (σ.cH s)
     |none=>False
    |_=>False
   |_=>False
  |_=>False
 |.rE x=>match σ.o x with
  |.pv (.str s)=>K (.pv (.int .i64 s.size)) σ
  |_=>False
 |.A5 x i=>match σ.o x,σ.o i with
  |.pv (.str s),.pv (.int _ z)=>match BC s z with
   |some b=>K (.pv (.int .u8 b.toNat)) σ
   |none=>False
  |_,_=>False
 |.TU x lo hi=>match σ.o x with
  |.pv (.str s)=>match σ.ob lo 0,σ.ob hi s.size with
   |some l,some h=>(0<=l/\l<=h/\h<=s.size)/\K (.pv (.str (s.extract l.toNat h.toNat))) σ
   |_,_=>False
  |_=>False
 |.rG x y=>match σ.o x,σ.o y with
  |.pv (.str a),.pv (.str b)=>a.size+b.size<=9223372036854775807/\K (.pv (.str (a++b))) σ
  |_,_=>False
 |.BB e x=>match σ.o x with
  |.pv (.str s)=>s.size<=1000000/\K (.pv (.aE false 1 (qE s))) σ
  |_=>False
 |.TW x=>match σ.cont (σ.o x) 1 with
  |some xs=>match EB xs with
   |some ns=>K (.pv (.str (NU ns))) σ
   |none=>False
  |none=>False
 |.sB t x=>match σ.o x with
  |.pv a=>K (.pv (.iface t a)) σ
  |_=>False
 |.LN neg x=>match σ.o x with
  |.pv .eV=>K (.pv (.bool (!neg))) σ
  |.pv (.iface _ _)=>K (.pv (.bool neg)) σ
  |_=>False
 |.KZ t z x=>match σ.o x with
  |.pv .eV=>K (.pv (.bM [z,.bool false])) σ
  |.pv (.iface u a)=>K (.pv (.bM (if u=t then[a,.bool true]else[z,.bool false]))) σ
  |_=>False
 |.B3 _=>False
 |.VQ e n bytes x y=>match σ.o y with
  |.pv (.str s0)=>match σ.o x with
   |.pv (.emp _)=>(qE s0).length*bytes<=140737488355328/\(qE s0).length<=9223372036854775807/\K (.vec (.loc d 0) n 0 (qE s0).length) ((σ.bI d).add (.loc d 0) (.arr e n (qE s0)))
   |.vec s n' lo len=>match σ.b s with
    |some (.arr e' eT xs)=>(e'=e/\n'=n/\eT=n/\lo+len=xs.length)/\(len+(qE s0).length)*bytes<=140737488355328/\len+(qE s0).length<=9223372036854775807/\K (.vec (.loc d 0) n 0 (len+(qE s0).length)) (((σ.drop s).bI d).add (.loc d 0) (.arr e n (xs.drop lo++qE s0)))
    |_=>False
   |_=>False
  |_=>False
 |.Ek T e=>K (.ptr (.loc d 0) 0) ((σ.bI d).add (.loc d 0) (.ext (DL T e [])))
def bY (l:lZ)(d:Nat)(K:AV->AS->Prop)(σ:AS):Prop:=
 match l with
 |.dV x=>K (σ.o x) σ
 |.pick c a b=>match σ.o c with
  |.pv (.bool t)=>K (if t=true then σ.o a else σ.o b) σ
  |_=>False
 |.bin bt op x y=>match σ.o x,σ.o y with
  |.pv (.int k a),.pv (.int k' b)=>match DN op k k' a b with
   |some r=>K (.pv r) σ
   |none=>False
  |.pv (.bool a),.pv (.bool b)=>bt=true/\match DO op a b with
   |some r=>K (.pv r) σ
   |none=>False
  |_,_=>False
 |.not x=>match σ.o x with
  |.pv (.bool a)=>K (.pv (.bool (!a))) σ
  |_=>False
 |.yB k neg x=>match dH k (σ.o x)with
  |some b=>K (.pv (.bool (b != neg))) σ
  |none=>x3 k (σ.o x)/\K (.pv (.bool true)) σ/\K (.pv (.bool false)) σ
 |.x y=>cD y d K σ
 |.neg x=>match σ.o x with
  |.pv (.int k a)=>K (.pv (.int k (k.wrap (0-a)))) σ
  |_=>False
 |.box n x=>((σ.bI d).o x).cells.length=n/\(((σ.bI d).o x).wide=true\/((σ.bI d).o x).one=true)/\K (.ptr (.loc d 0) 0) ((σ.bI d).add (.loc d 0) (.cells ((σ.bI d).o x).cells))
 |.alloc z=>K (.ptr (.loc d 0) 0) ((σ.bI d).add (.loc d 0) (.cells (z.cells.map .pv)))
 |.build z ps=>match wK σ (z.cells.map .pv) ps with
  |some l=>K (w8 l) σ
  |none=>False
 |.aQ e n ps=>match(σ.DV ps).tN ps with
  |some []=>K (.pv (.emp (some false))) σ
  |some xs=>(∀x∈xs,x.cells.length=n/\((AV.pv x).wide=true\/(AV.pv x).one=true))/\K (.vec (.loc d 0) n 0 xs.length) (((σ.DV ps).bI d).add (.loc d 0) (.arr e n xs))
  |none=>False
 |.load row n x=>match σ.o x with
  |.pv (.ref cs)=>if row=true then n<=cs.length/\K (.pv (.agg (cs.take n))) σ else match cs with
   |c::_=>K (.pv c) σ
   |[]=>False
  |.ptr s off=>match σ.b s with
   |some (.cells bU)=>if row=true then off+n<=bU.length/\K (w8 ((bU.drop off).take n)) σ else match bU[off]? with
    |some a=>K a σ
    |none=>False
   |_=>False
  |.lB s n' i off=>match σ.b s with
   |some (.arr _ eT xs)=>match xs[i]? with
    |some x=>n'=eT/\if row=true then off+n<=x.cells.length/\K (.pv (.agg ((x.cells.drop off).take n))) σ else match x.cells[off]? with
     |some c=>K (.pv c) σ
     |none=>False
    |none=>False
   |_=>False
  |_=>False
 |.store n x y=>match σ.o x with
  |.ptr s off=>match σ.b s with
   |some (.cells bU)=>(σ.o y).cells.length=n/\((σ.o y).wide=true\/(σ.o y).one=true)/\off+n<=bU.length/\K .any (σ.set s (.cells (aR bU off (σ.o y).cells)))
   |_=>False
  |.lB s n' i off=>match(σ.wX (σ.o y)).b s,(σ.wX (σ.o y)).o y with
    |some (.arr e eT xs),.pv p=>match xs[i]? with
     |some x=>n'=eT/\0<n/\p.cells.length=n/\((AV.pv p).wide=true\/(AV.pv p).one=true)/\off+n<=x.cells.length/\K .any ((σ.wX (σ.o y)).set s (.arr e eT (xs.set i (setAt x off p))))
     |none=>False
    |_,_=>False
  |_=>False
 |.fa off x=>match σ.o x with
  |.pv (.ref cs)=>off<=cs.length/\K (.pv (.ref (cs.drop off))) σ
  |.ptr s o=>K (.ptr s (o+off)) σ
  |.lB s n i o=>K (.lB s n i (o+off)) σ
  |_=>False
 |.NC row off n x=>if row=true then off+n<=(σ.o x).cells.length/\(σ.o x).wide=true/\K (w8 (((σ.o x).cells.drop off).take n)) σ else match(σ.o x).cells[off]? with
  |some a=>(σ.o x).wide=true/\K a σ
  |none=>False
 |.ia n arr x i=>match σ.o i with
  |.pv (.int _ z)=>match arr with
   |none=>match σ.o x with
    |.pv (.aE _ n' xs)=>if 0<=z then match xs[z.toNat]? with
      |some y=>n'=n/\K (.pv (.ref y.cells)) σ
      |none=>False
     else False
    |.vec s n' lo len=>n'=n/\0<=z/\z<len/\K (.lB s n (lo+z.toNat) 0) σ
    |_=>False
   |some l=>0<=z/\z<l/\match σ.o x with
    |.pv (.ref cs)=>z.toNat*n<=cs.length/\K (.pv (.ref (cs.drop (z.toNat*n)))) σ
    |.ptr s o=>K (.ptr s (o+z.toNat*n)) σ
    |.lB s n' j o=>K (.lB s n' j (o+z.toNat*n)) σ
    |_=>False
  |_=>False
 |.len arr x=>match arr with
  |some l=>K (.pv (.int .i64 l)) σ
  |none=>match σ.o x with
   |.pv (.aE _ _ xs)=>K (.pv (.int .i64 xs.length)) σ
   |.pv (.emp _)=>K (.pv (.int .i64 0)) σ
   |.vec _ _ _ len=>K (.pv (.int .i64 len)) σ
   |_=>False
 |.ext x i=>match σ.o x with
  |.pv (.bM vs)=>match vs[i]? with
   |some v=>K (.pv v) σ
   |none=>False
  |.bM vs=>match vs[i]? with
   |some v=>K v σ
   |none=>False
  |_=>False
 |.yC f fs cs=>match σ.tN fs,σ.tN cs with
  |some a,some b=>K (.pv (.fn f a b)) σ
  |_,_=>K (.fn f (fs.map σ.o) (cs.map σ.o)) σ
 |.vO x=>match σ.o x with
  |.pv (.ref cs)=>K (.pv (.ref cs)) σ
  |.ptr s o=>K (.ptr s o) σ
  |.lB s n i o=>K (.lB s n i o) σ
  |_=>False
 |.jB mx x y=>match σ.o x,σ.o y with
  |.pv (.int k a),.pv (.int _ b)=>K (.pv (.int k (if mx=true then(if b>a then b else a)else(if b<a then b else a)))) σ
  |_,_=>False
 |.conv k x=>match σ.o x with
  |.pv (.int _ a)=>K (.pv (.int k (k.wrap a))) σ
  |_=>False
 |.app e n bytes x y=>match σ.cont (σ.o y) n with
  |some ys=>match σ.o x with
   |.pv (.emp _)=>ys.length*bytes<=140737488355328/\ys.length<=9223372036854775807/\K (.vec (.loc d 0) n 0 ys.length) ((σ.bI d).add (.loc d 0) (.arr e n ys))
   |.vec s n' lo len=>match σ.b s with
    |some (.arr e' eT xs)=>((e'=e/\n'=n/\eT=n/\lo+len=xs.length)/\(len+ys.length)*bytes<=140737488355328/\len+ys.length<=9223372036854775807/\K (.vec (.loc d 0) n 0 (len+ys.length)) (((σ.drop s).bI d).add (.loc d 0) (.arr e n (xs.drop lo++ys))))\/
      ((e'=e/\n'=n/\eT=n/\lo+len<=xs.length)/\(len+ys.length)*bytes<=140737488355328/\len+ys.length<=9223372036854775807/\K (.vec (.loc d 0) n 0 (len+ys.length)) ((σ.bI d).add (.loc d 0) (.arr e n ((xs.drop lo).take len++ys)))/\K (.vec s n lo (len+ys.length)) (σ.set s (.arr e n (xs.take (lo+len)++ys))))
    |_=>False
   |_=>False
  |none=>False
 |.iJ e n bytes x y=>match σ.cont (σ.o y) n with
  |some ys=>match σ.o x with
   |.pv (.emp _)=>ys.length*bytes<=140737488355328/\ys.length<=9223372036854775807/\K (.vec (.loc d 0) n 0 ys.length) ((σ.bI d).add (.loc d 0) (.arr e n ys))
   |_=>False
  |none=>False
 |.UD e n bytes z l c=>match σ.o l,σ.o c with
  |.pv (.int _ a),.pv (.int _ b)=>0<=a/\a<=b/\b<=1000000/\bytes<=1000/\K (.vec (.loc d 0) n 0 a.toNat) ((σ.bI d).add (.loc d 0) (.arr e n (List.replicate a.toNat z)))
  |_,_=>False
 |.J5 n arr x lo hi mx=>match mx with
  |some _=>False
  |none=>match σ.ob lo 0 with
   |some l=>match arr with
    |none=>match σ.o x with
     |.pv (.aE nn n' xs)=>match σ.ob hi xs.length with
      |some h=>0<=l/\l<=h/\h<=xs.length/\n'=n/\K (.pv (.aE nn n ((xs.take h.toNat).drop l.toNat))) σ
      |none=>False
     |.pv (.emp nl)=>match σ.ob hi 0 with
      |some h=>l=0/\h=0/\K (.pv (.emp nl)) σ
      |none=>False
     |.vec s n' OY len=>match σ.ob hi len with
      |some h=>0<=l/\l<=h/\h<=len/\n'=n/\K (.vec s n (OY+l.toNat) (h.toNat-l.toNat)) σ
      |none=>False
     |_=>False
    |some _=>False
   |none=>False
 |_=>False
section
variable {N:Nat}{w0:World}{m0:Env w0}{pl:List Nat}{σ:AS}{ρ:Site->Loc}{m m':Mem}{act:Act}{w w':World}
def Mem.with (m:Mem)(w:World)(l:Loc):Mem:=fun b o=>if l.real=true/\b=l.b then w.cell? ⟨b,o,none⟩else m b o
theorem Mem.Xj {m:Mem}(h:Le m w.mem)(l:Loc):Le m (m.with w l):=fun b o v hv=>by
 unfold Mem.with
 split
 .exact h b o v hv
 .exact hv
theorem Mem.Zxv {m:Mem}(h:Le m w.mem)(l:Loc):Le (m.with w l) w.mem:=fun b o v hv=>by
 unfold Mem.with at hv;split at hv
 .exact hv
 .exact h b o v hv
theorem j7 {cs:Array Value}{k n j:Nat}:((cs.toList.drop k).take n)[j]?=if j<n then cs[k+j]? else none:=by
 rw[mG];split
 .rw[mW,O7]
 .rfl
theorem Ho {cs:Array Value}{k n:Nat}(h:k+n<=cs.size):((cs.toList.drop k).take n).length=n:=by
 rw[gI,uG,uV];omega
theorem W6 {a c n:Nat}(h:a<c):a*n+n<=c*n:=by
 have:(a+1)*n<=c*n:=I2 _ h
 rw[Nat.add_mul]at this;omega
theorem ZoU {s:Site}{e n:Nat}{xs:List PV}(hb:kO ρ m w s (.arr e n xs))(hm:Le m m')(mK:(ρ s).real=true->∀o v,w.cell? ⟨(ρ s).b,o,none⟩=some v->m' (ρ s).b o=some v){lo len:Nat}(hl:lo+len<=xs.length){v:Value}(hv:bN ρ m v (.vec s n lo len)):
  dG m' v (.aE false n ((xs.drop lo).take len)):=by
 have hlen:((xs.drop lo).take len).length=len:=by rw[gI,uG];omega
 cases hv with
 |nE _ _ _ a h=>
  have e0:((xs.drop lo).take 0)=[]:=by simp
  rw[e0];exact .aE a 0 false n [] (fun _=>[]) (by simp) (by simp) (fun _=>rfl) h (fun e=>(by cases e)) (fun i x hx=>by simp at hx) (fun i x hx=>by simp at hx) (fun i x j d c hx=>by simp at hx)
 |vec _ _ _ _ cap h0 h1 h2=>
  obtain⟨hn,hb|⟨_,cs,k1,k2,k3,k4,k5⟩⟩:=hb
  .rw[hb.1]at h2;cases h2
  have get:∀i x,((xs.drop lo).take len)[i]?=some x->xs[lo+i]?=some x/\i<len:=fun i x hx=>by
   rw[mG]at hx;split at hx
   .rename_i hi;rw[mW]at hx;exact⟨hx,hi⟩
   .cases hx
  have fit:∀i,i<len->(ρ s).o+(lo+i)*n+n<=cs.size:=fun i hi=>by
   have:(lo+i)*n+n<=(ρ s).cap*n:=W6 (by omega)
   omega
  have hh:=dG.aE (m:=m') (some ⟨(ρ s).b,(ρ s).o+lo*n,none⟩) cap false n ((xs.drop lo).take len) (fun i=>(cs.toList.drop ((ρ s).o+(lo+i)*n)).take n) (by rw[hlen];exact h0) (by have:(ρ s).cap<=9223372036854775807:=(by simpa[maxLen]using k4);omega)
   (fun e=>(by cases e)) (fun A hA=>(by cases hA;rfl)) (fun e=>(by cases e)) (fun i x hx=>?_) (fun i x hx=>?_) (fun i x j d c hx hd hc=>?_)
  .rw[hlen]at hh;exact hh
  .obtain⟨g1,g2⟩:=get i x hx;refine⟨_,_,rfl,At.j3 (fun j u hj=>?_)⟩;rw[j7]at hj;split at hj
   .refine mK h2 _ _ ?_;rw[show(ρ s).o+lo*n+i*n+j=(ρ s).o+(lo+i)*n+j by rw[Nat.add_mul];omega];simp[World.cell?,k1,hj]
   .cases hj
  .obtain⟨g1,g2⟩:=get i x hx;refine⟨Ho (fit i g2),(k5 _ _ g1).1,fun d hd=>?_⟩;obtain⟨j,hj⟩:=iM.1 hd;rw[j7]at hj;split at hj
   .rename_i rO;obtain⟨kc,kx⟩:=k5 _ _ g1;have VD:j<x.cells.length:=by omega
    obtain⟨d',q1,q2,_⟩:=kx j _ (aX VD);rw[hj]at q1;cases q1;exact q2
   .cases hj
  .obtain⟨g1,g2⟩:=get i x hx;rw[j7]at hd;split at hd
   .obtain⟨kc,kx⟩:=k5 _ _ g1;obtain⟨d',q1,_,q3⟩:=kx j c hc;rw[hd]at q1;cases q1;exact q3.mono hm
   .cases hd
theorem Gw {s:Site}{nb:Nat}{xs:List PV}:∀{l:List AV} {i:Nat},(AV.bB s nb xs l)[i]?=(l[i]?).map (AV.cH s nb xs)
 |[],i=>by simp[AV.bB]
 |a::r,0=>by simp[AV.bB]
 |a::r,i+1=>by
  simp only[AV.bB,List.getElem?_cons_succ];exact Gw
theorem Gx {s:Site}{nb:Nat}{xs:List PV}:∀{l:List AV},(AV.bB s nb xs l).length=l.length
 |[]=>rfl
 |a::r=>by simp only[AV.bB,pA,Gx]
theorem bN.Es {s:Site}{nb:Nat}{xs:List PV}(hm:Le m m')(Qc:∀v off,bN ρ m v (.ptr s off)->bN ρ m' v (if nb=0 then .pv (.ref (xs.drop off))else .any))
  (YD:∀v n lo len,bN ρ m v (.vec s n lo len)->bN ρ m' v (if 0<n/\n=nb/\lo+len<=xs.length then .pv (.aE false n ((xs.drop lo).take len))else .any)) {v:Value} {a:AV} (h:bN ρ m v a):bN ρ m' v (a.cH s nb xs):=by
 induction h with
 |any v=>exact .any v
 |pv v x h=>exact .pv v x (h.mono hm)
 |ptr s' off=>
  rw[AV.cH];split
  .rename_i e;subst e;exact Qc _ off (.ptr _ off)
  .exact .ptr s' off
 |lB s' n i off=>
  rw[AV.cH];split
  .exact .any _
  .exact .lB s' n i off
 |vec s' n lo len cap h0 h1 h2=>
  rw[AV.cH];split
  .rename_i e;subst e;exact YD _ n lo len (.vec _ n lo len cap h0 h1 h2)
  .exact .vec s' n lo len cap h0 h1 h2
 |nE s' n lo a h=>
  rw[AV.cH];split
  .rename_i e;subst e;exact YD _ n lo 0 (.nE _ n lo a h)
  .exact .nE s' n lo a h
 |mp s'=>
  rw[AV.cH];split
  .exact .any _
  .exact .mp s'
 |nM s'=>
  rw[AV.cH];split
  .exact .any _
  .exact .nM s'
 |fn f vf vc fs cs h0 h1 h2 h3 BS PB=>
  rw[AV.cH];refine ZuY (by rw[Gx];exact h0) (by rw[Gx];exact h1) (fun j d c k1 k2=>?_) (fun j d c k1 k2=>?_)
  .rw[Gw]at k2;obtain⟨a,k3,rfl⟩:=eA.1 k2;exact BS j d a k1 k3
  .rw[Gw]at k2;obtain⟨a,k3,rfl⟩:=eA.1 k2;exact PB j d a k1 k3
 |agg vs cs h0 h1 h2 ih=>
  rw[AV.cH];refine Ha (by rw[Gx];exact h0) h1 (fun j d c k1 k2=>?_);rw[Gw]at k2;obtain⟨a,k3,rfl⟩:=eA.1 k2;exact ih j d a k1 k3
 |bM vs cs h0 h2 ih=>
  rw[AV.cH];refine Zr9 (by rw[Gx];exact h0) (fun j d c k1 k2=>?_);rw[Gw]at k2;obtain⟨a,k3,rfl⟩:=eA.1 k2;exact ih j d a k1 k3
theorem bN.cH {s:Site}{e nb:Nat}{xs:List PV}(hb:kO ρ m w s (.arr e nb xs))(hm:Le m m')(mK:(ρ s).real=true->∀o v,w.cell? ⟨(ρ s).b,o,none⟩=some v->m' (ρ s).b o=some v){v:Value}{a:AV}(h:bN ρ m v a):bN ρ m' v (a.cH s nb xs):=by
 have h0:¬nb=0:=by have:=hb.1;omega
 refine bN.Es hm (fun v off _=>?_) (fun v n lo len hv=>?_) h
 .rw[if_neg h0];exact .any v
 .split
  .rename_i hc;obtain⟨_,rfl,hl⟩:=hc;exact .pv _ _ (ZoU hb hm mK hl hv)
  .exact .any v
theorem dG.La {v:Value}{x:PV}(h:dG m v x)(hv:v.oneCell'=true):x.cells=[x]:=by
 cases h<;>first|rfl|(simp[Value.oneCell']at hv)
theorem Zgb {s:Site}{gF:List AV}{xs:List PV}(hb:kO ρ m w s (.cells gF))(hx:eB gF=some xs)(hm:Le m m')(mK:∀o v,w.cell? ⟨(ρ s).b,o,none⟩=some v->m' (ρ s).b o=some v):
  ∃ds:List Value,ds.length=xs.length/\At m' (ρ s).b 0 ds/\∀(j:Nat) (d:Value) (c:PV),ds[j]?=some d->xs[j]?=some c->d.oneCell'=true/\dG m' d c:=by
 obtain⟨_,cs,T,k1,k2,k3⟩:=hb;have hu:=SY hx;subst hu;refine⟨cs.toList,by rw[uV,k2,fQ],At.j3 (fun j u hj=>mK _ _ ?_),fun j d c h1 h2=>?_⟩
 .rw[O7]at hj;simp[World.cell?,k1,hj]
 .rw[O7]at h1;have h3:(xs.map AV.pv)[j]?=some (.pv c):=by rw[bR,h2];rfl
  obtain⟨q1,q2⟩:=k3 j d _ h1 h3;refine⟨q1,?_⟩;cases q2 with
  |pv _ _ h=>exact h.mono hm
theorem bN.Zx6 {s:Site}{gF:List AV}{xs:List PV}(hb:kO ρ m w s (.cells gF))(hx:eB gF=some xs)(hm:Le m m')(mK:∀o v,w.cell? ⟨(ρ s).b,o,none⟩=some v->m' (ρ s).b o=some v){v:Value}{a:AV}(h:bN ρ m v a):bN ρ m' v (a.cH s 0 xs):=by
 obtain⟨ds,hl,r7,lF⟩:=Zgb hb hx hm mK;refine bN.Es hm (fun v off hv=>?_) (fun v n lo len hv=>?_) h
 .rw[if_pos rfl];cases hv;refine .pv _ _ (.ref (ρ s).b off (xs.drop off) (ds.drop off) (At.j3 (fun j u hj=>?_)) (by simp[hl]) (fun d hd=>?_) (fun j d c h1 h2=>?_))
  .rw[mW]at hj
   have:=r7.get _ _ hj
   rwa [rT]at this
  .obtain⟨j,hj⟩:=iM.1 hd;rw[mW]at hj;have aI:off+j<xs.length:=by rw[<-hl];exact(bZ.1 hj).1
   exact(lF _ d _ hj (aX aI)).1
  .rw[mW]at h1 h2;exact(lF _ d c h1 h2).2
 .rw[if_neg (fun e=>by omega)];exact .any v
theorem kO.live (q:Site->Bool){s:Site}{b:aL}(h:kO ρ m w s b):kO ρ m w s (b.live q):=by
 have hl:∀(v:Value) (a:AV),bN ρ m v a->bN ρ m v (a.live q):=fun v a h=>by
  unfold AV.live;split
  .exact h
  .exact .any v
 exact h.gen (AV.live q) (by cases b<;>rfl) (Le.refl m) rfl (fun v a hv _=>hl v a hv) (fun _ _=>rfl)
theorem Zqg {w:World}{l:Loc}{b:aL}{q:Site->Bool}:ins w l (b.live q)=ins w l b:=by
 cases b with
 |_=>rfl
theorem Ztu {w:World}{l:Loc}{b:aL}{s:Site}{n:Nat}{xs:List PV}:ins w l (b.cH s n xs)=ins w l b:=by
 cases b with
 |_=>rfl
theorem Zk9 {s:Site}{nb:Nat}{xs:List PV}:∀l:List AV,AV.bB s nb xs l=l.map (AV.cH s nb xs)
 |[]=>rfl
 |a::r=>by simp only[AV.bB,iQ,Zk9 r]
theorem Sat.tidy (h:Sat N w0 m0 pl σ ρ m act w):Sat N w0 m0 pl σ.tidy ρ m act w:=by
 have hb:∀s b,σ.tidy.b s=some b->∃b',σ.b s=some b'/\b=b'.live fun s=>(σ.b s).isSome:=fun s b k=>by
  have k':(σ.bx.map fun p=>(p.1,p.2.live fun s=>(σ.b s).isSome)).lookup s=some b:=k;rw[SX (aL.live fun s=>(σ.b s).isSome) s]at k';obtain⟨b',k1,rfl⟩:=eA.1 k';exact⟨b',k1,rfl⟩
 have hq:∀s b i,fL ρ w s (b.live fun s=>(σ.b s).isSome) i↔fL ρ w s b i:=fun s b i=>by unfold fL;rw[Zqg]
 refine⟨h.sA,h.sz,h.tm,fun s b k=>?_,fun s s' b b' i k k' r r'=>?_,h.mem,fun s b i k r=>?_,fun s b i k r=>?_,h.keep,h.base,h.qB,h.par⟩
 .obtain⟨b',k1,rfl⟩:=hb s b k;exact(h.bx s b' k1).live _
 .obtain⟨c,k1,rfl⟩:=hb s b k;obtain⟨c',C0,rfl⟩:=hb s' b' k';exact h.dZ s s' c c' i k1 C0 ((hq _ _ _).1 r) ((hq _ _ _).1 r')
 .obtain⟨c,k1,rfl⟩:=hb s b k;exact h.eM s c i k1 ((hq _ _ _).1 r)
 .obtain⟨c,k1,rfl⟩:=hb s b k;exact h.fM s c i k1 ((hq _ _ _).1 r)
theorem Sat.Es (h:Sat N w0 m0 pl σ ρ m act w)(s:Site){b0:aL}(hs:σ.b s=some b0)(n:Nat)(xs:List PV)(H:∀v a,bN ρ m v a->bN ρ (m.with w (ρ s)) v (a.cH s n xs)):
  Sat N w0 m0 pl ⟨σ.tm.map fun p=>(p.1,p.2.cH s n xs),(σ.bx.filter fun p=>!decide (p.1=s)).map fun p=>(p.1,p.2.cH s n xs)⟩ ρ (m.with w (ρ s)) act w:=by
 have hm:=Mem.Xj h.mem (ρ s);have bq:∀s' b,AS.b ⟨σ.tm.map fun p=>(p.1,p.2.cH s n xs),(σ.bx.filter fun p=>!decide (p.1=s)).map fun p=>(p.1,p.2.cH s n xs)⟩ s'=some b->s'≠s/\∃b',σ.b s'=some b'/\b=b'.cH s n xs:=fun s' b k=>by
  have k':List.lookup s' ((σ.bx.filter fun p=>!decide (p.1=s)).map fun p=>(p.1,p.2.cH s n xs))=some b:=k;rw[SX (aL.cH s n xs) s',show List.lookup s' (σ.bx.filter fun p=>!decide (p.1=s))=_ from TH (fun x=>!decide (x=s)) s' σ.bx]at k';obtain⟨b',k1,rfl⟩:=eA.1 k';split at k1
  .rename_i cZ;exact⟨by simpa using cZ,b',k1,rfl⟩
  .cases k1
 have hq:∀s' b i,fL ρ w s' (b.cH s n xs) i↔fL ρ w s' b i:=fun s b i=>by unfold fL;rw[Ztu]
 refine⟨h.sA,h.sz,fun t a k=>?_,fun s' b k=>?_,fun s1 s2 b1 b2 i k1 k2 r1 r2=>?_,Mem.Zxv h.mem _,fun s' b i k r o=>?_,fun s' b i k r=>?_,h.keep,h.base.trans hm,fun b o v hv=>?_,h.par⟩
 .have k':List.lookup t (σ.tm.map fun p=>(p.1,p.2.cH s n xs))=some a:=k;rw[SX (AV.cH s n xs) t]at k';obtain⟨a',k1,rfl⟩:=eA.1 k';obtain⟨v,k2,k3⟩:=h.tm t a' k1;exact⟨v,k2,H _ _ k3⟩
 .obtain⟨cZ,b',k1,rfl⟩:=bq s' b k;exact(h.bx s' b' k1).gen (AV.cH s n xs) (by cases b'<;>first|rfl|(show aL.cells _=_;rw[Zk9])) hm rfl (fun v a hv _=>H v a hv) (fun _ _=>rfl)
 .obtain⟨_,b1',g1,rfl⟩:=bq s1 b1 k1;obtain⟨_,b2',g2,rfl⟩:=bq s2 b2 k2;exact h.dZ s1 s2 b1' b2' i g1 g2 ((hq _ _ _).1 r1) ((hq _ _ _).1 r2)
 .obtain⟨cZ,b',k1,rfl⟩:=bq s' b k;have r':=(hq _ _ _).1 r;unfold Mem.with
  rw[if_neg (fun e=>cZ (h.dZ s' s b' _ i k1 hs r' (.inl ⟨e.1,e.2.symm⟩)))];exact h.eM s' b' i k1 r' o
 .obtain⟨_,b',g1,rfl⟩:=bq s' b k;exact h.fM s' b' i g1 ((hq _ _ _).1 r)
 .unfold Mem.with at hv;split at hv
  .rename_i e;rw[e.2];exact .inr (h.own s _ hs e.1)
  .exact h.qB b o v hv
theorem Sat.Xh (h:Sat N w0 m0 pl σ ρ m act w){s:Site}{gF:List AV}{xs:List PV}(hs:σ.b s=some (.cells gF))(hx:eB gF=some xs):
  σ.cH s=⟨σ.tm.map fun p=>(p.1,p.2.cH s 0 xs),(σ.bx.filter fun p=>!decide (p.1=s)).map fun p=>(p.1,p.2.cH s 0 xs)⟩/\Sat N w0 m0 pl (σ.cH s) ρ (m.with w (ρ s)) act w/\Le m (m.with w (ρ s))/\∀o v,w.cell? ⟨(ρ s).b,o,none⟩=some v->m.with w (ρ s) (ρ s).b o=some v:=by
 have hb:=h.bx s _ hs;have hm:=Mem.Xj h.mem (ρ s);have mK:∀o v,w.cell? ⟨(ρ s).b,o,none⟩=some v->m.with w (ρ s) (ρ s).b o=some v:=fun o v hv=>by
  unfold Mem.with;rw[if_pos ⟨hb.1,rfl⟩];exact hv
 have e:σ.cH s=⟨σ.tm.map fun p=>(p.1,p.2.cH s 0 xs),(σ.bx.filter fun p=>!decide (p.1=s)).map fun p=>(p.1,p.2.cH s 0 xs)⟩:=by
  unfold AS.cH;rw[hs];dsimp only;rw[hx]
 refine⟨e,?_,hm,mK⟩;rw[e];exact h.Es s hs 0 xs (fun v a hv=>hv.Zx6 hb hx hm mK)
theorem Sat.cH (h:Sat N w0 m0 pl σ ρ m act w)(s:Site):∃m',Le m m'/\Sat N w0 m0 pl (σ.cH s) ρ m' act w:=by
 cases hs:σ.b s with
 |none=>
  have e:σ.cH s=σ.tidy:=by unfold AS.cH;rw[hs]
  rw[e];exact⟨m,Le.refl m,h.tidy⟩
 |some bb=>
  cases bb with
  |arr e n xs=>
   have hb:=h.bx s _ hs;have hm:=Mem.Xj h.mem (ρ s);have mK:(ρ s).real=true->∀o v,w.cell? ⟨(ρ s).b,o,none⟩=some v->m.with w (ρ s) (ρ s).b o=some v:=fun hr o v hv=>by
    unfold Mem.with;rw[if_pos ⟨hr,rfl⟩];exact hv
   have e:σ.cH s=⟨σ.tm.map fun p=>(p.1,p.2.cH s n xs),(σ.bx.filter fun p=>!decide (p.1=s)).map fun p=>(p.1,p.2.cH s n xs)⟩:=by unfold AS.cH;rw[hs]
   rw[e];exact⟨m.with w (ρ s),hm,h.Es s hs n xs (fun v a hv=>hv.cH hb hm mK)⟩
  |cells gF=>
   cases hx:eB gF with
   |some xs=>
    obtain⟨_,h2,h3,_⟩:=h.Xh hs hx;exact⟨_,h3,h2⟩
   |none=>
    have e:σ.cH s=σ:=by unfold AS.cH;rw[hs];dsimp only;rw[hx]
    rw[e];exact⟨m,Le.refl m,h⟩
  |map es=>
   have e:σ.cH s=σ:=by unfold AS.cH;rw[hs]
   rw[e];exact⟨m,Le.refl m,h⟩
  |loop C ps nt tm st=>
   have e:σ.cH s=σ:=by unfold AS.cH;rw[hs]
   rw[e];exact⟨m,Le.refl m,h⟩
  |ext E=>
   have e:σ.cH s=σ:=by unfold AS.cH;rw[hs]
   rw[e];exact⟨m,Le.refl m,h⟩
theorem Sat.JM (a:AV)(h:Sat N w0 m0 pl σ ρ m act w):∃m',Le m m'/\Sat N w0 m0 pl (σ.JM a) ρ m' act w:=by
 unfold AS.JM;split
 .exact h.cH _
 .exact⟨m,Le.refl m,h⟩
theorem Sat.i7:∀(l:List AV) {σ:AS} {m:Mem},Sat N w0 m0 pl σ ρ m act w->∃m',Le m m'/\Sat N w0 m0 pl (σ.i7 l) ρ m' act w
 |[],σ,m,h=>⟨m,Le.refl m,h⟩
 |a::r,σ,m,h=>by
  obtain⟨m1,l1,h1⟩:=h.JM a;obtain⟨m2,l2,h2⟩:=Sat.i7 r h1;exact⟨m2,l1.trans l2,h2⟩
theorem Sat.wX (a:AV)(h:Sat N w0 m0 pl σ ρ m act w):∃m',Le m m'/\Sat N w0 m0 pl (σ.wX a) ρ m' act w:=by
 unfold AS.wX;split
 .exact h.i7 _
 .exact h.JM _
theorem Sat.DV:∀(ps:List bD) {σ:AS} {m:Mem},Sat N w0 m0 pl σ ρ m act w->∃m',Le m m'/\Sat N w0 m0 pl (σ.DV ps) ρ m' act w
 |[],σ,m,h=>⟨m,Le.refl m,h⟩
 |x::r,σ,m,h=>by
  have step:∃m',Le m m'/\Sat N w0 m0 pl (σ.wX (σ.o x)) ρ m' act w:=by
   unfold AS.wX;split
   .exact h.i7 _
   .exact h.JM _
  obtain⟨m1,l1,h1⟩:=step;obtain⟨m2,l2,h2⟩:=Sat.DV r h1;exact⟨m2,l1.trans l2,h2⟩
end
def YS (v:Value):Option PV:=match v with
 |.agg cs=>(cs.toList.mapM nS).map .agg
 |v=>nS v
theorem Yz {m:Mem}:∀{l:List Value} {xs:List PV},l.mapM nS=some xs->l.length=xs.length/\∀(j:Nat) (d:Value) (c:PV),l[j]?=some d->xs[j]?=some c->dG m d c
 |[],xs,h=>by simp at h;subst h;exact⟨rfl,fun j d c k=>by simp at k⟩
 |v::r,xs,h=>by
  simp only[List.mapM_cons,Option.bind_eq_bind,Option.pure_def]at h;cases hv:nS v with
  |none=>simp[hv]at h
  |some x=>
   cases hr:r.mapM nS with
   |none=>simp[hv,hr]at h
   |some l=>
    simp[hv,hr]at h;subst h;obtain⟨h1,h2⟩:=Yz (m:=m) hr;refine⟨by simp[h1],fun j d c k1 k2=>?_⟩;cases j with
    |zero=>simp at k1 k2;subst k1 k2;exact Lx hv m
    |succ j=>exact h2 j d c (by simpa using k1) (by simpa using k2)
theorem Zky {v:Value}{x:PV}(h:nS v=some x):v.oneCell'=true/\x.cells=[x]:=by
 unfold nS at h;split at h<;>first|(cases h;exact⟨rfl,rfl⟩)|(cases h)
theorem TF {v:Value}{x:PV}(h:YS v=some x)(m:Mem):v.cells.size=x.cells.length/\(∀d∈v.cells,d.oneCell'=true)/\∀(j:Nat) (d:Value) (c:PV),v.cells[j]?=some d->x.cells[j]?=some c->dG m d c:=by
 unfold YS at h;split at h
 .rename_i cs;obtain⟨xs,k1,rfl⟩:=eA.1 h;obtain⟨k2,k3⟩:=Yz (m:=m) k1;refine⟨by simpa[Value.cells,PV.cells]using k2,fun d hd=>?_,fun j d c h1 h2=>k3 j d c (by simpa[Value.cells]using h1) h2⟩;have IG:d∈cs.toList:=by simpa[Value.cells]using hd
  obtain⟨j,hj⟩:=iM.1 IG;have eS:∀{l:List Value} {xs:List PV},l.mapM nS=some xs->∀d∈l,d.oneCell'=true:=by
   intro l;induction l with
   |nil=>intro xs _ d hd;cases hd
   |cons v r ih=>
    intro xs h d hd;simp only[List.mapM_cons,Option.bind_eq_bind,Option.pure_def]at h;cases hv:nS v with
    |none=>simp[hv]at h
    |some x=>
     cases hr:r.mapM nS with
     |none=>simp[hv,hr]at h
     |some l=>
      rcases jQ.1 hd with rfl|hd
      .exact(Zky hv).1
      .exact ih hr d hd
  exact eS k1 d IG
 .rename_i cZ;obtain⟨k1,k2⟩:=Zky h;have hv:v.cells=#[v]:=by cases v<;>first|rfl|(exact(cZ _ rfl).elim)
  rw[hv,k2];refine⟨rfl,fun d hd=>by simp at hd;subst hd;exact k1,fun j d c h1 h2=>?_⟩;cases j with
  |zero=>simp at h1 h2;subst h1 h2;exact Lx h m
  |succ j=>simp at h2
def rW (P:Program)(t:TypeId):Option PV:=(gX P t).bind YS
def pI:List Operand->Option (List bD)
 |[]=>some []
 |x::r=>match aW x,pI r with
  |some y,some l=>some (y::l)
  |_,_=>none
def Za (P:Program)(t:TypeId):Option (List (Nat×Nat)):=match P.underlying t with
 |some (.struct fs)=>fs.toList.mapM fun f=>(eI P f.type).map fun n=>(f.offset,n)
 |some (.array l e)=>(eI P e).map fun n=>(List.range l).map fun i=>(i*n,n)
 |_=>none
def WD (pl:List (Nat×Nat)):List (Nat×Operand)->Option (List (Nat×Nat×bD))
 |[]=>some []
 |(i,x)::r=>match pl[i]?,aW x,WD pl r with
  |some (o,n),some y,some l=>some ((o,n,y)::l)
  |_,_,_=>none
def tP:Option Operand->Option (Option bD)
 |none=>some none
 |some x=>(aW x).map some
def vP (k:QK)(op:BinOp)(x:bD):lZ:=match op with
 |.eql=>.yB k false x
 |.neq=>.yB k true x
 |_=>.other
def nD (P:Program):Op->lZ
 |.move x=>match aW x with
  |some y=>.dV y
  |none=>.other
 |.assign x=>match aW x with
  |some y=>.dV y
  |none=>.other
 |.pick c a b=>match aW c,aW a,aW b with
  |some c,some a,some b=>.pick c a b
  |_,_,_=>.other
 |.binOp op t x y _=>match aW x,aW y,P.underlying t with
  |some x,some y,some (.int _)=>.bin false op x y
  |some x,some y,some .bool=>.bin true op x y
  |some x,some (.c (.emp (some true))),some (.slice _)=>vP .sl op x
  |some x,some (.c .eU),some (.pointer _)=>vP .pt op x
  |some x,some (.c .cR),some (.map _ _)=>vP .mp op x
  |_,_,_=>.other
 |.unOp .not _ x=>match aW x with
  |some y=>.not y
  |none=>.other
 |.unOp .neg _ x=>match aW x with
  |some y=>.neg y
  |none=>.other
 |.box t x=>match aW x,eI P t with
  |some y,some n=>.box n y
  |_,_=>.other
 |.alloc t=>match rW P t with
  |some z=>.alloc z
  |none=>.other
 |.build t ps=>match rW P t,Za P t with
  |some z,some pl=>match WD pl ps.toList with
   |some l=>.build z l
   |none=>.other
  |_,_=>.other
 |.buildSlice t len ps=>match eH P t,pI (ps.toList.map (·.2))with
  |some (e,n,none),some l=>if ps.toList.map (·.1)=List.range len/\0<n/\len*n<=2^24/\(gX P e).isSome=true then .aQ e n l else .other
  |_,_=>.other
 |.load t x=>match aW x,eI P t,P.underlying t with
  |some y,some n,some _=>.load (sI P t) n y
  |_,_,_=>.other
 |.store t x y=>match aW x,aW y,eI P t with
  |some x,some y,some n=>.store n x y
  |_,_,_=>.other
 |.fieldAddr t x f=>match aW x,HE P t f with
  |some y,some o=>.fa o y
  |_,_=>.other
 |.indexAddr t x i=>match aW x,aW i,eH P t with
  |some x,some i,some (_,n,a)=>.ia n a x i
  |_,_,_=>.other
 |.extract x i=>match aW x with
  |some y=>.ext y i
  |none=>.other
 |.makeFunc (.func f) fs cs=>match pI fs.toList,pI cs.toList with
  |some a,some b=>.yC f a b
  |_,_=>.other
 |.nilCheck x=>match aW x with
  |some y=>.vO y
  |none=>.other
 |.convert src dst x=>match aW x,P.underlying src,P.underlying dst with
  |some y,some _,some (.int k)=>.conv k y
  |_,_,_=>.other
 |.slice t x lo hi none=>match aW x,eH P t,tP lo,tP hi with
  |some x,some (_,n,none),some lo,some hi=>.J5 n none x lo hi none
  |_,_,_,_=>.other
 |.field t x f=>match aW x,P.underlying t with
  |some y,some (.struct fs)=>match fs[f]? with
   |some fl=>match eI P fl.type,P.underlying fl.type with
    |some n,some _=>.NC (sI P fl.type) fl.offset n y
    |_,_=>.other
   |none=>.other
  |_,_=>.other
 |.makeSlice t l c=>match eH P t,aW l,aW c with
  |some (e,n,none),some l,some c=>match rW P e,P.info? e with
   |some z,some i=>if 0<n/\z.cells.length=n then .UD e n i.bytes z l c else .other
   |_,_=>.other
  |_,_,_=>.other
 |.call c=>match c.callee with
  |.builtin .len=>match c.args.toList,c.argTypes.toList with
   |[x],[t]=>match aW x,eH P t with
    |some y,some (_,_,a)=>.len a y
    |_,_=>.other
   |_,_=>.other
  |.builtin .append=>match c.args.toList,c.argTypes.toList with
   |[x,y],[t,u]=>match aW x,aW y,eH P t with
    |some x,some y,some (e,n,none)=>match rW P e,P.info? e with
     |some z,some i=>if t=u/\0<n/\z.cells.length=n then .app e n i.bytes x y else .other
     |_,_=>.other
    |_,_,_=>.other
   |_,_=>.other
  |.builtin .min=>match pI c.args.toList with
   |some [x,y]=>.jB false x y
   |_=>.other
  |.builtin .max=>match pI c.args.toList with
   |some [x,y]=>.jB true x y
   |_=>.other
  |.value f=>match aW f,pI c.args.toList with
   |some g,some l=>.call g l
   |_,_=>.other
  |_=>.other
 |_=>.other
section
variable {G:World->Prop}{P:Program}{N:Nat}{w0:World}{m0:Env w0}{pl:List Nat}{σ:AS}{ρ:Site->Loc}{m:Mem}{act:Act}{w:World}{o:Oper}{d:Nat}{K:AV->AS->Prop}
def _root_.Go.Op.vQ:Op->Bool
 |.store _ _ _=>false
 |.call _=>false
 |.mapUpdate _ _ _ _=>false
 |.insert _ _ _ _=>false
 |.entryStore _ _ _ _=>false
 |_=>true
def F5 (E:Prop)(P:Program)(N:Nat)(w0:World)(m0:Env w0)(pl:List Nat)(o:Oper)(act:Act)(w:World)(K:AV->AS->Prop):Prop:=
 ∃v w' a KS bW m',((execOp act.eval o).run P w=.ok (.value v) w'\/((execOp act.eval o).run P w=.ok .skip w'/\v=undef))/\K a KS/\Sat N w0 m0 pl KS bW m' act w'/\bN bW m' v a/\(E->Ext w w')
def oC (P:Program)(N:Nat)(w0:World)(m0:Env w0)(pl:List Nat)(o:Oper)(act:Act)(w:World)(K:AV->AS->Prop):Prop:=F5 (o.op.vQ=true) P N w0 m0 pl o act w K
def fW (σ:AS)(ρ:Site->Loc)(m:Mem)(w w':World):Prop:=Le m w'.mem/\∀s b,σ.b s=some b->(ρ s).real=true->w'.heap[(ρ s).b]?=w.heap[(ρ s).b]?
def dB (G:World->Prop)(P:Program)(σ:AS)(ρ:Site->Loc)(m:Mem)(o:Oper)(act:Act)(w:World)(K:AV->AS->Prop):Prop:=
 ∃v a,(∀w',G w'->(execOp act.eval o).run P w'=.ok (.value v) w')/\bN ρ m v a/\K a σ
theorem dB.pure (_:Sat N w0 m0 pl σ ρ m act w){v:Value}{a:AV}(hr:∀w',G w'->(execOp act.eval o).run P w'=.ok (.value v) w')(hv:bN ρ m v a)(hK:K a σ):dB G P σ ρ m o act w K:=
 ⟨v,a,hr,hv,hK⟩
theorem fW.refl (h:Sat N w0 m0 pl σ ρ m act w):fW σ ρ m w w:=⟨h.mem,fun _ _ _ _=>rfl⟩
theorem fW.at' {w':World}(h:fW σ ρ m w w'){s:Site}{b:aL}(hs:σ.b s=some b)(hr:(ρ s).real=true){o:Nat}{ds:List Value}(k:At w.mem (ρ s).b o ds):At w'.mem (ρ s).b o ds:=
 At.j3 (fun j u hj=>(World.cell?_of_block (a:=⟨(ρ s).b,o+j,none⟩) (h.2 s b hs hr)).trans (k.get j u hj))
theorem dB.res (h:dB G P σ ρ m o act w K)(hG:G w)(hS:Sat N w0 m0 pl σ ρ m act w):oC P N w0 m0 pl o act w K:=
 let ⟨v,a,h1,h2,h3⟩:=h;⟨v,w,a,σ,ρ,m,.inl (h1 w hG),h3,hS,h2,fun _=>Ext.tH _⟩
theorem KL:∀{l:List Operand} {ys:List bD},pI l=some ys->l.length=ys.length/\∀(j:Nat) (x:Operand),l[j]?=some x->∃y:bD,ys[j]?=some y/\aW x=some y
 |[],ys,h=>by simp[pI]at h;subst h;exact⟨rfl,fun j x k=>by simp at k⟩
 |a::r,ys,h=>by
  unfold pI at h;split at h
  .rename_i y l h1 h2;cases h;obtain⟨k1,k2⟩:=KL h2;refine⟨by simp[k1],fun j x k=>?_⟩;cases j with
   |zero=>simp at k;subst k;exact⟨y,rfl,h1⟩
   |succ j=>simpa using k2 j x (by simpa using k)
  .cases h
theorem bN.V8 {v:Value}{k:IntKind}{n:Int}(h:bN ρ m v (.pv (.int k n))):v=.int k n:=by
 cases h with
 |pv _ _ h=>cases h;rfl
theorem bN.NR {v:Value}{b:Bool}(h:bN ρ m v (.pv (.bool b))):v=.bool b:=by
 cases h with
 |pv _ _ h=>cases h;rfl
theorem bN.nJ {v:Value}{x:PV}(h:bN ρ m v (.pv x)):dG m v x:=by cases h with|pv _ _ h=>exact h
theorem bN.DX {v:Value}{s:Site}{off:Nat}(h:bN ρ m v (.ptr s off)):v=.pointer (some ⟨(ρ s).b,off,none⟩):=by cases h;rfl
theorem bN.Et {v:Value}{s:Site}{n i off:Nat}(h:bN ρ m v (.lB s n i off)):v=.pointer (some ⟨(ρ s).b,(ρ s).o+i*n+off,none⟩):=by cases h;rfl
theorem bN.Ev {v:Value}{cs:List PV}(h:bN ρ m v (.pv (.ref cs))):∃b o ds,v=.pointer (some ⟨b,o,none⟩)/\At m b o ds/\ds.length=cs.length/\(∀d∈ds,d.oneCell'=true)/\∀(j:Nat) (d:Value) (c:PV),ds[j]?=some d->cs[j]?=some c->dG m d c:=by
 cases h with
 |pv _ _ h=>cases h with
  |ref b o _ ds h0 h1 h2 h3=>exact⟨b,o,ds,rfl,h0,h1,h2,h3⟩
theorem bN.Zxw {v:Value}{vs:List AV}(h:bN ρ m v (.bM vs)):∃us,v=.tuple us/\us.size=vs.length/\∀(j:Nat) (d:Value) (c:AV),us[j]?=some d->vs[j]?=some c->bN ρ m d c:=by
 cases h with
 |bM us _ h0 h2=>exact⟨us,rfl,h0,h2⟩
theorem bN.Zw0 {v:Value}{vs:List PV}(h:bN ρ m v (.pv (.bM vs))):∃us,v=.tuple us/\us.size=vs.length/\∀(j:Nat) (d:Value) (c:PV),us[j]?=some d->vs[j]?=some c->dG m d c:=by
 cases h with
 |pv _ _ h=>cases h with
  |bM us _ h0 h2=>exact⟨us,rfl,h0,h2⟩
theorem Mk {x:Operand}{y:bD}(he:aW x=some y)(ho:o.op=.move x\/o.op=.assign x)(h:bY (.dV y) d K σ)(hS:Sat N w0 m0 pl σ ρ m act w):dB G P σ ρ m o act w K:=by
 refine .pure hS (v:=act.eval x) ?_ (hS.aW he) h;rcases ho with ho|ho<;>· (intro w' bQ;unfold execOp;simp only[ho];rfl)
theorem Zkh {c a b:Operand}{c' a' b':bD}(hc:aW c=some c')(ha:aW a=some a')(hb:aW b=some b')(ho:o.op=.pick c a b)(h:bY (.pick c' a' b') d K σ)(hS:Sat N w0 m0 pl σ ρ m act w):dB G P σ ρ m o act w K:=by
 simp only[bY]at h;split at h
 .rename_i t ht;have h1:=(hS.aW hc);rw[ht]at h1;have e:=h1.NR;refine .pure hS (v:=if t=true then act.eval a else act.eval b) ?_ ?_ h
  .intro w' bQ;unfold execOp;simp only[ho,e];simp[asBool]
  .cases t
   .exact hS.aW hb
   .exact hS.aW ha
 .exact h.elim
theorem Mj {bt:Bool}{op:BinOp}{t u:TypeId}{x y:Operand}{x' y':bD}(hx:aW x=some x')(hy:aW y=some y')(ho:o.op=.binOp op t x y u)(h:bY (.bin bt op x' y') d K σ)(hS:Sat N w0 m0 pl σ ρ m act w)
  (Ci:bt=true->P.underlying t=some .bool):dB G P σ ρ m o act w K:=by
 simp only[bY]at h;have h1:=hS.aW hx;have h2:=hS.aW hy;split at h
 .rename_i k a k' b e1 e2;rw[e1]at h1;rw[e2]at h2;split at h
  .rename_i r hr;obtain⟨v,k1,k2⟩:=ZqY (P:=P) hr t x y;refine .pure hS (v:=v) ?_ (.pv _ _ (k2 m)) h;intro w' bQ;unfold execOp;simp only[ho,h1.V8,h2.V8];simp only[Sem.run_bind]at k1 ⊢;rw[k1];rfl
  .exact h.elim
 .rename_i a b e1 e2;rw[e1]at h1;rw[e2]at h2;obtain⟨hbt,h⟩:=h;split at h
  .rename_i r hr;obtain⟨v,k1,k2⟩:=ZqZ (P:=P) hr t x y (Ci hbt);refine .pure hS (v:=v) ?_ (.pv _ _ (k2 m)) h;intro w' bQ;unfold execOp;simp only[ho,h1.NR,h2.NR];simp only[Sem.run_bind]at k1 ⊢;rw[k1];rfl
  .exact h.elim
 .exact h.elim
def LM (P:Program)(t:TypeId):QK->Prop
 |.sl=>∃e,P.underlying t=some (.slice e)
 |.pt=>∃e,P.underlying t=some (.pointer e)
 |.mp=>∃k e,P.underlying t=some (.map k e)
def FP:QK->Value
 |.sl=>.slice none 0 0
 |.pt=>.pointer none
 |.mp=>.map none
theorem Zs8 {P:Program}{t:TypeId}{k:QK}(ht:LM P t k){v:Value}{a:AV}(hv:bN ρ m v a)(ha:(∃b,dH k a=some b)\/x3 k a):∃b,(∀w:World,(Op.equal t v (FP k)).run P w=.ok b w)/\(∀b',dH k a=some b'->b'=b):=by
 cases k with
 |sl=>
  obtain⟨e,he⟩:=ht;have hs:∃A l c,v=.slice A l c:=by
   cases hv with
   |pv v x h=>cases h<;>first|exact⟨_,_,_,rfl⟩|(simp[dH,x3]at ha)
   |vec=>exact⟨_,_,_,rfl⟩
   |nE=>exact⟨_,_,_,rfl⟩
   |_=>simp[dH,x3]at ha
  obtain⟨A,l,c,rfl⟩:=hs;refine⟨A.isNone,fun w=>run_equal_slice_nil w t e A l c he,fun b' hb=>?_⟩;clear ha;cases hv with
  |pv _ x h=>cases h with
   |emp _ nl h0 h1 h2=>
    simp only[dH]at hb;subst hb;cases b' with
    |true=>rw[h0 rfl];rfl
    |false=>cases A with
     |none=>exact absurd rfl (h1 rfl)
     |some A=>rfl
   |aE _ cap nn n xs ds h0 h1 h2 h3 h4 h5 h6 h7=>
    simp only[dH]at hb;split at hb
    .rename_i hn;cases hb;cases A with
     |none=>exact absurd rfl (h4 hn)
     |some A=>rfl
    .split at hb
     .cases hb
     .cases hb;obtain⟨b,o,e1,_⟩:=h5 0 _ rfl;subst e1;rfl
   |P6=>simp[dH]at hb
  |vec s n lo len cap h0 h1 h2=>
   simp only[dH]at hb;split at hb
   .cases hb
   .cases hb;rfl
  |nE s n lo a h=>
   simp[dH]at hb
  |_=>simp[dH]at hb
 |pt=>
  obtain⟨e,he⟩:=ht;have hp:P.underlying t=some (.pointer (P.pointee t)):=by simp[Program.pointee,he]
  have hs:∃A,v=.pointer A:=by
   cases hv with
   |pv v x h=>cases h<;>first|exact⟨_,rfl⟩|(simp[dH,x3]at ha)
   |ptr=>exact⟨_,rfl⟩
   |lB=>exact⟨_,rfl⟩
   |_=>simp[dH,x3]at ha
  obtain⟨A,rfl⟩:=hs;refine⟨A.isNone,fun w=>run_equal_pointer_nil w t A hp,fun b' hb=>?_⟩;clear ha;cases hv with
  |pv _ x h=>cases h<;>simp[dH]at hb<;>subst hb<;>rfl
  |ptr=>simp[dH]at hb;subst hb;rfl
  |lB=>simp[dH]at hb;subst hb;rfl
  |_=>simp[dH]at hb
 |mp=>
  obtain⟨k,e,he⟩:=ht;have hs:∃A,v=.map A:=by
   cases hv with
   |pv v x h=>cases h<;>first|exact⟨_,rfl⟩|(simp[dH,x3]at ha)
   |mp=>exact⟨_,rfl⟩
   |_=>simp[dH,x3]at ha
  obtain⟨A,rfl⟩:=hs;refine⟨A.isNone,fun w=>run_equal_map_nil w t k e A he,fun b' hb=>?_⟩;clear ha;cases hv with
  |pv _ x h=>cases h<;>simp[dH]at hb<;>subst hb<;>rfl
  |mp=>simp[dH]at hb;subst hb;rfl
  |_=>simp[dH]at hb
theorem XK {k:QK}{op:BinOp}{t u:TypeId}{x y:Operand}{x':bD}(hx:aW x=some x')(hy:act.eval y=FP k)(ht:LM P t k)(ho:o.op=.binOp op t x y u)(h:bY (vP k op x') d K σ)(hS:Sat N w0 m0 pl σ ρ m act w):dB G P σ ρ m o act w K:=by
 have h1:=hS.aW hx;have hg:∀w,(eqGuard op t x y (act.eval x) (FP k)).run P w=.ok () w:=by
  intro w;unfold eqGuard;cases k<;>cases op<;>cases act.eval x<;>rfl
 have main:∀neg,bY (.yB k neg x') d K σ->(op=.eql/\neg=false\/op=.neq/\neg=true)->dB G P σ ρ m o act w K:=fun neg h hop=>by
  simp only[bY]at h;obtain⟨b,sS,pN⟩:=Zs8 (P:=P) (k:=k) ht h1 (by
   split at h
   .rename_i b hb;exact .inl ⟨b,hb⟩
   .exact .inr h.1)
  have hK:K (.pv (.bool (b != neg))) σ:=by
   split at h
   .rename_i b' hb;rw[<-pN b' hb];exact h
   .cases b<;>cases neg<;>first|exact h.2.1|exact h.2.2
  refine .pure hS (v:=.bool (b != neg)) ?_ (.pv _ _ (.bool _)) hK;intro w' bQ;unfold execOp;simp only[ho,hy];rcases hop with⟨rfl,rfl⟩|⟨rfl,rfl⟩
  .cases k<;>simp[binOp,FP]<;>simp_all [FP]
  .cases k<;>simp[hg,binOp,sS,FP]<;>simp_all [FP,binOp]
 unfold vP at h;split at h
 .exact main false h (.inl ⟨rfl,rfl⟩)
 .exact main true h (.inr ⟨rfl,rfl⟩)
 .exact h.elim
theorem ZmH {t:TypeId}{x:Operand}{x':bD}(hx:aW x=some x')(ho:o.op=.unOp .not t x)(h:bY (.not x') d K σ)(hS:Sat N w0 m0 pl σ ρ m act w):dB G P σ ρ m o act w K:=by
 simp only[bY]at h;split at h
 .rename_i a e;have h1:=hS.aW hx;rw[e]at h1;refine .pure hS (v:=.bool (!a)) ?_ (.pv _ _ (.bool _)) h;intro w' bQ;unfold execOp;simp only[ho,h1.NR];rfl
 .exact h.elim
theorem ZmI {t:TypeId}{x:Operand}{x':bD}(hx:aW x=some x')(ho:o.op=.unOp .neg t x)(h:bY (.neg x') d K σ)(hS:Sat N w0 m0 pl σ ρ m act w):dB G P σ ρ m o act w K:=by
 simp only[bY]at h;split at h
 .rename_i k a e;have h1:=hS.aW hx;rw[e]at h1;refine .pure hS (v:=.int k (k.wrap (0-a))) ?_ (.pv _ _ (.int _ _)) h;intro w' bQ;unfold execOp;simp only[ho,h1.V8];rfl
 .exact h.elim
theorem Zkk {src dst:TypeId}{e:TypeDesc}{k:IntKind}{x:Operand}{x':bD}(hx:aW x=some x')(hs:P.underlying src=some e)(hd:P.underlying dst=some (.int k))(ho:o.op=.convert src dst x)(h:bY (.conv k x') d K σ)(hS:Sat N w0 m0 pl σ ρ m act w):dB G P σ ρ m o act w K:=by
 simp only[bY]at h;split at h
 .rename_i k' a e';have h1:=hS.aW hx;rw[e']at h1;refine .pure hS (v:=.int k (k.wrap a)) ?_ (.pv _ _ (.int _ _)) h;intro w' bQ;unfold execOp;simp only[ho,h1.V8];simp[convert,run_underlying hs,run_underlying hd,Conv.intToInt]
 .exact h.elim
theorem ZmM {x:Operand}{i:Nat}{x':bD}(hx:aW x=some x')(ho:o.op=.extract x i)(h:bY (.ext x' i) d K σ)(hS:Sat N w0 m0 pl σ ρ m act w):dB G P σ ρ m o act w K:=by
 simp only[bY]at h;have h1:=hS.aW hx;have key:∀(vs:Array Value) (a:AV),act.eval x=.tuple vs->(∃v,vs[i]?=some v/\bN ρ m v a)->K a σ->dB G P σ ρ m o act w K:=by
  intro vs a e ⟨v,k1,k2⟩ hK;refine .pure hS (v:=v) ?_ k2 hK;intro w' bQ;unfold execOp;simp only[ho,e];simp[Instr.extract,k1]
 split at h
 .rename_i vs e;rw[e]at h1;obtain⟨us,hX,h0,h2⟩:=h1.Zw0;split at h
  .rename_i v hv;have aI:i<us.size:=by rw[h0];exact(bZ.1 hv).1
   exact key us (.pv v) hX ⟨us[i],uT aI,.pv _ _ (h2 i _ _ (uT aI) hv)⟩ h
  .exact h.elim
 .rename_i vs e;rw[e]at h1;obtain⟨us,hX,h0,h2⟩:=h1.Zxw;split at h
  .rename_i v hv;have aI:i<us.size:=by rw[h0];exact(bZ.1 hv).1
   exact key us v hX ⟨us[i],uT aI,h2 i _ _ (uT aI) hv⟩ h
  .exact h.elim
 .exact h.elim
theorem Zki {x:Operand}{x':bD}(hx:aW x=some x')(ho:o.op=.nilCheck x)(h:bY (.vO x') d K σ)(hS:Sat N w0 m0 pl σ ρ m act w):dB G P σ ρ m o act w K:=by
 simp only[bY]at h;have h1:=hS.aW hx;have key:∀(A:Addr) (a:AV),act.eval x=.pointer (some A)->bN ρ m (act.eval x) a->K a σ->dB G P σ ρ m o act w K:=by
  intro A a e k2 hK;refine .pure hS (v:=act.eval x) ?_ k2 hK;intro w' bQ;unfold execOp;simp only[ho,e];rfl
 split at h
 .rename_i cs e;rw[e]at h1;obtain⟨b,o,ds,hX,_⟩:=h1.Ev;exact key _ _ hX h1 h
 .rename_i s off e;rw[e]at h1;exact key _ _ h1.DX h1 h
 .rename_i s n i off e;rw[e]at h1;exact key _ _ h1.Et h1 h
 .exact h.elim
theorem Nt {mx:Bool}{c:Call}{x y:Operand}{x' y':bD}(hx:aW x=some x')(hy:aW y=some y')(hc:c.callee=.builtin (if mx=true then .max else .min))(ha:c.args.toList=[x,y])(ho:o.op=.call c)(h:bY (.jB mx x' y') d K σ)(hS:Sat N w0 m0 pl σ ρ m act w):dB G P σ ρ m o act w K:=by
 simp only[bY]at h;have h1:=hS.aW hx;have h2:=hS.aW hy;have fY:c.args=#[x,y]:=yU.1 (by simpa using ha);split at h
 .rename_i k a k' b e1 e2;rw[e1]at h1;rw[e2]at h2;refine .pure hS (v:=.int k (if mx=true then(if b>a then b else a)else(if b<a then b else a))) ?_ (.pv _ _ (.int _ _)) h;intro w' bQ;unfold execOp;simp only[ho];cases mx
  .simp[resolve,hc,fY,invoke,builtin,Builtin.min_,h1.V8,h2.V8,Builtin.min2]
  .simp[resolve,hc,fY,invoke,builtin,Builtin.max_,h1.V8,h2.V8,Builtin.max2]
 .exact h.elim
end
section
variable {G:World->Prop}{P:Program}{N:Nat}{w0:World}{m0:Env w0}{pl:List Nat}{σ:AS}{ρ:Site->Loc}{m:Mem}{act:Act}{w:World}{o:Oper}{d:Nat}{K:AV->AS->Prop}
theorem OC {v:Value}{a:AV}(h:bN ρ m v a)(hw:a.wide=true\/a.one=true):v.cells.size=a.cells.length/\(∀u∈v.cells,u.oneCell'=true)/\∀(j:Nat) (d:Value) (c:AV),v.cells[j]?=some d->a.cells[j]?=some c->bN ρ m d c:=by
 have cZ:a≠.any:=fun e=>by subst e;rcases hw with h|h<;>cases h
 obtain⟨h1,h2⟩:=h.Zxr cZ;refine⟨h1,fun u hu=>?_,fun j d c k1 k2=>(h2 j d c k1 k2).1⟩;obtain⟨j,hj,rfl⟩:=Array.mem_iff_getElem.1 hu;have Z8:j<a.cells.length:=by omega
 obtain⟨k1,k2⟩:=h2 j _ _ (uT hj) (aX Z8);rcases hw with hw|hw
 .exact k2 hw
 .refine k1.one ?_
  have:a.cells=[a]:=by
   cases a with
   |agg cs=>cases hw
   |pv x=>cases x<;>first|rfl|cases hw
   |_=>rfl
  have Ju:j=0:=by rw[this]at Z8;simp at Z8;exact Z8
  subst Ju;simp only[this,List.getElem_cons_zero];exact hw
theorem oC.Zw2 (h:Sat N w0 m0 pl σ ρ m act w){cs:Array Value}{T:TypeId}{bU:List AV}(h0:cs.size=bU.length)(h1:∀u∈cs,u.oneCell'=true)(h2:∀(j:Nat) (d:Value) (c:AV),cs[j]?=some d->bU[j]?=some c->bN ρ m d c)
  (hn:qT d σ) (has:AV.qR d bU=false) (hr:(execOp act.eval o).run P w=.ok (.value (.pointer (some ⟨w.heap.size,0,none⟩))) (w.alloc (.cells cs T))) (hK:K (.ptr (.loc d 0) 0) (σ.add (.loc d 0) (.cells bU))):oC P N w0 m0 pl o act w K:=by
 have hu:=R9 ρ (.loc d 0) ⟨w.heap.size,0,0,true⟩;refine⟨_,_,_,_,_,_,.inl hr,hK,h.new d 0 hn cs T 0 ?_,?_,fun _=>Ext.al _ _⟩
 .refine⟨by rw[hu],cs,T,by rw[hu];exact heap_alloc_new w _,h0,fun i c a k1 k2=>⟨h1 c (Array.mem_of_getElem? k1),?_⟩⟩;exact(h2 i c a k1 k2).mono (Le.refl m) (Mm ρ d 0 _) (AV.NS has k2)
 .have:=bN.ptr (ρ:=iN ρ (.loc d 0) ⟨w.heap.size,0,0,true⟩) (m:=m) (.loc d 0) 0
  rw[hu]at this;exact this
theorem Ys {d:Nat}:∀{l:List AV},(∀a∈l,a.has d=false)->AV.qR d l=false
 |[],_=>rfl
 |a::r,h=>by
  rw[AV.qR,h a (by simp),Ys (fun b hb=>h b (by simp[hb]))];rfl
theorem ZoB {d:Nat}{a:AV}(h:a.has d=false):AV.qR d a.cells=false:=by
 cases a with
 |agg cs=>exact h
 |pv x=>
  cases x with
  |agg cs=>exact Ys (fun a ha=>by obtain⟨c,_,rfl⟩:=iL.1 ha;rfl)
  |_=>rfl
 |_=>simp only[AV.cells,AV.qR,h,Bool.or_false]
theorem ZE {d:Nat}(hn:qT d σ)(x:bD):(σ.o x).has d=false:=by
 cases x with
 |t k=>
  show((σ.t k).getD .any).has d=false;cases ht:σ.t k with
  |none=>rfl
  |some a=>exact hn.t k a ht
 |c x=>rfl
theorem Zst {t n:Nat}{x:Operand}{x':bD}(hx:aW x=some x')(hs:eI P t=some n)(ho:o.op=.box t x)(h:bY (.box n x') d K σ)(hS:Sat N w0 m0 pl σ ρ m act w):oC P N w0 m0 pl o act w K:=by
 obtain⟨h1,h2,h3⟩:=h;have hP:=hS.bI d;obtain⟨k1,k2,k3⟩:=OC (hP.aW hx) h2;refine oC.Zw2 hP k1 k2 k3 (qT.bI d σ) (ZoB (ZE (qT.bI d σ) x')) ?_ h3 (T:=t);unfold execOp;simp only[ho,Sem.run_bind,YR,Result.andThen_ok];rfl
theorem ZmO {t:Nat}{z:PV}(hz:rW P t=some z)(ho:o.op=.alloc t)(h:bY (.alloc z) d K σ)(hS:Sat N w0 m0 pl σ ρ m act w):oC P N w0 m0 pl o act w K:=by
 unfold rW at hz;cases hv:gX P t with
 |none=>simp[hv]at hz
 |some v=>
  simp only[hv,Option.bind_some]at hz;obtain⟨k1,k2,k3⟩:=TF hz m;refine oC.Zw2 (hS.bI d) (cs:=v.cells) (T:=t) (bU:=z.cells.map .pv) (by simpa using k1) k2 (fun j dd c q1 q2=>?_) (qT.bI d σ) (Ys (fun a ha=>by obtain⟨c,_,rfl⟩:=iL.1 ha;rfl)) ?_ h
  .rw[bR]at q2;obtain⟨x,q3,rfl⟩:=eA.1 q2;exact .pv _ _ (k3 j dd x q1 q3)
  .unfold execOp;simp only[ho,Sem.run_bind,Znh hv,Result.andThen_ok];rfl
theorem Zrv {t f off:Nat}{x:Operand}{x':bD}(hx:aW x=some x')(hf:HE P t f=some off)(ho:o.op=.fieldAddr t x f)(h:bY (.fa off x') d K σ)(hS:Sat N w0 m0 pl σ ρ m act w):dB G P σ ρ m o act w K:=by
 simp only[bY]at h;have h1:=hS.aW hx;have key:∀(b q:Nat) (a:AV),act.eval x=.pointer (some ⟨b,q,none⟩)->bN ρ m (.pointer (some ⟨b,q+off,none⟩)) a->K a σ->dB G P σ ρ m o act w K:=by
  intro b q a e k2 hK;refine .pure hS ?_ k2 hK;intro w' bQ;unfold execOp;simp only[ho,e,Sem.run_bind,Qb hf,Result.andThen_ok];rfl
 split at h
 .rename_i cs e;rw[e]at h1;obtain⟨b,q,ds,hX,k1,k2,k3,k4⟩:=h1.Ev;refine key b q _ hX ?_ h.2;refine .pv _ _ (.ref b (q+off) (cs.drop off) (ds.drop off) (At.j3 (fun j u hj=>?_)) (by simp[k2]) (fun u hu=>k3 u (List.mem_of_mem_drop hu)) (fun j u c q1 q2=>?_))
  .rw[mW]at hj
   have:=k1.get _ u hj
   rwa [show q+off+j=q+(off+j) by omega]
  .rw[mW]at q1 q2;exact k4 _ u c q1 q2
 .rename_i s q e;rw[e]at h1;exact key _ q _ h1.DX (.ptr s (q+off)) h
 .rename_i s n i q e;rw[e]at h1;refine key _ _ _ h1.Et ?_ h
  have:=bN.lB (ρ:=ρ) (m:=m) s n i (q+off)
  rwa [show(ρ s).o+i*n+(q+off)=(ρ s).o+i*n+q+off by omega]at this
 .exact h.elim
theorem Hf {s:Site}{bU:List AV}(hb:kO ρ m w s (.cells bU)){off n:Nat}(hl:off+n<=bU.length):
  ∃ds:List Value,ds.length=n/\At w.mem (ρ s).b off ds/\(∀u∈ds,u.oneCell'=true)/\∀(j:Nat) (d:Value) (c:AV),ds[j]?=some d->((bU.drop off).take n)[j]?=some c->bN ρ m d c:=by
 obtain⟨h0,cs,T,h1,h2,h3⟩:=hb;refine⟨(cs.toList.drop off).take n,Ho (by omega),At.j3 (fun j u hj=>?_),fun u hu=>?_,fun j u c k1 k2=>?_⟩
 .rw[j7]at hj;split at hj
  .show w.cell? _=_;simp[World.cell?,h1,hj]
  .cases hj
 .obtain⟨j,hj⟩:=iM.1 hu;rw[j7]at hj;split at hj
  .rename_i rO;exact(h3 _ u _ hj (aX (by omega))).1
  .cases hj
 .rw[j7]at k1;rw[mG]at k2;split at k1
  .rename_i rO;rw[if_pos rO,mW]at k2;exact(h3 _ u c k1 k2).2
  .cases k1
theorem Zkj {t n:Nat}{dd:TypeDesc}{x:Operand}{x':bD}(hx:aW x=some x')(hs:eI P t=some n)(hu:P.underlying t=some dd)(ho:o.op=.load t x)(h:bY (.load (sI P t) n x') d K σ)(hS:Sat N w0 m0 pl σ ρ m act w):dB (fW σ ρ m w) P σ ρ m o act w K:=by
 simp only[bY]at h;have h1:=hS.aW hx;have row:∀(b q:Nat) (ds:List Value) (a:AV),sI P t=true->act.eval x=.pointer (some ⟨b,q,none⟩)->(∀w',fW σ ρ m w w'->At w'.mem b q ds)->ds.length=n->bN ρ m (.agg ds.toArray) a->K a σ->dB (fW σ ρ m w) P σ ρ m o act w K:=by
  intro b q ds a hr e k1 k2 k3 hK;refine .pure hS ?_ k3 hK;intro w' bQ;unfold execOp;simp only[ho,e,Sem.run_bind,Zne hu hr (k1 w' bQ) (by rw[hs,k2]),Result.andThen_ok];rfl
 have one:∀(b q:Nat) (v:Value) (a:AV),sI P t=false->act.eval x=.pointer (some ⟨b,q,none⟩)->(∀w',fW σ ρ m w w'->w'.cell? ⟨b,q,none⟩=some v)->bN ρ m v a->K a σ->dB (fW σ ρ m w) P σ ρ m o act w K:=by
  intro b q v a hr e k1 k3 hK;refine .pure hS ?_ k3 hK;intro w' bQ;unfold execOp;simp only[ho,e,Sem.run_bind,Znf hu hr (k1 w' bQ),Result.andThen_ok];rfl
 split at h
 .rename_i cs e;rw[e]at h1;obtain⟨b,q,ds,hX,k1,k2,k3,k4⟩:=h1.Ev;split at h
  .rename_i hr;obtain⟨hn,hK⟩:=h;refine row b q (ds.take n) _ hr hX (fun w' bQ=>At.j3 (fun j u hj=>?_)) (by rw[gI];omega) (.pv _ _ (.agg _ _ (by simp;omega) (fun u hu=>k3 u (List.mem_of_mem_take (by simpa using hu))) (fun j u c q1 q2=>?_))) hK
   .rw[mG]at hj;split at hj
    .exact bQ.1 _ _ _ (k1.get j u hj)
    .cases hj
   .have n8:(ds.take n)[j]?=some u:=by simpa using q1
    rw[mG]at n8 q2;split at n8
    .rename_i rO;rw[if_pos rO]at q2;exact k4 j u c n8 q2
    .cases n8
  .rename_i hr;split at h
   .rename_i c iK;cases ds with
    |nil=>simp at k2
    |cons v ds'=>exact one b q v _ (by simpa using hr) hX (fun w' bQ=>bQ.1 _ _ _ k1.1) (.pv _ _ (k4 0 v c rfl rfl)) h
   .exact h.elim
 .rename_i s off e;rw[e]at h1;split at h
  .rename_i bU hb;have hB:=hS.bx s _ hb;split at h
   .rename_i hr;obtain⟨hl,hK⟩:=h;obtain⟨ds,k1,k2,k3,k4⟩:=Hf hB hl;refine row _ off ds _ hr h1.DX (fun w' bQ=>bQ.at' hb hB.1 k2) k1 (Ha (by simp[k1,gI,uG];omega) (fun u hu=>k3 u (by simpa using hu)) (fun j u c q1 q2=>k4 j u c (by simpa using q1) q2)) hK
   .rename_i hr;split at h
    .rename_i a ha;have aI:=(bZ.1 ha).1;obtain⟨ds,k1,k2,k3,k4⟩:=Hf hB (off:=off) (n:=1) (by omega)
     match ds,k1 with
     |[v],_=>exact one _ off v _ (by simpa using hr) h1.DX (fun w' bQ=>(bQ.at' hb hB.1 k2).1) (k4 0 v a rfl (by rw[mG,if_pos (by omega),mW];exact ha)) h
    .exact h.elim
  .exact h.elim
 .rename_i s n' i off e;rw[e]at h1;split at h
  .rename_i ee eT xs hb;have hB:=hS.bx s _ hb;split at h
   .rename_i y hy;obtain⟨rfl,h⟩:=h;obtain⟨xF,hB|⟨EU,cs,g1,g2,g3,g4,g5⟩⟩:=hB
    .rw[hB.2.1]at hy;simp at hy
    obtain⟨g6,g7⟩:=g5 i y hy;have hX:=h1.Et;have Wc:∀j c,y.cells[j]?=some c->∃u,w.cell? ⟨(ρ s).b,(ρ s).o+i*n'+j,none⟩=some u/\u.oneCell'=true/\dG m u c:=fun j c hc=>by
     obtain⟨u,q1,q2,q3⟩:=g7 j c hc;exact⟨u,by simp[World.cell?,g1,q1],q2,q3⟩
    split at h
    .rename_i hr;obtain⟨hl,hK⟩:=h;have dE:(ρ s).o+i*n'+off+n<=cs.size:=by
      have:i*n'+n'<=(ρ s).cap*n':=W6 (by have:=(bZ.1 hy).1;omega)
      omega
     have hlen:=Ho dE;have Di:∀(j:Nat) (u:Value),((cs.toList.drop ((ρ s).o+i*n'+off)).take n)[j]?=some u->j<n/\∃c,y.cells[off+j]?=some c/\u.oneCell'=true/\dG m u c:=fun j u hj=>by
      rw[j7]at hj;split at hj
      .rename_i rO;have aI:off+j<y.cells.length:=by omega
       obtain⟨u',q1,q2,q3⟩:=g7 (off+j) _ (aX aI);rw[show(ρ s).o+i*n'+(off+j)=(ρ s).o+i*n'+off+j by omega,hj]at q1;cases q1;exact⟨rO,_,aX aI,q2,q3⟩
      .cases hj
     refine row _ _ ((cs.toList.drop ((ρ s).o+i*n'+off)).take n) _ hr hX (fun w' bQ=>bQ.at' hb EU (At.j3 (fun j u hj=>?_))) hlen (.pv _ _ (.agg _ _ (by simp only[yT];rw[hlen,gI,uG];omega) (fun u hu=>?_) (fun j u c q1 q2=>?_))) hK
     .rw[j7]at hj;split at hj
      .show w.cell? _=_;simp[World.cell?,g1,hj]
      .cases hj
     .obtain⟨j,hj⟩:=iM.1 (show u∈(cs.toList.drop ((ρ s).o+i*n'+off)).take n by simpa using hu);obtain⟨_,c,_,q2,_⟩:=Di j u hj;exact q2
     .obtain⟨rO,c',q3,_,q4⟩:=Di j u (by simpa using q1);rw[mG,if_pos rO,mW]at q2;rw[q2]at q3;cases q3;exact q4
    .rename_i hr;split at h
     .rename_i c hc;obtain⟨u,q1,_,q3⟩:=Wc off c hc;exact one _ _ u _ (by simpa using hr) hX (fun w' bQ=>(World.cell?_of_block (a:=⟨(ρ s).b,(ρ s).o+i*n'+off,none⟩) (bQ.2 s _ hb EU)).trans q1) (.pv _ _ q3) h
     .exact h.elim
   .exact h.elim
  .exact h.elim
 .exact h.elim
end
section
variable {P:Program}{N:Nat}{w0:World}{m0:Env w0}{pl:List Nat}{σ:AS}{ρ:Site->Loc}{m:Mem}{act:Act}{w:World}{o:Oper}{d:Nat}{K:AV->AS->Prop}
theorem cV.setRow (w:World)(b:Nat)(cs:Array Value):cV [b] w (w.setRow b cs):=by
 refine⟨rfl,rfl,rfl,by simp[World.setRow],fun k _ hn=>?_⟩;exact setRow_other w b k cs (by simpa using hn)
theorem A0 {α:Type}{l c:List α}{off:Nat}(h:off+c.length<=l.length)(i:Nat):(aR l off c)[i]?=if i<off then l[i]? else if i<off+c.length then c[i-off]? else l[i]?:=by
 unfold aR;rw[yS,yS];simp only[gE,gI];rw[show min off l.length=off by omega];by_cases h1:i<off
 .have h3:i<off+c.length:=by omega
  simp only[h1,h3,if_true,mG]
 .by_cases h2:i<off+c.length
  .simp only[h1,h2,if_true,if_false]
  .simp only[h1,h2,if_false,mW];congr 1;omega
theorem W3 {α:Type}{l c:List α}{off:Nat}(h:off+c.length<=l.length):(aR l off c).length=l.length:=by
 unfold aR
 simp;omega
theorem ZmF {t n:Nat}{x y:Operand}{x' y':bD}(hx:aW x=some x')(hy:aW y=some y')(hs:eI P t=some n)(ho:o.op=.store t x y)(h:bY (.store n x' y') d K σ)(hS:Sat N w0 m0 pl σ ρ m act w):oC P N w0 m0 pl o act w K:=by
 simp only[bY]at h;have h1:=hS.aW hx;have h2:=hS.aW hy;have run:∀(b q:Nat) (cur:Array Value) (T:TypeId),act.eval x=.pointer (some ⟨b,q,none⟩)->w.heap[b]?=some (.cells cur T (0,0))->(act.eval y).cells.size=n->q+n<=cur.size->(∀u∈(act.eval y).cells,u.oneCell'=true)->
   (execOp act.eval o).run P w=.ok .skip (w.setRow b (aR cur.toList q (act.eval y).cells.toList).toArray):=by
  intro b q cur T e hh hn hl h1;unfold execOp;simp only[ho,e,Sem.run_bind];rw[ZsV (by rw[hs,hn]) hh (by rw[hn];exact hl) h1];simp only[Result.andThen_ok,Sem.run_pure,aR,uV]
 split at h
 .rename_i s off e;rw[e]at h1;split at h
  .rename_i bU hb;obtain⟨c1,c2,c3,hK⟩:=h;obtain⟨k1,k2,k3⟩:=OC h2 c2;obtain⟨hr,cs,T,g1,g2,g3⟩:=hS.bx s _ hb;have hq:off+(act.eval y).cells.toList.length<=cs.toList.length:=by rw[uV,uV];omega
   refine⟨undef,_,.any,_,ρ,m,.inr ⟨run _ off cs T h1.DX g1 (by omega) (by omega) k2,rfl⟩,hK,?_,.any _,fun hm=>by rw[ho]at hm;cases hm⟩;refine hS.Ey hb hr (cV.setRow w _ _) ⟨hr,_,T,setRow_heap w _ cs _ T _ g1,?_,fun i c a q1 q2=>?_⟩
   .rw[yT,W3 hq,W3 (by omega)];simpa using g2
   .have n8:(aR cs.toList off (act.eval y).cells.toList)[i]?=some c:=by simpa using q1
    rw[A0 hq]at n8;rw[A0 (by omega)]at q2;rw[show(act.eval y).cells.toList.length=(σ.o y').cells.length by simp[k1]]at n8;split at n8
    .rename_i hi;rw[if_pos hi]at q2;exact g3 i c a (by simpa using n8) q2
    .rename_i hi;rw[if_neg hi]at q2;split at n8
     .rename_i N5;rw[if_pos N5]at q2;have q3:(act.eval y).cells[i-off]?=some c:=by simpa using n8
      exact⟨k2 c (Array.mem_of_getElem? q3),k3 _ c a q3 q2⟩
     .rename_i N5;rw[if_neg N5]at q2;exact g3 i c a (by simpa using n8) q2
  .exact h.elim
 .rename_i s n' i off e;rw[e]at h1;obtain⟨m2,mK,mZ⟩:=Sat.wX (σ.o y') hS;replace h2:=mZ.aW hy;generalize σ.wX (σ.o y')=σ2 at h h2 mZ;split at h
  .rename_i ee eT xs p hb Q1;split at h
   .rename_i z hz;obtain⟨rfl,c0,c1,c2,c3,hK⟩:=h;rw[Q1]at h2;obtain⟨k1,k2,k3⟩:=OC h2 c2;have mJ:(AV.pv p).cells.length=p.cells.length:=by cases p<;>simp[AV.cells,PV.cells]
    have hpg:∀j:Nat,(AV.pv p).cells[j]?=(p.cells[j]?).map AV.pv:=fun j=>by
     cases p<;>simp only[AV.cells,PV.cells,bR]<;>cases j<;>rfl
    obtain⟨xF,hB|⟨hr,cs,g1,g2,g3,g4,g5⟩⟩:=mZ.bx s _ hb
    .rw[hB.2.1]at hz;simp at hz
    obtain⟨g6,g7⟩:=g5 i z hz;have Ud:i<xs.length:=(bZ.1 hz).1;have gA:i*n'+n'<=(ρ s).cap*n':=W6 (by omega);have dE:(ρ s).o+i*n'+off+n<=cs.size:=by omega
    have hX:=h1.Et;have P9:(act.eval y).cells.size=n:=by omega
    have hvl:(act.eval y).cells.toList.length=n:=by rw[uV];exact P9
    have HQ:(ρ s).o+i*n'+off+(act.eval y).cells.toList.length<=cs.toList.length:=by rw[hvl,uV];exact dE
    refine⟨undef,_,.any,_,ρ,m2,.inr ⟨run _ ((ρ s).o+i*n'+off) cs ee hX g1 P9 dE k2,rfl⟩,hK,?_,.any _,fun hm=>by rw[ho]at hm;cases hm⟩;have jN:(setAt z off p).cells=aR z.cells off p.cells:=by
     unfold setAt;split
     .rfl
     .rename_i cZ;have X9:z.cells=[z]:=by cases z<;>first|rfl|(exact(cZ _ rfl).elim)
      rw[X9]at c3 ⊢;simp only[List.length_singleton]at c3;have EV:n=1/\off=0\/n=0:=by omega
      rcases EV with⟨e1,e2⟩|e0
      .subst e2;simp[aR,c1,e1]
      .omega
    refine mZ.Ey hb hr (cV.setRow w _ _) ⟨xF,.inr ⟨hr,_,setRow_heap w _ cs _ ee _ g1,?_,by rw[List.length_set];exact g3,g4,fun k x hk=>?_⟩⟩
    .rw[yT,W3 HQ];simpa using g2
    .have IW:∀q u,((aR cs.toList ((ρ s).o+i*n'+off) (act.eval y).cells.toList).toArray)[q]?=some u↔(if q<(ρ s).o+i*n'+off then cs[q]? else if q<(ρ s).o+i*n'+off+n then(act.eval y).cells[q-((ρ s).o+i*n'+off)]? else cs[q]?)=some u:=fun q u=>by
      rw[I1,A0 HQ,hvl];simp only[O7]
     rcases Nat.decEq k i with cZ|rfl
     .rw[List.getElem?_set_ne (fun e=>cZ e.symm)]at hk;obtain⟨q1,q2⟩:=g5 k x hk;refine⟨q1,fun j c hj=>?_⟩;obtain⟨u,r1,r2,r3⟩:=q2 j c hj;have rO:j<n':=by have:=(bZ.1 hj).1;omega
      refine⟨u,(IW _ u).2 ?_,r2,r3⟩;rcases Nat.lt_or_gt_of_ne cZ with y7|y7
      .have:=W6 (n:=n') y7
       rw[if_pos (by omega)];exact r1
      .have:=W6 (n:=n') y7
       rw[if_neg (by omega),if_neg (by omega)];exact r1
     .rw[O6 Ud]at hk;cases hk;refine⟨by rw[jN,W3 (by omega)];exact g6,fun j c hj=>?_⟩;rw[jN,A0 (by omega)]at hj;split at hj
      .rename_i hjo;obtain⟨u,r1,r2,r3⟩:=g7 j c hj;exact⟨u,(IW _ u).2 (by rw[if_pos (by omega)];exact r1),r2,r3⟩
      .rename_i hjo;split at hj
       .rename_i Tw;have xH:j-off<(act.eval y).cells.size:=by omega
        refine⟨(act.eval y).cells[j-off],(IW _ _).2 ?_,k2 _ (Array.getElem_mem xH),?_⟩
        .rw[if_neg (by omega),if_pos (by omega),show(ρ s).o+k*n'+j-((ρ s).o+k*n'+off)=j-off by omega];exact uT xH
        .have:=k3 (j-off) _ (.pv c) (uT xH) (by rw[hpg,hj];rfl)
         exact this.nJ
       .rename_i Tw;obtain⟨u,r1,r2,r3⟩:=g7 j c hj;have rO:j<n':=by have:=(bZ.1 hj).1;omega
        exact⟨u,(IW _ u).2 (by rw[if_neg (by omega),if_neg (by omega)];exact r1),r2,r3⟩
   .exact h.elim
  .exact h.elim
 .exact h.elim
end
section
variable {G:World->Prop}{P:Program}{N:Nat}{w0:World}{m0:Env w0}{pl:List Nat}{σ:AS}{ρ:Site->Loc}{m:Mem}{act:Act}{w:World}{o:Oper}{d:Nat}{K:AV->AS->Prop}
theorem bN.Ky {v:Value}{nn:Bool}{n:Nat}{xs:List PV}(h:bN ρ m v (.pv (.aE nn n xs))):∃(a:Option Addr) (cap:Nat) (ds:Nat->List Value),v=.slice a xs.length cap/\xs.length<=cap/\cap<=9223372036854775807/\(a=none->cap=0)/\(∀A,a=some A->JT A)/\
  (∀(i:Nat) (x:PV),xs[i]?=some x->∃b o,a=some ⟨b,o,none⟩/\At m b (o+i*n) (ds i))/\(∀(i:Nat) (x:PV),xs[i]?=some x->(ds i).length=n/\x.cells.length=n/\∀d∈ds i,d.oneCell'=true)/\
  (∀(i:Nat) (x:PV) (j:Nat) (d:Value) (c:PV),xs[i]?=some x->(ds i)[j]?=some d->x.cells[j]?=some c->dG m d c):=by
 cases h.nJ with
 |aE a cap _ _ _ ds h0 h1 h2 h3 h4 h5 h6 h7=>exact⟨a,cap,ds,rfl,h0,h1,h2,h3,h5,h6,h7⟩
theorem bN.ZxN {v:Value}{n:Nat}{xs:List PV}(h:bN ρ m v (.pv (.aE true n xs))){a:Option Addr}{len cap:Nat}(hv:v=.slice a len cap):a≠none:=by
 cases h.nJ with
 |aE a' JC _ _ _ ds h0 h1 h2 h3 h4 h5 h6 h7=>cases hv;exact h4 rfl
theorem bN.DY {v:Value}{s:Site}{n lo len:Nat}(h:bN ρ m v (.vec s n lo len)):(∃cap,v=.slice (some ⟨(ρ s).b,(ρ s).o+lo*n,none⟩) len cap/\len<=cap/\lo+cap<=(ρ s).cap/\(ρ s).real=true)\/(∃a,v=.slice a 0 0/\len=0/\∀A,a=some A->JT A):=by
 cases h with
 |vec _ _ _ _ cap h0 h1 h2=>exact .inl ⟨cap,rfl,h0,h1,h2⟩
 |nE _ _ _ a h=>exact .inr ⟨a,rfl,rfl,h⟩
theorem bN.VX {v:Value}{nl:Option Bool}(h:bN ρ m v (.pv (.emp nl))):∃a,v=.slice a 0 0/\(∀A,a=some A->JT A):=by
 cases h.nJ with
 |emp a _ h0 h1 h2=>exact⟨a,rfl,h2⟩
theorem Zru {t n:Nat}{arr:Option Nat}{e:Nat}{x i:Operand}{x' i':bD}(hx:aW x=some x')(hi:aW i=some i')(he:eH P t=some (e,n,arr))(ho:o.op=.indexAddr t x i)(h:bY (.ia n arr x' i') d K σ)(hS:Sat N w0 m0 pl σ ρ m act w):dB G P σ ρ m o act w K:=by
 simp only[bY]at h;have h1:=hS.aW hx;have h2:=hS.aW hi;split at h
 .rename_i k z ez;rw[ez]at h2;have hz:=h2.V8;split at h
  ·
   have sl:∀(b q len cap:Nat) (a:AV),act.eval x=.slice (some ⟨b,q,none⟩) len cap->0<=z->z<len->bN ρ m (.pointer (some ⟨b,q+z.toNat*n,none⟩)) a->K a σ->dB G P σ ρ m o act w K:=by
    intro b q len cap a e0 z0 z1 k2 hK;refine .pure hS ?_ k2 hK;intro w' bQ;unfold execOp;simp only[ho,e0,hz,Sem.run_bind,Qa he b q len cap k z0 z1,Result.andThen_ok];rfl
   split at h
   .rename_i nn n' xs ex;rw[ex]at h1;obtain⟨a,cap,ds,hv,l0,l1,l2,l3,l5,l6,l7⟩:=h1.Ky;split at h
    .rename_i z0;split at h
     .rename_i y hy;obtain⟨rfl,hK⟩:=h;obtain⟨b,q,rfl,k1⟩:=l5 _ y hy;obtain⟨k2,k3,k4⟩:=l6 _ y hy;have aI:=(bZ.1 hy).1;exact sl b q _ cap _ hv z0 (by omega) (.pv _ _ (.ref b (q+z.toNat*n') y.cells _ k1 (by rw[k2,k3]) k4 (fun j u c q1 q2=>l7 _ y j u c hy q1 q2))) hK
     .exact h.elim
    .exact h.elim
   .rename_i s n' lo len ex;rw[ex]at h1;obtain⟨rfl,z0,z1,hK⟩:=h;rcases h1.DY with⟨cap,hv,c0,c1,c2⟩|⟨a,hv,c0,_⟩
    .refine sl _ _ _ cap _ hv z0 z1 ?_ hK
     have:=bN.lB (ρ:=ρ) (m:=m) s n' (lo+z.toNat) 0
     rwa [show(ρ s).o+(lo+z.toNat)*n'+0=(ρ s).o+lo*n'+z.toNat*n' by rw[Nat.add_mul];omega]at this
    .omega
   .exact h.elim
  .rename_i l;obtain⟨z0,z1,h⟩:=h;have ar:∀(b q:Nat) (a:AV),act.eval x=.pointer (some ⟨b,q,none⟩)->bN ρ m (.pointer (some ⟨b,q+z.toNat*n,none⟩)) a->K a σ->dB G P σ ρ m o act w K:=by
    intro b q a e0 k2 hK;refine .pure hS ?_ k2 hK;intro w' bQ;unfold execOp;simp only[ho,e0,hz,Sem.run_bind,ZpD he b q k z0 z1,Result.andThen_ok];rfl
   split at h
   .rename_i cs ex;rw[ex]at h1;obtain⟨b,q,ds,hX,k1,k2,k3,k4⟩:=h1.Ev;refine ar b q _ hX ?_ h.2;refine .pv _ _ (.ref b (q+z.toNat*n) (cs.drop (z.toNat*n)) (ds.drop (z.toNat*n)) (At.j3 (fun j u hj=>?_)) (by simp[k2]) (fun u hu=>k3 u (List.mem_of_mem_drop hu)) (fun j u c q1 q2=>?_))
    .rw[mW]at hj
     have:=k1.get _ u hj
     rwa [show q+z.toNat*n+j=q+(z.toNat*n+j) by omega]
    .rw[mW]at q1 q2;exact k4 _ u c q1 q2
   .rename_i s q ex;rw[ex]at h1;exact ar _ q _ h1.DX (.ptr s (q+z.toNat*n)) h
   .rename_i s n' j q ex;rw[ex]at h1;refine ar _ _ _ h1.Et ?_ h
    have:=bN.lB (ρ:=ρ) (m:=m) s n' j (q+z.toNat*n)
    rwa [show(ρ s).o+j*n'+(q+z.toNat*n)=(ρ s).o+j*n'+q+z.toNat*n by omega]at this
   .exact h.elim
 .exact h.elim
theorem ZmK {t n:Nat}{arr:Option Nat}{e:Nat}{c:Call}{x:Operand}{x':bD}(hx:aW x=some x')(he:eH P t=some (e,n,arr))(hc:c.callee=.builtin .len)(ha:c.args.toList=[x])(ht:c.argTypes.toList=[t])(ho:o.op=.call c)(h:bY (.len arr x') d K σ)(hS:Sat N w0 m0 pl σ ρ m act w):dB G P σ ρ m o act w K:=by
 simp only[bY]at h;have h1:=hS.aW hx;have fY:c.args=#[x]:=yU.1 (by simpa using ha);have sM:c.argTypes=#[t]:=yU.1 (by simpa using ht);have go:∀(L:Nat),(∀w:World,(Builtin.len_ #[t] o.type #[act.eval x]).run P w=.ok (.int .i64 L) w)->K (.pv (.int .i64 L)) σ->dB G P σ ρ m o act w K:=by
  intro L k hK;refine .pure hS ?_ (.pv _ _ (.int _ _)) hK;intro w' bQ;unfold execOp;simp only[ho];simp[resolve,hc,fY,sM,invoke,builtin,k]
 split at h
 .rename_i l;exact go l (fun w=>Zng he _ _) h
 .split at h
  .rename_i ex;rw[ex]at h1;obtain⟨a,cap,ds,hv,_⟩:=h1.Ky;exact go _ (by intro w;rw[hv];exact X1 he _ _ _ _) h
  .rename_i ex;rw[ex]at h1;obtain⟨a,hv,_⟩:=h1.VX;exact go 0 (by intro w;rw[hv];exact X1 he _ _ _ _) h
  .rename_i s n' lo len ex;rw[ex]at h1;rcases h1.DY with⟨cap,hv,c0,c1,c2⟩|⟨a,hv,c0,_⟩
   .exact go _ (by intro w;rw[hv];exact X1 he _ _ _ _) h
   .subst c0;exact go 0 (by intro w;rw[hv];exact X1 he _ _ _ _) h
  .exact h.elim
theorem SQ:∀{ps:List bD} {xs:List PV},σ.tN ps=some xs->ps.length=xs.length/\∀(j:Nat) (y:bD),ps[j]?=some y->∃x,xs[j]?=some x/\σ.o y=.pv x
 |[],xs,h=>by simp[AS.tN]at h;subst h;exact⟨rfl,fun j x k=>by simp at k⟩
 |a::r,xs,h=>by
  unfold AS.tN at h;split at h
  .rename_i x l h1 h2;cases h;obtain⟨k1,k2⟩:=SQ h2;refine⟨by simp[k1],fun j y k=>?_⟩;cases j with
   |zero=>simp at k;subst k;exact⟨x,rfl,h1⟩
   |succ j=>simpa using k2 j y (by simpa using k)
  .cases h
theorem ZmJ {f:FuncId}{fs cs:Array Operand}{tE iK:List bD}(hf:pI fs.toList=some tE)(hc:pI cs.toList=some iK)(ho:o.op=.makeFunc (.func f) fs cs)(h:bY (.yC f tE iK) d K σ)(hS:Sat N w0 m0 pl σ ρ m act w):dB G P σ ρ m o act w K:=by
 simp only[bY]at h;obtain⟨f1,f2⟩:=KL hf;obtain⟨c1,c2⟩:=KL hc;have hr:∀w',G w'->(execOp act.eval o).run P w'=.ok (.value (.func (.func f) (fs.map act.eval) (cs.map act.eval))) w':=by
  intro w' bQ;unfold execOp;simp only[ho];rfl
 have kK:∀(l:Array Operand) (l':List bD),(∀(j:Nat) (x:Operand),l.toList[j]?=some x->∃y:bD,l'[j]?=some y/\aW x=some y)->∀(j:Nat) (u:Value),(l.map act.eval)[j]?=some u->∃y:bD,l'[j]?=some y/\bN ρ m u (σ.o y):=by
  intro l l' hl j u hu;rw[Array.getElem?_map]at hu;obtain⟨x,k1,rfl⟩:=eA.1 hu;obtain⟨y,k2,k3⟩:=hl j x (by simpa using k1);exact⟨y,k2,hS.aW k3⟩
 split at h
 .rename_i a b ea eb;obtain⟨a1,a2⟩:=SQ ea;obtain⟨b1,b2⟩:=SQ eb;refine .pure hS hr (.pv _ _ (.fn f _ _ a b (by simp;simpa using f1.trans a1) (by simp;simpa using c1.trans b1) (fun j u c q1 q2=>?_) (fun j u c q1 q2=>?_))) h
  .obtain⟨y,k1,k2⟩:=kK fs tE f2 j u q1;obtain⟨x,k3,k4⟩:=a2 j y k1;rw[q2]at k3;cases k3;rw[k4]at k2;exact k2.nJ
  .obtain⟨y,k1,k2⟩:=kK cs iK c2 j u q1;obtain⟨x,k3,k4⟩:=b2 j y k1;rw[q2]at k3;cases k3;rw[k4]at k2;exact k2.nJ
 .refine .pure hS hr (.fn f _ _ _ _ (by simp;simpa using f1) (by simp;simpa using c1) (fun j u c q1 q2=>?_) (fun j u c q1 q2=>?_)) h
  .obtain⟨y,k1,k2⟩:=kK fs tE f2 j u q1;rw[bR,k1]at q2;cases q2;exact k2
  .obtain⟨y,k1,k2⟩:=kK cs iK c2 j u q1;rw[bR,k1]at q2;cases q2;exact k2
theorem Zoe {place:Nat->Option (Nat×Nat)}{LK:List (Nat×Nat)}(mJ:∀(i:Nat) (p:Nat×Nat),LK[i]?=some p->place i=some p):∀(ps:List (Nat×Operand)) (qs:List (Nat×Nat×bD)) (cells:Array Value) (l l':List AV),WD LK ps=some qs->wK σ l qs=some l'->Sat N w0 m0 pl σ ρ m act w->
  cells.size=l.length->(∀u∈cells,u.oneCell'=true)->(∀(j:Nat) (u:Value) (c:AV),cells[j]?=some u->l[j]?=some c->bN ρ m u c)->
  ∃r,Instr.fill place cells (ps.map fun p=>(p.1,act.eval p.2))=some r/\r.size=l'.length/\(∀u∈r,u.oneCell'=true)/\∀(j:Nat) (u:Value) (c:AV),r[j]?=some u->l'[j]?=some c->bN ρ m u c
 |[],qs,cells,l,l',hq,hl,hS,h0,h1,h2=>by
  simp[WD]at hq;subst hq;simp[wK]at hl;subst hl;exact⟨cells,rfl,h0,h1,h2⟩
 |(i,x)::r,qs,cells,l,l',hq,hl,hS,h0,h1,h2=>by
  unfold WD at hq;split at hq
  .rename_i off n y l0 e1 e2 e3;cases hq;unfold wK at hl;split at hl
   .rename_i hc;obtain⟨c1,c2,c3⟩:=hc;obtain⟨k1,k2,k3⟩:=OC (hS.aW e2) c3;obtain⟨g1,g2⟩:=Great.foldl_set off (act.eval x).cells.toList 0 cells;have tD:((act.eval x).cells.zipIdx.foldl (fun cs (p:Value×Nat)=>cs.setIfInBounds (off+p.2) p.1) cells)=(((act.eval x).cells.toList.zipIdx 0).foldl (fun cs (p:Value×Nat)=>cs.setIfInBounds (off+p.2) p.1) cells):=by
     rw[<-Array.foldl_toList,Array.toList_zipIdx]
    generalize hC:(((act.eval x).cells.toList.zipIdx 0).foldl (fun cs (p:Value×Nat)=>cs.setIfInBounds (off+p.2) p.1) cells)=C at *;have gC:∀j,C[j]?=if off<=j/\j<off+n then(act.eval x).cells[j-off]? else cells[j]?:=fun j=>by
     rw[g2 j,uV,k1,c1,Nat.add_zero,O7];by_cases hj:off<=j/\j<off+n
     .rw[if_pos hj,if_pos ⟨hj.1,hj.2,by omega⟩]
     .rw[if_neg hj,if_neg (fun e=>hj ⟨e.1,e.2.1⟩)]
    obtain⟨r',q1,q2,q3,q4⟩:=Zoe mJ r l0 C _ l' e3 hl hS (by rw[W3 (by omega)];omega) (fun u hu=>by
     obtain⟨j,hj⟩:=Array.mem_iff_getElem?.1 hu;rw[gC j]at hj;split at hj
     .exact k2 u (Array.mem_of_getElem? hj)
     .exact h1 u (Array.mem_of_getElem? hj)) (fun j u c a1 a2=>by
     rw[gC j]at a1;rw[A0 (by omega)]at a2;split at a1
     .rename_i hj;rw[if_neg (by omega),if_pos (by omega)]at a2;exact k3 _ u c a1 a2
     .rename_i hj;by_cases CN:j<off
      .rw[if_pos CN]at a2;exact h2 j u c a1 a2
      .rw[if_neg CN,if_neg (by omega)]at a2;exact h2 j u c a1 a2)
    refine⟨r',?_,q2,q3,q4⟩;rw[iQ];unfold Instr.fill;simp only[mJ _ _ e1];rw[if_neg (by simp;omega),tD];exact q1
   .cases hl
  .cases hq
end
section
variable {G:World->Prop}{P:Program}{N:Nat}{w0:World}{m0:Env w0}{pl:List Nat}{σ:AS}{ρ:Site->Loc}{m:Mem}{act:Act}{w:World}{o:Oper}{d:Nat}{K:AV->AS->Prop}
theorem He {t:TypeId}{z:Value}(h:gX P t=some z):∃i,P.info? t=some i/\i.zero=some z:=by
 unfold gX at h;cases hx:P.info? t with
 |none=>simp[hx]at h
 |some i=>exact⟨i,rfl,by simpa[hx]using h⟩
theorem Hb {t:TypeId}{n:Nat}(h:eI P t=some n):∃i,P.info? t=some i/\i.size=n:=by
 unfold eI at h;cases hx:P.info? t with
 |none=>simp[hx]at h
 |some i=>exact⟨i,rfl,by simpa[hx]using h⟩
theorem Zh5 {t:Nat}{ps:Array (Nat×Operand)}{z:PV}{LK:List (Nat×Nat)}{qs:List (Nat×Nat×bD)}(hz:rW P t=some z)(hp:Za P t=some LK)(hq:WD LK ps.toList=some qs)(ho:o.op=.build t ps)(h:bY (.build z qs) d K σ)(hS:Sat N w0 m0 pl σ ρ m act w):dB G P σ ρ m o act w K:=by
 simp only[bY]at h;split at h
 .rename_i l hl;unfold rW at hz;cases hv:gX P t with
  |none=>simp[hv]at hz
  |some v=>
   simp only[hv,Option.bind_some]at hz;obtain⟨k1,k2,k3⟩:=TF hz m;obtain⟨it,hi1,N5⟩:=He hv;have fin:∀place:Nat->Option (Nat×Nat),(∀(i:Nat) (p:Nat×Nat),LK[i]?=some p->place i=some p)->(∀r,Instr.fill place v.cells (ps.toList.map fun p=>(p.1,act.eval p.2))=some r->P.built t (ps.map fun(i,x)=>(i,act.eval x)).toList=some r)->dB G P σ ρ m o act w K:=by
    intro place mJ hb;obtain⟨r,q1,q2,q3,q4⟩:=Zoe mJ ps.toList qs v.cells _ l hq hl hS (by simpa using k1) k2 (fun j u c a1 a2=>by
     rw[bR]at a2;obtain⟨x,a3,rfl⟩:=eA.1 a2;exact .pv _ _ (k3 j u x a1 a3))
    refine .pure hS (v:=.agg r) ?_ (Ha q2 q3 q4) h;intro w' bQ;unfold execOp;simp only[ho,Sem.run_bind];rw[run_build w' t _ r (hb r q1)];rfl
   unfold Za at hp;split at hp
   .rename_i fs hu;have MG:fs.toList.mapM (fun f=>(P.info? f.type).map fun i=>(f.offset,i.size))=some LK:=by
     rw[<-hp];congr 1;funext f;unfold eI;cases P.info? f.type<;>rfl
    refine fin (LK.toArray[·]?) (fun i p e=>by simpa using e) (fun r hr=>?_);unfold Program.built;simp only[hi1,hu,N5,MG,Array.toList_map];exact hr
   .rename_i l' e hu;cases hs:eI P e with
    |none=>simp[hs]at hp
    |some n=>
     simp only[hs,uU,Option.some.injEq]at hp;obtain⟨ie,IA,CP⟩:=Hb hs;refine fin (fun i=>some (i*n,n)) (fun i p e=>?_) (fun r hr=>?_)
     .rw[<-hp,bR]at e;obtain⟨j,e1,rfl⟩:=eA.1 e
      have:j=i:=by
       rw[List.getElem?_range]at e1
       .cases e1;rfl
       .have:=(bZ.1 e1).1;simpa using this
      rw[this]
     .unfold Program.built;simp only[hi1,hu,N5,IA,CP,Array.toList_map];exact hr
   .cases hp
 .exact h.elim
theorem ZmL {t f:Nat}{fs:Array Field}{fl:Field}{n:Nat}{x:Operand}{x':bD}(hx:aW x=some x')(hu:P.underlying t=some (.struct fs))(hf:fs[f]?=some fl)(hs:eI P fl.type=some n)(CA:(P.underlying fl.type).isSome=true)(ho:o.op=.field t x f)(h:bY (.NC (sI P fl.type) fl.offset n x') d K σ)(hS:Sat N w0 m0 pl σ ρ m act w):dB G P σ ρ m o act w K:=by
 obtain⟨dd,hd⟩:=Option.isSome_iff_exists.1 CA;simp only[bY]at h;have h1:=hS.aW hx;have wide:(σ.o x').wide=true->∃vs,act.eval x=.agg vs:=by
  intro hw;generalize σ.o x'=a at h1 hw;generalize act.eval x=v at h1;cases h1 with
  |agg vs=>exact⟨vs,rfl⟩
  |pv v x h2=>cases h2 with
   |agg vs=>exact⟨vs,rfl⟩
   |_=>cases hw
  |_=>cases hw
 have run:∀vs,act.eval x=.agg vs->∀v,(∀w:World,(part fl.type vs fl.offset).run P w=.ok v w)->∀w',G w'->(execOp act.eval o).run P w'=.ok (.value v) w':=by
  intro vs e v k;intro w' bQ;unfold execOp;simp only[ho,e,Sem.run_bind];simp[Instr.field,run_underlying hu,hf,asAgg,k]
 split at h
 .rename_i hr;obtain⟨c1,c2,hK⟩:=h;obtain⟨vs,hv⟩:=wide c2;obtain⟨k1,k2,k3⟩:=OC h1 (.inl c2);rw[hv]at k1 k2 k3;have fG:(vs.extract fl.offset (fl.offset+n)).size=n:=by simp[Value.cells]at k1;simp;omega
  have kK:∀j,(vs.extract fl.offset (fl.offset+n))[j]?=if j<n then vs[fl.offset+j]? else none:=fun j=>by
   rw[Array.getElem?_extract];simp only[Value.cells]at k1;by_cases hj:j<n
   .rw[if_pos (by omega),if_pos hj]
   .rw[if_neg (by omega),if_neg hj]
  refine .pure hS (v:=.agg (vs.extract fl.offset (fl.offset+n))) (run vs hv _ ?_) (Ha (by rw[fG,gI,uG];omega) (fun u Ab=>?_) (fun j u c q1 q2=>?_)) hK
  .intro w;simp only[part,Sem.run_bind,Zfj hd,Result.andThen_ok,hr,if_true,run_sizeOf hs];rfl
  .obtain⟨j,hj⟩:=Array.mem_iff_getElem?.1 Ab;rw[kK]at hj;split at hj
   .exact k2 u (Array.mem_of_getElem? hj)
   .cases hj
  .rw[kK]at q1;rw[mG]at q2;split at q1
   .rename_i hj;rw[if_pos hj,mW]at q2;exact k3 _ u c q1 q2
   .cases q1
 .rename_i hr;split at h
  .rename_i a ha;obtain⟨c2,hK⟩:=h;obtain⟨vs,hv⟩:=wide c2;obtain⟨k1,k2,k3⟩:=OC h1 (.inl c2);rw[hv]at k1 k2 k3;have aI:fl.offset<vs.size:=by
    have:=(bZ.1 ha).1
    simp[Value.cells]at k1;omega
   refine .pure hS (v:=vs[fl.offset]) (run vs hv _ ?_) (k3 _ _ a (uT aI) ha) hK;intro w;simp only[part,Sem.run_bind,Zfj hd,Result.andThen_ok,hr,if_false,Bool.false_eq_true];simp[uT aI]
  .exact h.elim
theorem ZkS {s s':Site}{b b':aL}(h:(σ.set s b).b s'=some b'):(s'=s/\b'=b)\/(s'≠s/\σ.b s'=some b'):=by
 rw[AS.VY]at h;split at h
 .rename_i e;cases h;exact .inl ⟨e,rfl⟩
 .rename_i e;exact .inr ⟨e,h⟩
theorem Sat.ZxL (h:Sat N w0 m0 pl σ ρ m act w){s:Site}{b box:aL}(hs:σ.b s=some b)(hb:kO ρ m w s box)(hq:∀k,fL ρ w s box k->fL ρ w s b k):Sat N w0 m0 pl (σ.set s box) ρ m act w:=by
 have g:∀s' b' k,(σ.set s box).b s'=some b'->fL ρ w s' b' k->∃c,σ.b s'=some c/\fL ρ w s' c k:=fun s' b' k h1 h2=>by
  rcases ZkS h1 with⟨rfl,rfl⟩|⟨_,h1⟩
  .exact⟨b,hs,hq k h2⟩
  .exact⟨b',h1,h2⟩
 refine⟨h.sA,h.sz,h.tm,fun s' b' k=>?_,fun s1 s2 b1 b2 k k1 k2 r1 r2=>?_,h.mem,fun s' b' k k1 r1=>?_,fun s' b' k k1 r1=>?_,h.keep,h.base,h.qB,h.par⟩
 .rcases ZkS k with⟨rfl,rfl⟩|⟨_,k⟩
  .exact hb
  .exact h.bx s' b' k
 .obtain⟨c1,g1,q1⟩:=g s1 b1 k k1 r1;obtain⟨c2,g2,q2⟩:=g s2 b2 k k2 r2;exact h.dZ s1 s2 c1 c2 k g1 g2 q1 q2
 .obtain⟨c1,g1,q1⟩:=g s' b' k k1 r1;exact h.eM s' c1 k g1 q1
 .obtain⟨c1,g1,q1⟩:=g s' b' k k1 r1;exact h.fM s' c1 k g1 q1
theorem ZlG {t e n len:Nat}{ps:Array (Nat×Operand)}{qs:List bD}(he:eH P t=some (e,n,none))(hq:pI (ps.toList.map (·.2))=some qs)(hi:ps.toList.map (·.1)=List.range len)(hn:0<n)(C6:len*n<=2^24)(hz:(gX P e).isSome=true)(ho:o.op=.buildSlice t len ps)(h:bY (.aQ e n qs) d K σ)(hS:Sat N w0 m0 pl σ ρ m act w):oC P N w0 m0 pl o act w K:=by
 simp only[bY]at h;obtain⟨hu,hs⟩:=KN he;obtain⟨ie,IA,CP⟩:=Hb hs;obtain⟨z,hz⟩:=Option.isSome_iff_exists.1 hz;obtain⟨i2,X9,P8⟩:=He hz;rw[IA]at X9;cases X9;obtain⟨q1,q2⟩:=KL hq;rw[fQ]at q1;have hlen:ps.toList.length=len:=by
  have:=congrArg List.length hi
  simpa using this
 obtain⟨m',Q3,hF⟩:=Sat.DV qs hS;split at h
 .rename_i hp;obtain⟨p1,_⟩:=SQ hp;have h0:len=0:=by rw[List.length_nil]at p1;omega
  subst h0;have yE:ps=#[]:=by
   have:ps.toList=[]:=List.eq_nil_of_length_eq_zero hlen
   exact yU.1 (by simpa using this)
  have hr:(execOp act.eval o).run P w=.ok (.value (.slice (some ⟨w.heap.size,0,none⟩) 0 0)) (w.alloc (.cells #[] e)):=by
   unfold execOp;simp only[ho,yE,Sem.run_bind];simp[Instr.buildSlice,run_underlying hu,run_sizeOf hs,Instr.fill,newRow];rw[show Array.map (fun _=>(default:Value)) (Array.range 0)=#[] from Array.eq_empty_of_size_eq_zero (by simp)]
  exact⟨_,_,_,_,ρ,m,.inl hr,h,hS.ext (Ext.al w _),.pv _ _ (.emp _ _ (fun e=>(by cases e)) (fun _=>by simp) (fun A hA=>by cases hA;rfl)),fun _=>Ext.al _ _⟩
 .rename_i xs hp EP;obtain⟨hx,hK⟩:=h;obtain⟨p1,p2⟩:=SQ EP;have Rt:xs.length=len:=by omega
  have nW:∀(j:Nat) (p:Nat×Operand),ps.toList[j]?=some p->p.1=j/\∃x,xs[j]?=some x/\dG m' (act.eval p.2) x:=fun j p hj=>by
   have aI:=(bZ.1 hj).1;have h1:(ps.toList.map (·.1))[j]?=some p.1:=by rw[bR,hj];rfl
   rw[hi,List.getElem?_range (by omega)]at h1;obtain⟨y,k1,k2⟩:=q2 j p.2 (by rw[bR,hj];rfl);obtain⟨x,k3,k4⟩:=p2 j y k1;have k5:=hF.aW k2;rw[k4]at k5;exact⟨(Option.some.inj h1).symm,x,k3,k5.nJ⟩
  let vs:List Value:=ps.toList.map fun p=>act.eval p.2
  have P9:∀(j:Nat) (v:Value),vs[j]?=some v->∃x,xs[j]?=some x/\dG m' v x:=fun j v hj=>by
   rw[bR]at hj;obtain⟨p,k1,rfl⟩:=eA.1 hj;exact(nW j p k1).2
  have Ao:(ps.map fun(i,x)=>(i,act.eval x)).toList=(vs.zipIdx 0).map fun x=>(x.2,x.1):=by
   apply List.ext_getElem?;intro j;rw[Array.toList_map,bR,bR,List.getElem?_zipIdx,bR];cases hj:ps.toList[j]? with
   |none=>simp
   |some p=>simp[(nW j p hj).1]
  have hvn:∀v∈vs,v.cells.size=n/\(∀u∈v.cells,u.oneCell'=true):=fun v hv=>by
   obtain⟨j,hj⟩:=iM.1 hv;obtain⟨x,k1,k2⟩:=P9 j v hj;obtain⟨k3,k4⟩:=hx x (dL k1);obtain⟨k5,k6,k7⟩:=OC (bN.pv (ρ:=ρ) v x k2) k4
   have:(AV.pv x).cells.length=x.cells.length:=by cases x<;>simp[AV.cells,PV.cells]
   exact⟨by omega,k6⟩
  have Ay:vs.length=len:=by simp[vs];simpa using hlen
  have HT:¬len*n=0:=by
   intro e;rcases Nat.mul_eq_zero.1 e with e|e
   .rw[e]at Rt
    have:xs=[]:=List.eq_nil_of_length_eq_zero Rt
    exact hp this
   .omega
  obtain⟨r,f1,f2,f3⟩:=Great.fill_dense (s:=n) hn vs 0 ((Array.range (len*n)).map (z.cells[·%z.cells.size]!)) (fun v hv=>(hvn v hv).1) (by simp[Ay]);have f2':r.size=len*n:=by rw[f2];simp
  have hr:(execOp act.eval o).run P w=.ok (.value (.slice (some ⟨w.heap.size,0,none⟩) len len)) (w.alloc (.cells r e)):=by
   unfold execOp;simp only[ho,Sem.run_bind];rw[run_buildSlice w t e len _ r ie z hu IA P8 (by rw[CP];omega) (by rw[CP];exact HT) (by rw[CP,Ao];exact f1)];rfl
  have hP:=hF.bI d;have T5:=R9 ρ (.loc d 0) ⟨w.heap.size,0,len,true⟩;refine⟨_,_,_,_,_,m',.inl hr,hK,hP.new d 0 (qT.bI d _) r e len ?_,?_,fun _=>Ext.al _ _⟩
  .refine⟨hn,.inr ⟨by rw[T5],r,by rw[T5];exact heap_alloc_new w _,by rw[T5];simp[f2'],by rw[T5];simp;omega,by
    rw[T5]
    have:len<=len*n:=Nat.le_mul_of_pos_right _ hn
    simp only[maxLen];omega,fun i x hi=>?_⟩⟩
   obtain⟨k3,k4⟩:=hx x (dL hi);refine⟨k3,fun j c hj=>?_⟩;have rO:j<n:=by have:=(bZ.1 hj).1;omega
   have yI:i<len:=by have:=(bZ.1 hi).1;omega
   have Tz:i<vs.length:=by omega
   obtain⟨x',k1,k2⟩:=P9 i _ (aX Tz);rw[hi]at k1;cases k1;obtain⟨k5,k6,k7⟩:=OC (bN.pv (ρ:=ρ) _ x k2) k4;have k8:=(hvn _ (zX Tz)).1;have Tv:j<vs[i].cells.size:=by omega
   have hdiv:(i*n+j) / n=i:=by rw[Nat.add_comm,Nat.add_mul_div_right _ _ hn,Nat.div_eq_of_lt rO,rT]
   have yH:(i*n+j)%n=j:=by rw[Nat.add_comm,Nat.add_mul_mod_self_right,Nat.mod_eq_of_lt rO]
   refine⟨vs[i].cells[j],?_,k6 _ (Array.getElem_mem Tv),?_⟩
   .rw[T5];have aI:i*n+j<(0+vs.length)*n:=by
     have:=W6 (n:=n) yI
     rw[rT,Ay];omega
    show r[0+i*n+j]?=_;rw[rT,f3,if_pos ⟨by omega,aI⟩,hdiv,yH,Nat.sub_zero,aX Tz,Option.bind_some,uT Tv]
   .have:=k7 j _ (.pv c) (uT Tv) (by
     cases x<;>simp only[AV.cells,PV.cells,bR]at hj ⊢
     all_goals (first|(rw[hj];rfl)|(cases j<;>simp at hj ⊢;exact hj)))
    exact this.nJ
  .rw[Rt]
   have:=bN.vec (ρ:=iN ρ (.loc d 0) ⟨w.heap.size,0,len,true⟩) (m:=m') (.loc d 0) n 0 len len (fE _) (by rw[T5];simp) (by rw[T5])
   rw[T5]at this;simpa using this
 .exact h.elim
end
structure Flat (m:Mem)(ds:List Value)(n:Nat)(xs:List PV):Prop where
 len:ds.length=xs.length*n
 one:∀u∈ds,u.oneCell'=true
 get:∀(i:Nat) (x:PV),xs[i]?=some x->x.cells.length=n/\∀(j:Nat) (c:PV),x.cells[j]?=some c->∃u,ds[i*n+j]?=some u/\dG m u c
theorem Flat.app {m:Mem}{ds es:List Value}{n:Nat}{xs ys:List PV}(h:Flat m ds n xs)(k:Flat m es n ys):Flat m (ds++es) n (xs++ys):=by
 refine⟨by rw[gE,h.len,k.len,gE,Nat.add_mul],fun u hu=>by
  rcases sE.1 hu with h'|h'
  .exact h.one u h'
  .exact k.one u h',fun i x hi=>?_⟩
 rw[yS]at hi;split at hi
 .rename_i aI;obtain⟨k1,k2⟩:=h.get i x hi;refine⟨k1,fun j c hj=>?_⟩;obtain⟨u,k3,k4⟩:=k2 j c hj;exact⟨u,by rw[List.getElem?_append_left (bZ.1 k3).1];exact k3,k4⟩
 .rename_i aI;obtain⟨k1,k2⟩:=k.get _ x hi;refine⟨k1,fun j c hj=>?_⟩;obtain⟨u,k3,k4⟩:=k2 j c hj;have e:i*n=ds.length+(i-xs.length)*n:=by rw[h.len,<-Nat.add_mul];congr 1;omega
  exact⟨u,by rw[List.getElem?_append_right (by omega),show i*n+j-ds.length=(i-xs.length)*n+j by omega];exact k3,k4⟩
theorem Flat.nil (m:Mem)(n:Nat):Flat m [] n []:=⟨by simp,(fun u h=>by cases h),(fun i x h=>by simp at h)⟩
def Ie (m:Mem)(w:World)(v:Value)(n:Nat)(xs:List PV):Prop:=
 ∃(a:Option Addr) (cap:Nat) (ds:List Value),v=.slice a xs.length cap/\Flat m ds n xs/\∀(k:Nat) (u:Value),ds[k]?=some u->∃b o,a=some ⟨b,o,none⟩/\w.cell? ⟨b,o+k,none⟩=some u
section
variable {P:Program}{N:Nat}{w0:World}{m0:Env w0}{pl:List Nat}{σ:AS}{ρ:Site->Loc}{m:Mem}{act:Act}{w:World}{o:Oper}{d:Nat}{K:AV->AS->Prop}
theorem Hs {k n L:Nat}(h:k<L*n)(hn:0<n):k / n<L/\k%n<n/\k / n*n+k%n=k:=by
 refine⟨Nat.div_lt_of_lt_mul (by rw[Nat.mul_comm];exact h),Nat.mod_lt _ hn,?_⟩;rw[Nat.mul_comm];exact Nat.div_add_mod k n
theorem ZqD {v:Value}{nn:Bool}{n:Nat}{xs:List PV}(hn:0<n)(hw:Le m w.mem)(h:bN ρ m v (.pv (.aE nn n xs))):Ie m w v n xs:=by
 obtain⟨a,cap,ds,hv,l0,l1,l2,l3,l5,l6,l7⟩:=h.Ky;have hL:∀k,k<xs.length*n->∃u,(ds (k / n))[k%n]?=some u:=fun k hk=>by
  obtain⟨h1,h2,h3⟩:=Hs hk hn;obtain⟨k1,_,_⟩:=l6 _ _ (aX h1);exact⟨_,aX (by rw[k1];exact h2)⟩
 have kK:∀k u,((List.range (xs.length*n)).map fun k=>((ds (k / n))[k%n]?).getD undef)[k]?=some u->k<xs.length*n/\(ds (k / n))[k%n]?=some u:=fun k u hk=>by
  rw[bR]at hk;obtain⟨k',k1,k2⟩:=eA.1 hk;have aI:k<xs.length*n:=by have:=(bZ.1 k1).1;simpa using this
  rw[List.getElem?_range aI]at k1;cases k1;obtain⟨u',Ab⟩:=hL k aI;rw[Ab]at k2;simp at k2;subst k2;exact⟨aI,Ab⟩
 refine⟨a,cap,(List.range (xs.length*n)).map fun k=>((ds (k / n))[k%n]?).getD undef,hv,⟨by simp,fun u hu=>?_,fun i x hi=>?_⟩,fun k u hk=>?_⟩
 .obtain⟨k,hk⟩:=iM.1 hu;obtain⟨aI,k1⟩:=kK k u hk;obtain⟨h1,_,_⟩:=Hs aI hn;exact(l6 _ _ (aX h1)).2.2 u (dL k1)
 .obtain⟨k1,k2,_⟩:=l6 i x hi;refine⟨k2,fun j c hj=>?_⟩;have rO:j<n:=by have:=(bZ.1 hj).1;omega
  have yI:i<xs.length:=(bZ.1 hi).1;have aI:i*n+j<xs.length*n:=by have:=W6 (n:=n) yI;omega
  have hdiv:(i*n+j) / n=i:=by rw[Nat.add_comm,Nat.add_mul_div_right _ _ hn,Nat.div_eq_of_lt rO,rT]
  have yH:(i*n+j)%n=j:=by rw[Nat.add_comm,Nat.add_mul_mod_self_right,Nat.mod_eq_of_lt rO]
  have hjd:j<(ds i).length:=by omega
  refine⟨(ds i)[j],?_,l7 i x j _ c hi (aX hjd) hj⟩;rw[bR,List.getElem?_range aI,uU,hdiv,yH,aX hjd];rfl
 .obtain⟨aI,k1⟩:=kK k u hk;obtain⟨h1,h2,h3⟩:=Hs aI hn;obtain⟨b,q,ha,k2⟩:=l5 _ _ (aX h1);refine⟨b,q,ha,?_⟩
  have:=hw _ _ _ (k2.get _ u k1)
  rwa [show q+k / n*n+k%n=q+k by omega]at this
theorem Fy {v:Value}{a:AV}{n:Nat}{xs:List PV}(hn:0<n)(hS:Sat N w0 m0 pl σ ρ m act w)(h:bN ρ m v a)(hc:σ.cont a n=some xs):Ie m w v n xs:=by
 unfold AS.cont at hc;split at hc
 .split at hc
  .rename_i e;subst e;cases hc;exact ZqD hn hS.mem h
  .cases hc
 .cases hc;obtain⟨a,hv,_⟩:=h.VX;exact⟨a,0,[],hv,Flat.nil m n,fun k u hk=>by simp at hk⟩
 .rename_i s n' lo len;split at hc
  .rename_i e eT ys hb;split at hc
   .rename_i mD;obtain⟨rfl,rfl,hl⟩:=mD;cases hc;have hlen:((ys.drop lo).take len).length=len:=by rw[gI,uG];omega
    rcases h.DY with⟨cap,hv,c0,c1,c2⟩|⟨a,hv,c0,_⟩
    .obtain⟨xF,hB|⟨hr,cs,g1,g2,g3,g4,g5⟩⟩:=hS.bx s _ hb
     .rw[hB.1]at c2;cases c2
     have dE:(ρ s).o+lo*eT+len*eT<=cs.size:=by
      have:(lo+len)*eT<=(ρ s).cap*eT:=I2 _ (by omega)
      rw[Nat.add_mul]at this;omega
     have el:∀i x,((ys.drop lo).take len)[i]?=some x->i<len/\ys[lo+i]?=some x:=fun i x hx=>by
      rw[mG]at hx;split at hx
      .rename_i hi;rw[mW]at hx;exact⟨hi,hx⟩
      .cases hx
     refine⟨some ⟨(ρ s).b,(ρ s).o+lo*eT,none⟩,cap,(cs.toList.drop ((ρ s).o+lo*eT)).take (len*eT),by rw[hlen];exact hv,⟨by rw[Ho dE,hlen],fun u hu=>?_,fun i x hi=>?_⟩,fun k u hk=>⟨_,_,rfl,?_⟩⟩
     .obtain⟨k,hk⟩:=iM.1 hu;rw[j7]at hk;split at hk
      .rename_i aI;obtain⟨h1,h2,h3⟩:=Hs aI hn;have hly:lo+k / eT<ys.length:=by omega
       obtain⟨q1,q2⟩:=g5 _ _ (aX hly);have Tp:k%eT<(ys[lo+k / eT]).cells.length:=by omega
       obtain⟨u',q3,q4,_⟩:=q2 _ _ (aX Tp);rw[show(ρ s).o+(lo+k / eT)*eT+k%eT=(ρ s).o+lo*eT+k by rw[Nat.add_mul];omega,hk]at q3;cases q3;exact q4
      .cases hk
     .obtain⟨yI,xI⟩:=el i x hi;obtain⟨q1,q2⟩:=g5 _ x xI;refine⟨q1,fun j c hj=>?_⟩;obtain⟨u,q3,_,q5⟩:=q2 j c hj;have rO:j<eT:=by have:=(bZ.1 hj).1;omega
      have:=W6 (n:=eT) yI
      exact⟨u,by rw[j7,if_pos (by omega)];rw[<-q3];congr 1;rw[Nat.add_mul];omega,q5⟩
     .rw[j7]at hk;split at hk
      .simp[World.cell?,g1,hk]
      .cases hk
    .subst c0;exact⟨a,0,[],by rw[hlen];exact hv,by simpa using Flat.nil m eT,fun k u hk=>by simp at hk⟩
   .cases hc
  .cases hc
 .cases hc
theorem ZfY {n:Nat}{xs:List PV}{a:Option Addr}{ds:List Value}(hf:Flat m ds n xs)(hc:∀(k:Nat) (u:Value),ds[k]?=some u->∃b o,a=some ⟨b,o,none⟩/\w.cell? ⟨b,o+k,none⟩=some u)(w':World)(hw:∀A,w'.cell? A=w.cell? A)(L:Nat)(hL:L=xs.length)(c cap:Nat):
  (Builtin.firstCells n L (.slice a c cap)).run P w'=.ok ds.toArray w':=by
 subst hL;cases a with
 |none=>
  have:ds=[]:=by
   cases ds with
   |nil=>rfl
   |cons u r=>obtain⟨b,o,e,_⟩:=hc 0 u rfl;cases e
  subst this;rfl
 |some A=>
  by_cases h0:ds=[]
  .subst h0;have hl:=hf.len;simp only[List.length_nil]at hl;simp only[Builtin.firstCells];rw[<-hl];rfl
  .have h1:0<ds.length:=List.length_pos_iff.2 h0;obtain⟨b,q,e,_⟩:=hc 0 _ (aX h1);cases e;refine run_firstCells_some w' n xs.length ⟨b,q,none⟩ c cap ds hf.len (fun j u hj=>?_);obtain⟨b',q',e',k⟩:=hc j u hj;cases e';rw[NY,hw];exact k
theorem Zgo {t ty e:TypeId}{i:TypeInfo}{z:Value}(ht:P.underlying t=some (.slice e))(hi:P.info? e=some i)(hz:i.zero=some z)(ba:Option Addr)(fI dN:Nat)(a':Option Addr)(k c:Nat)(dU news:List Value)
  (ho:∀w',(∀A,w'.cell? A=w.cell? A)->(Builtin.firstCells i.size fI (.slice ba fI dN)).run P w'=.ok dU.toArray w') (hn:∀w',(∀A,w'.cell? A=w.cell? A)->(Builtin.firstCells i.size k (.slice a' k c)).run P w'=.ok news.toArray w')
  (hg:dN<fI+k) (Df:((fI+k:Nat):Int)<=9223372036854775807) (dE:Builtin.nextslicecap (fI+k) dN*i.bytes<=281474976710656):
  (Builtin.append_ #[t,t] ty #[.slice ba fI dN,.slice a' k c]).run P w =
   .ok (.slice (some ⟨w.heap.size,0,none⟩) (fI+k) (grownCap w (fI+k) dN e)) (w.drew.alloc (.cells ((dU++news).toArray++Builtin.zeroCells z.cells (grownCap w (fI+k) dN e-(fI+k))) e)):=by
 have EV:¬(fI+k<=dN):=by omega
 have RJ:¬(9223372036854775807<((fI:Int)+(k:Int))):=by omega
 have RM:¬(281474976710656<Builtin.nextslicecap (fI+k) dN*i.bytes):=by omega
 have f1:=ho w.drew (fun A=>rfl);have f2:=hn w.drew (fun A=>rfl);simp[Builtin.append_,run_underlying ht,sizeOf,typeInfo,zeroValue,hi,hz,Builtin.lenOf,EV,RJ,RM,Question.forced,f1,f2,newRow,grownCap];rw[<-List.append_toArray,Array.append_assoc]
theorem Zgn {t ty e:TypeId}{i:TypeInfo}(ht:P.underlying t=some (.slice e))(hi:P.info? e=some i)(g q fI dN:Nat)(cur:Array Value)(hg:w.heap[g]?=some (.cells cur e (0,0)))(a':Option Addr)(k c:Nat)(news:List Value)
  (hn:(Builtin.firstCells i.size k (.slice a' k c)).run P w=.ok news.toArray w) (h1:∀u∈news,u.oneCell'=true) (eP:fI+k<=dN) (dE:q+fI*i.size+news.length<=cur.size):
  (Builtin.append_ #[t,t] ty #[.slice (some ⟨g,q,none⟩) fI dN,.slice a' k c]).run P w=.ok (.slice (some ⟨g,q,none⟩) (fI+k) dN) (w.setRow g (aR cur.toList (q+fI*i.size) news).toArray):=by
 have bQ:=run_storeCells_at P g (q+fI*i.size) e news 0 cur w hg (by simpa using dE) h1;simp only[Nat.add_zero]at bQ;simp[Builtin.append_,run_underlying ht,sizeOf,typeInfo,hi,Builtin.lenOf,eP,hn,NY,bQ,aR]
end
section
variable {P:Program}{N:Nat}{w0:World}{m0:Env w0}{pl:List Nat}{σ:AS}{ρ:Site->Loc}{m:Mem}{act:Act}{w:World}{o:Oper}{d:Nat}{K:AV->AS->Prop}
theorem kO.of_flat {ρ:Site->Loc}{s:Site}{e n:Nat}{xs:List PV}{cs:Array Value}{ds:List Value}(hn:0<n)(hr:(ρ s).real=true)(hh:w.heap[(ρ s).b]?=some (.cells cs e (0,0)))(hc:(ρ s).o+(ρ s).cap*n<=cs.size)(hl:xs.length<=(ρ s).cap)(hm:(ρ s).cap<=maxLen)
  (hf:Flat m ds n xs) (hg:∀(k:Nat) (u:Value),ds[k]?=some u->cs[(ρ s).o+k]?=some u):kO ρ m w s (.arr e n xs):=by
 refine⟨hn,.inr ⟨hr,cs,hh,hc,hl,hm,fun i x hi=>?_⟩⟩;obtain⟨k1,k2⟩:=hf.get i x hi;refine⟨k1,fun j c hj=>?_⟩;obtain⟨u,k3,k4⟩:=k2 j c hj;exact⟨u,by rw[Nat.add_assoc];exact hg _ u k3,hf.one u (dL k3),k4⟩
theorem Sat.Zxt (h:Sat N w0 m0 pl σ ρ m act w){W:World}(hx:Ext w W){cs:Array Value}{e n cap:Nat}{xs:List PV}{ds:List Value}(hN:qT d σ)(hn:0<n)(hW:W.heap[w.heap.size]?=some (.cells cs e (0,0)))(hc:cap*n<=cs.size)(hl:xs.length<=cap)(hm:cap<=maxLen)
  (hf:Flat m ds n xs) (hg:∀(k:Nat) (u:Value),ds[k]?=some u->cs[k]?=some u):
  ∃bW,Sat N w0 m0 pl (σ.add (.loc d 0) (.arr e n xs)) bW m act W/\bN bW m (.slice (some ⟨w.heap.size,0,none⟩) xs.length cap) (.vec (.loc d 0) n 0 xs.length):=by
 have hu:=R9 ρ (.loc d 0) ⟨w.heap.size,0,cap,true⟩;refine⟨iN ρ (.loc d 0) ⟨w.heap.size,0,cap,true⟩,(h.ext hx).add hN (.of_flat hn (by rw[hu]) (by rw[hu];exact hW) (by rw[hu];simpa using hc) (by rw[hu];exact hl) (by rw[hu];exact hm) hf (by rw[hu];simpa using hg)) (fun _ s b k r=>?_) (fun _ o=>h.Eu (fE _) o) (fun _=>.inl h.keep.size),?_⟩
 .have:=h.G2 k (((h.bx s b k).dS (fun r=>hx.block _ (h.lt k r))).1 r)
  simp at this
 .have:=bN.vec (ρ:=iN ρ (.loc d 0) ⟨w.heap.size,0,cap,true⟩) (m:=m) (.loc d 0) n 0 xs.length cap hl (by rw[hu];simp) (by rw[hu])
  rw[hu]at this;simpa using this
theorem Sat.ZxW (h:Sat N w0 m0 pl σ ρ m act w){e n:Nat}(hN:qT d σ)(hn:0<n){a:Option Addr}(ha:∀A,a=some A->JT A):
  ∃bW,Sat N w0 m0 pl (σ.add (.loc d 0) (.arr e n [])) bW m act w/\bN bW m (.slice a 0 0) (.vec (.loc d 0) n 0 0):=by
 have hu:=R9 ρ (.loc d 0) ⟨0,0,0,false⟩;refine⟨iN ρ (.loc d 0) ⟨0,0,0,false⟩,h.add hN ⟨hn,.inl ⟨by rw[hu],rfl,by rw[hu]⟩⟩ (fun e=>by cases e) (fun e=>by cases e) (fun e=>by cases e),.nE _ _ _ _ ha⟩
theorem Zca (z:Array Value)(n:Nat):(Builtin.zeroCells z n).size=n*z.size:=by simp[Builtin.zeroCells]
theorem ZhT {t:TypeId}{c:Call}{x y:Operand}(hc:c.callee=.builtin .append)(ha:c.args.toList=[x,y])(ht:c.argTypes.toList=[t,t])(ho:o.op=.call c){v:Value}{w':World}(h:(Builtin.append_ #[t,t] o.type #[act.eval x,act.eval y]).run P w=.ok v w'):
  (execOp act.eval o).run P w=.ok (.value v) w':=by
 have fY:c.args=#[x,y]:=yU.1 (by simpa using ha);have sM:c.argTypes=#[t,t]:=yU.1 (by simpa using ht);unfold execOp;simp only[ho];simp[resolve,hc,fY,sM,invoke,builtin,h]
theorem Sat.extend (hS:Sat N w0 m0 pl σ ρ m act w){s:Site}{e n k:Nat}{xs zs:List PV}{ds:List Value}(hb:σ.b s=some (.arr e n xs))(hr:(ρ s).real=true){cs:Array Value}(g1:w.heap[(ρ s).b]?=some (.cells cs e (0,0)))(hf:Flat m ds n zs)(hk:k<=xs.length)(hl:k+zs.length<=(ρ s).cap):
  (ρ s).o+k*n+ds.length<=cs.size/\Sat N w0 m0 pl (σ.set s (.arr e n (xs.take k++zs))) ρ m act (w.setRow (ρ s).b (aR cs.toList ((ρ s).o+k*n) ds).toArray):=by
 obtain⟨hn,hB|⟨_,iK,Dk,g2,g3,g4,g5⟩⟩:=hS.bx s _ hb
 .rw[hB.1]at hr;cases hr
 rw[g1]at Dk;cases Dk;have gS:cs.toList.length=cs.size:=uV;have iH:(xs.take k).length=k:=by rw[gI];omega
 have dE:(ρ s).o+k*n+ds.length<=cs.size:=by
  have h1:(k+zs.length)*n<=(ρ s).cap*n:=I2 _ hl;rw[Nat.add_mul]at h1;rw[hf.len];omega
 refine⟨dE,hS.Ey hb hr (cV.setRow w _ _) ⟨hn,.inr ⟨hr,_,setRow_heap w _ cs _ e _ g1,?_,?_,g4,fun i x hi=>?_⟩⟩⟩
 .rw[yT,W3 (by rw[gS];exact dE),gS];exact g2
 .rw[gE,iH];exact hl
 .rw[yS,iH]at hi;split at hi
  .rename_i qM;rw[mG,if_pos qM]at hi;obtain⟨k1,k2⟩:=g5 i x hi;refine⟨k1,fun j c hj=>?_⟩;obtain⟨d,q1,q2,q3⟩:=k2 j c hj;refine⟨d,?_,q2,q3⟩;have rO:j<n:=by have:=(bZ.1 hj).1;omega
   have:=W6 (n:=n) qM
   rw[I1,A0 (by rw[gS];exact dE),if_pos (by omega),O7];exact q1
  .rename_i qM;obtain⟨k1,k2⟩:=hf.get (i-k) x hi;refine⟨k1,fun j c hj=>?_⟩;obtain⟨u,q1,q2⟩:=k2 j c hj;have aI:=(bZ.1 q1).1;have e1:i*n=k*n+(i-k)*n:=by rw[<-Nat.add_mul];congr 1;omega
   refine⟨u,?_,hf.one u (dL q1),q2⟩;rw[I1,A0 (by rw[gS];exact dE),if_neg (by omega),if_pos (by omega),<-q1];congr 1;omega
theorem Zlv {e n bytes:Nat}{i:TypeInfo}{zv:Value}{x:Operand}{x':bD}{ys:List PV}{yd:List Value}(hx:aW x=some x')(hb:i.bytes=bytes)(hn:0<n)(fG:i.size=n)(tS:zv.cells.size=n)(C5:Flat m yd n ys)
  (EG:∀(ba:Option Addr) (L dN:Nat) (od:List Value),act.eval x=.slice ba L dN->(∀w',(∀A,w'.cell? A=w.cell? A)->(Builtin.firstCells i.size L (.slice ba L dN)).run P w'=.ok od.toArray w')->dN<L+ys.length->((L+ys.length:Nat):Int)<=9223372036854775807->Builtin.nextslicecap (L+ys.length) dN*i.bytes<=281474976710656->
   (execOp act.eval o).run P w=.ok (.value (.slice (some ⟨w.heap.size,0,none⟩) (L+ys.length) (grownCap w (L+ys.length) dN e))) (w.drew.alloc (.cells ((od++yd).toArray++Builtin.zeroCells zv.cells (grownCap w (L+ys.length) dN e-(L+ys.length))) e)))
  (ER:∀(g q L dN:Nat) (cur:Array Value),act.eval x=.slice (some ⟨g,q,none⟩) L dN->w.heap[g]?=some (.cells cur e (0,0))->L+ys.length<=dN->q+L*i.size+yd.length<=cur.size->(execOp act.eval o).run P w=.ok (.value (.slice (some ⟨g,q,none⟩) (L+ys.length) dN)) (w.setRow g (aR cur.toList (q+L*i.size) yd).toArray))
  (E0:∀ba,act.eval x=.slice ba 0 0->ys=[]->(execOp act.eval o).run P w=.ok (.value (.slice ba 0 0)) w)
  (h:bY (.app e n bytes x' (.c (.aE false n ys))) d K σ) (hS:Sat N w0 m0 pl σ ρ m act w):F5 (∃nl,σ.o x'=.pv (.emp nl)) P N w0 m0 pl o act w K:=by
 have T1:σ.cont (σ.o (.c (.aE false n ys))) n=some ys:=by simp[AS.o,AS.cont]
 simp only[bY,T1]at h;have grow:∀(τ:AS) (ba:Option Addr) (xs:List PV) (dN:Nat) (od:List Value),Sat N w0 m0 pl τ ρ m act w->qT d τ->act.eval x=.slice ba xs.length dN->Flat m od n xs->(∀(k:Nat) (u:Value),od[k]?=some u->∃b o,ba=some ⟨b,o,none⟩/\w.cell? ⟨b,o+k,none⟩=some u)->
   dN<xs.length+ys.length->(xs.length+ys.length)*bytes<=140737488355328->xs.length+ys.length<=9223372036854775807->K (.vec (.loc d 0) n 0 (xs.length+ys.length)) (τ.add (.loc d 0) (.arr e n (xs++ys)))->F5 (∃nl,σ.o x'=.pv (.emp nl)) P N w0 m0 pl o act w K:=by
  intro τ ba xs dN od HI hN pU CI G5 aI C6 b9 hK;have hmul:(xs.length+ys.length)*i.bytes<=140737488355328:=by rw[hb];exact C6
  have dF:=EG ba xs.length dN od pU (fun w' hw=>by rw[fG];exact ZfY CI G5 w' hw _ rfl _ dN) aI (by omega) (growslice_fits aI (by omega));have yK:=grownCap_ge w (xs.length+ys.length) dN e;have rP:=grownCap_le_maxLen w (xs.length+ys.length) dN e (by simp only[maxLen];omega);have hl:=CI.len;have qW:=C5.len;obtain⟨bW,k1,k2⟩:=HI.Zxt (W:=w.drew.alloc (.cells ((od++yd).toArray++Builtin.zeroCells zv.cells (grownCap w (xs.length+ys.length) dN e-(xs.length+ys.length))) e)) ((Ext.dr w).trans' (Ext.al _ _)) hN hn (heap_alloc_new w.drew _) (cap:=grownCap w (xs.length+ys.length) dN e) (xs:=xs++ys) (ds:=od++yd) (by
    rw[Array.size_append,Zca,tS,yT,gE,hl,qW,<-Nat.add_mul,<-Nat.add_mul];exact I2 _ (by omega)) (by rw[gE];exact yK) rP (CI.app C5) (fun k u hk=>by
    rw[Array.getElem?_append,yT,if_pos (bZ.1 hk).1,I1];exact hk)
  rw[gE]at k2;exact⟨_,_,_,_,bW,m,.inl dF,hK,k1,k2,fun _=>(Ext.dr w).trans' (Ext.al _ _)⟩
 have ZF:∀(τ:AS) (ba:Option Addr),Sat N w0 m0 pl τ ρ m act w->qT d τ->act.eval x=.slice ba 0 0->(∀A,ba=some A->JT A)->ys=[]->K (.vec (.loc d 0) n 0 0) (τ.add (.loc d 0) (.arr e n []))->F5 (∃nl,σ.o x'=.pv (.emp nl)) P N w0 m0 pl o act w K:=by
  intro τ ba HI hN pU jM T1 hK;subst T1;obtain⟨bW,k1,k2⟩:=HI.ZxW (e:=e) (a:=ba) hN hn jM;exact⟨_,_,_,_,bW,m,.inl (E0 ba pU rfl),hK,k1,k2,fun _=>Ext.tH _⟩
 have empty:∀(τ:AS) (ba:Option Addr),Sat N w0 m0 pl τ ρ m act w->qT d τ->act.eval x=.slice ba 0 0->(∀A,ba=some A->JT A)->ys.length*bytes<=140737488355328->ys.length<=9223372036854775807->K (.vec (.loc d 0) n 0 ys.length) (τ.add (.loc d 0) (.arr e n ys))->F5 (∃nl,σ.o x'=.pv (.emp nl)) P N w0 m0 pl o act w K:=by
  intro τ ba HI hN pU jM C6 b9 hK;by_cases T1:ys=[]
  .refine ZF τ ba HI hN pU jM T1 ?_;subst T1;exact hK
  .have:=List.length_pos_iff.2 T1
   exact grow τ ba [] 0 [] HI hN pU (Flat.nil m n) (fun k u hk=>by simp at hk) (by simpa using this) (by simpa using C6) (by simpa using b9) (by simpa using hK)
 split at h
 .rename_i nl ex;obtain⟨h1,h2,hK⟩:=h;have tC:=hS.aW hx;rw[ex]at tC;obtain⟨ba,pU,jM⟩:=tC.VX;exact empty (σ.bI d) ba (hS.bI d) (qT.bI d σ) pU jM h1 h2 hK
 .rename_i s n' lo len ex;have tC:=hS.aW hx;split at h
  .rename_i e' eT xs tX;rcases h with⟨⟨rfl,rfl,rfl,lG⟩,C6,b9,hK⟩|⟨⟨rfl,rfl,rfl,lG⟩,C6,b9,hK,RF⟩
   case inr=>
    have nI:((xs.drop lo).take len).length=len:=by rw[gI,uG];omega
    have Ur:σ.cont (.vec s eT lo len) eT=some ((xs.drop lo).take len):=by
     unfold AS.cont;simp only[tX,true_and];rw[if_pos lG]
    rw[ex]at tC;obtain⟨ba,bc,od,pU,CI,G5⟩:=Fy hn hS tC Ur;rcases tC.DY with⟨cap,rM,c0,c1,c2⟩|⟨a,rM,c0,jM⟩
    .rw[pU]at rM;injection rM with q1 q2 q3;subst q1;subst q3;by_cases eP:((xs.drop lo).take len).length+ys.length<=bc
     .obtain⟨xF,hB|⟨hr,cs,g1,g2,g3,g4,g5⟩⟩:=hS.bx s _ tX
      .rw[hB.1]at c2;cases c2
      obtain⟨MN,mZ⟩:=hS.extend tX hr g1 C5 lG (by rw[nI]at eP;omega);have qW:=C5.len;rw[Nat.add_mul,<-Nat.add_assoc]at MN mZ;have dF:=ER (ρ s).b ((ρ s).o+lo*eT) ((xs.drop lo).take len).length bc cs pU g1 eP (by rw[fG,nI];exact MN);rw[fG,nI]at dF;exact⟨_,_,_,_,ρ,m,.inl dF,RF,mZ,.vec s eT lo (len+ys.length) bc (by rw[<-nI];exact eP) c1 hr,fun hm=>by obtain⟨nl,hm⟩:=hm;rw[ex]at hm;cases hm⟩
     .exact grow _ _ ((xs.drop lo).take len) bc od (hS.bI d) (qT.bI d σ) pU CI G5 (by omega) (by rw[nI];exact C6) (by rw[nI];exact b9) (by rw[nI];exact hK)
    .subst c0;rw[pU]at rM;have BV:(xs.drop lo).take 0=[]:=List.take_zero;rw[BV]at hK;simp only[rT,List.nil_append]at hK;exact empty _ a (hS.bI d) (qT.bI d σ) (by rw[pU,rM]) jM (by simpa using C6) (by simpa using b9) hK
   have nI:(xs.drop lo).length=len:=by rw[uG];omega
   have hD:=(hS.drop s).bI d;have hN:=qT.bI d (σ.drop s);have Ur:σ.cont (.vec s eT lo len) eT=some (xs.drop lo):=by
    unfold AS.cont;simp only[tX,true_and];rw[if_pos (by omega),fH (by omega)]
   rw[ex]at tC;obtain⟨ba,bc,od,pU,CI,G5⟩:=Fy hn hS tC Ur;rcases tC.DY with⟨cap,rM,c0,c1,c2⟩|⟨a,rM,c0,jM⟩
   .rw[pU]at rM;injection rM with q1 q2 q3;subst q1;subst q3;by_cases eP:(xs.drop lo).length+ys.length<=bc
    ·
     obtain⟨xF,hB|⟨hr,cs,g1,g2,g3,g4,g5⟩⟩:=hS.bx s _ tX
     .rw[hB.1]at c2;cases c2
     have hl:=CI.len;rw[nI]at hl;have gS:cs.toList.length=cs.size:=uV;have qW:=C5.len;have Ca:(ρ s).o+lo*eT+bc*eT<=cs.size:=by
      have:(lo+bc)*eT<=(ρ s).cap*eT:=I2 _ c1
      rw[Nat.add_mul]at this;omega
     have Si:len*eT+ys.length*eT<=bc*eT:=by rw[<-Nat.add_mul,<-nI];exact I2 _ eP
     have dE:(ρ s).o+lo*eT+(xs.drop lo).length*i.size+yd.length<=cs.size:=by rw[fG,qW,nI];omega
     have dF:=ER (ρ s).b ((ρ s).o+lo*eT) (xs.drop lo).length bc cs pU g1 eP dE;rw[fG,nI]at dF;have hq:(ρ s).o+lo*eT+len*eT+yd.length<=cs.toList.length:=by rw[gS,qW];omega
     have hD2:=hD.write (k:=(ρ s).b) (w':=w.setRow (ρ s).b (aR cs.toList ((ρ s).o+lo*eT+len*eT) yd).toArray) (fun s' b' k r=>by
      rw[AS.NQ]at k;split at k
      .cases k
      .obtain⟨b2,k2,rfl⟩:=eA.1 k;rw[AS.JN]at k2;split at k2
       .cases k2
       .rename_i cZ;exact cZ (hS.dZ s' s b2 _ _ k2 tX (KA.1 r) (xN hr))) (hS.off s _ tX hr) (hS.own s _ tX hr) (.inl ((hS.bx s _ tX).obj hr)) (cV.setRow w _ _)
     have CA:=R9 ρ (.loc d 0) ⟨(ρ s).b,(ρ s).o+lo*eT,bc,true⟩;have Sz:∀k u,od[k]?=some u->cs[(ρ s).o+lo*eT+k]?=some u:=fun k u hk=>by
      obtain⟨b,q,e1,e2⟩:=G5 k u hk;cases e1;simpa[World.cell?,g1]using e2
     have Z9:=CI.app C5;refine⟨_,_,_,_,iN ρ (.loc d 0) ⟨(ρ s).b,(ρ s).o+lo*eT,bc,true⟩,m,.inl dF,hK,?_,?_,fun hm=>by obtain⟨nl,hm⟩:=hm;rw[ex]at hm;cases hm⟩
     .refine hD2.add hN (.of_flat hn (by rw[CA]) (by rw[CA];exact setRow_heap w _ cs _ e' _ g1) ?_ (by rw[CA,gE];exact eP) (by rw[CA];show bc<=_;omega) Z9 (fun k u hk=>?_)) (fun _ s' b' k r=>?_) (fun _=>hS.off s _ tX hr) (fun _=>hS.own s _ tX hr)
      .rw[CA,yT,W3 hq,gS];exact Ca
      .rw[CA,I1,A0 hq];dsimp only;rw[yS,hl]at hk;split at hk
       .rename_i iB;rw[if_pos (by omega),O7];exact Sz k u hk
       .rename_i iB;have sD:=(bZ.1 hk).1;rw[if_neg (by omega),if_pos (by omega),<-hk];congr 1;omega
      .have r':=(hD.bx s' b' k).dS (w':=w.setRow (ρ s).b (aR cs.toList ((ρ s).o+lo*eT+len*eT) yd).toArray) (fun rr=>(cV.setRow w (ρ s).b _).block _ (hD.lt k rr) (by
        rw[rU];intro e;have k':=k;rw[AS.NQ]at k';split at k'
        .cases k'
        .obtain⟨b2,k2,rfl⟩:=eA.1 k';rw[AS.JN]at k2;split at k2
         .cases k2
         .rename_i cZ;exact cZ (hS.inj s' s b2 _ k2 tX rr hr e))) |>.1 r
       rw[AS.NQ]at k;split at k
       .cases k
       .obtain⟨b2,k2,rfl⟩:=eA.1 k;rw[AS.JN]at k2;split at k2
        .cases k2
        .rename_i cZ;exact cZ (hS.dZ s' s b2 _ _ k2 tX (KA.1 r') (xN hr))
     .have:=bN.vec (ρ:=iN ρ (.loc d 0) ⟨(ρ s).b,(ρ s).o+lo*eT,bc,true⟩) (m:=m) (.loc d 0) eT 0 (len+ys.length) bc (by rw[<-nI];exact eP) (by rw[CA];simp) (by rw[CA])
      rw[CA]at this;simpa using this
    .exact grow _ _ (xs.drop lo) bc od hD hN pU CI G5 (by omega) (by rw[nI];exact C6) (by rw[nI];exact b9) (by rw[nI];exact hK)
   .subst c0;rw[pU]at rM;have BV:xs.drop lo=[]:=List.eq_nil_of_length_eq_zero nI;rw[BV]at hK;simp only[rT,List.nil_append]at hK;exact empty _ a hD hN (by rw[pU,rM]) jM (by simpa using C6) (by simpa using b9) hK
  .exact h.elim
 .exact h.elim
theorem ZmN {t e n bytes:Nat}{i:TypeInfo}{z:PV}{c:Call}{x y:Operand}{x' y':bD}(hx:aW x=some x')(hy:aW y=some y')(he:eH P t=some (e,n,none))(hz:rW P e=some z)(hi:P.info? e=some i)(hb:i.bytes=bytes)(hn:0<n)(PC:z.cells.length=n)
  (hc:c.callee=.builtin .append) (ha:c.args.toList=[x,y]) (ht:c.argTypes.toList=[t,t]) (ho:o.op=.call c) (h:bY (.app e n bytes x' y') d K σ) (hS:Sat N w0 m0 pl σ ρ m act w):F5 (∃nl,σ.o x'=.pv (.emp nl)) P N w0 m0 pl o act w K:=by
 obtain⟨hu,hs⟩:=KN he;obtain⟨i2,N5,fG⟩:=Hb hs;rw[hi]at N5;cases N5;unfold rW at hz;cases hv:gX P e with
 |none=>simp[hv]at hz
 |some zv=>
 simp only[hv,Option.bind_some]at hz;obtain⟨zi,K4,BT⟩:=He hv;rw[hi]at K4;cases K4;have tS:zv.cells.size=n:=by have:=(TF hz m).1;omega
 cases PE:σ.cont (σ.o y') n with
 |none=>simp[bY,PE]at h
 |some ys=>
 obtain⟨ya,yc,yd,BU,C5,HK⟩:=Fy hn hS (hS.aW hy) PE;have vZ:∀w',(∀A,w'.cell? A=w.cell? A)->(Builtin.firstCells i.size ys.length (.slice ya ys.length yc)).run P w'=.ok yd.toArray w':=fun w' hw=>by
  rw[fG];exact ZfY C5 HK w' hw _ rfl _ yc
 refine Zlv (e:=e) (d:=d) hx hb hn fG tS C5 (fun ba L dN od pU y2 aI Df hf=>ZhT hc ha ht ho ?_) (fun g q L dN cur pU g1 hr hf=>ZhT hc ha ht ho ?_) (fun ba pU T1=>ZhT hc ha ht ho ?_) ?_ hS
 .rw[pU,BU];exact Zgo hu hi BT ba L dN ya ys.length yc od yd y2 vZ aI Df hf
 .rw[pU,BU];exact Zgn hu hi g q L dN cur g1 ya ys.length yc yd (vZ w (fun _=>rfl)) C5.one hr hf
 .subst T1;have hf:=vZ w (fun _=>rfl);have Jh:yd=[]:=List.eq_nil_of_length_eq_zero (by have:=C5.len;simpa using this);subst Jh;rw[pU,BU];simp only[List.length_nil]at hf ⊢;cases ba<;>simp[Builtin.append_,run_underlying hu,sizeOf,typeInfo,hi,Builtin.lenOf,hf,storeCells]
 .have T1:σ.cont (σ.o (.c (.aE false n ys))) n=some ys:=by simp[AS.o,AS.cont]
  simp only[bY,PE,T1]at h ⊢;exact h
end
section
variable {G:World->Prop}{P:Program}{N:Nat}{w0:World}{m0:Env w0}{pl:List Nat}{σ:AS}{ρ:Site->Loc}{m:Mem}{act:Act}{w:World}{o:Oper}{d:Nat}{K:AV->AS->Prop}
theorem Zss {t e n bytes:Nat}{i:TypeInfo}{z:PV}{l c:Operand}{l' c':bD}(hl:aW l=some l')(mD:aW c=some c')(he:eH P t=some (e,n,none))(hz:rW P e=some z)(hi:P.info? e=some i)(hb:i.bytes=bytes)(hn:0<n)(PC:z.cells.length=n)
  (ho:o.op=.makeSlice t l c) (h:bY (.UD e n bytes z l' c') d K σ) (hS:Sat N w0 m0 pl σ ρ m act w):oC P N w0 m0 pl o act w K:=by
 simp only[bY]at h;obtain⟨hu,hs⟩:=KN he;obtain⟨i2,N5,fG⟩:=Hb hs;rw[hi]at N5;cases N5;unfold rW at hz;cases hv:gX P e with
 |none=>simp[hv]at hz
 |some zv=>
 simp only[hv,Option.bind_some]at hz;obtain⟨zi,K4,BT⟩:=He hv;rw[hi]at K4;cases K4;obtain⟨z1,z2,z3⟩:=TF hz m;have tS:zv.cells.size=n:=by omega
 split at h
 .rename_i kl a kc b el ec;obtain⟨h0,h1,h2,h3,hK⟩:=h;have Ay:=hS.aW hl;have CV:=hS.aW mD;rw[el]at Ay;rw[ec]at CV;have Uy:(i.bytes:Int)*b<=1000*1000000:=Int.mul_le_mul (by omega) h2 (by omega) (by omega);have dF:=run_make (P:=P) w t e i zv hu hi BT kl kc a b h0 h1 (by omega) (by omega);rw[fG]at dF;have hr:(execOp act.eval o).run P w=.ok (.value (.slice (some ⟨w.heap.size,0,none⟩) a.toNat b.toNat)) (w.alloc (.cells (madeCells zv.cells (b.toNat*n)) e)):=by
   unfold execOp;simp only[ho,Ay.V8,CV.V8,Sem.run_bind,dF,Result.andThen_ok];rfl
  have kK:∀k,k<b.toNat*n->(madeCells zv.cells (b.toNat*n))[k]?=some (zv.cells[k%n]!):=fun k hk=>by
   simp only[madeCells,Array.getElem?_map,Array.getElem?_range,tS];rw[if_pos hk];rfl
  have hle:a.toNat*n<=b.toNat*n:=I2 _ (by omega);have N9:∀j,j<n->∃hj:j<zv.cells.size,zv.cells[j]! = zv.cells[j]:=fun j hj=>⟨by omega,getElem!_pos zv.cells j (by omega)⟩
  obtain⟨bW,k1,k2⟩:=(hS.bI d).Zxt (W:=w.alloc (.cells (madeCells zv.cells (b.toNat*n)) e)) (Ext.al _ _) (qT.bI d σ) hn (heap_alloc_new w _) (cap:=b.toNat) (xs:=List.replicate a.toNat z) (ds:=(List.range (a.toNat*n)).map fun k=>zv.cells[k%n]!) (by simp[madeCells]) (by simp;omega) (by simp only[maxLen];omega)
   ⟨by simp,fun u hu=>by
    obtain⟨k,_,rfl⟩:=iL.1 hu;obtain⟨hj,e1⟩:=N9 (k%n) (Nat.mod_lt _ hn);rw[e1];exact z2 _ (Array.getElem_mem hj),fun i x hx=>by
    rw[List.getElem?_replicate]at hx;split at hx
    .rename_i Uf;cases hx;refine⟨PC,fun j c hj=>?_⟩;have rO:j<n:=by have:=(bZ.1 hj).1;omega
     obtain⟨Z8,e1⟩:=N9 j rO;have yH:(i*n+j)%n=j:=by rw[Nat.add_comm,Nat.add_mul_mod_self_right,Nat.mod_eq_of_lt rO]
     have:=W6 (n:=n) Uf
     refine⟨zv.cells[j],?_,z3 j _ c (uT Z8) hj⟩;rw[bR,List.getElem?_range (by omega),uU,yH,e1]
    .cases hx⟩ (fun k u hk=>by
    rw[bR]at hk;obtain⟨k',e1,rfl⟩:=eA.1 hk;have aI:k<a.toNat*n:=by have:=(bZ.1 e1).1;simpa using this
    rw[List.getElem?_range aI]at e1;cases e1;exact kK k (by omega))
  rw[List.length_replicate]at k2;exact⟨_,_,_,_,bW,m,.inl hr,hK,k1,k2,fun _=>Ext.al _ _⟩
 .exact h.elim
theorem WC {x:Option Operand}{x':Option bD}(hx:(x=none/\x'=none)\/∃a a',x=some a/\x'=some a'/\aW a=some a')(hS:Sat N w0 m0 pl σ ρ m act w){z l:Int}(h:σ.ob x' z=some l):(x=none/\l=z)\/∃a k,x=some a/\act.eval a=.int k l:=by
 rcases hx with⟨rfl,rfl⟩|⟨a,a',rfl,rfl,ha⟩
 .simp[AS.ob]at h;exact .inl ⟨rfl,h.symm⟩
 .simp only[AS.ob]at h;split at h
  .rename_i k b e;cases h
   have:=hS.aW ha
   rw[e]at this;exact .inr ⟨a,k,rfl,this.V8⟩
  .cases h
theorem ZmG {t e n:Nat}{x:Operand}{x':bD}{lo hi:Option Operand}{UF xI:Option bD}(hx:aW x=some x')(he:eH P t=some (e,n,none))(lG:(lo=none/\UF=none)\/∃a a',lo=some a/\UF=some a'/\aW a=some a')(Bj:(hi=none/\xI=none)\/∃a a',hi=some a/\xI=some a'/\aW a=some a')
  (ho:o.op=.slice t x lo hi none) (h:bY (.J5 n none x' UF xI none) d K σ) (hS:Sat N w0 m0 pl σ ρ m act w):dB G P σ ρ m o act w K:=by
 simp only[bY]at h;obtain⟨hu,hs⟩:=KN he;have h1:=hS.aW hx;have run:∀(a:Option Addr) (len cap:Nat) (l h:Int),act.eval x=.slice a len cap->((lo=none/\l=0)\/∃b k,lo=some b/\act.eval b=.int k l)->((hi=none/\h=len)\/∃b k,hi=some b/\act.eval b=.int k h)->0<=l->l<=h->h<=len->len<=cap->
   ∀w',G w'->(execOp act.eval o).run P w'=.ok (.value (.slice (if cap=l.toNat then a else a.map (·.add (l.toNat*n))) (h.toNat-l.toNat) (cap-l.toNat))) w':=by
  intro a len cap l h e el eh l0 l1 l2 l3;intro w' bQ;unfold execOp;simp only[ho,e,Sem.run_bind];have hh:h<=cap:=by omega
  rcases el with⟨rfl,rfl⟩|⟨b,k,rfl,eb⟩<;>rcases eh with⟨rfl,rfl⟩|⟨b2,k2,rfl,Dq⟩
  .simp[Instr.sliceAt,run_underlying hu,Instr.slice,Instr.sliceBounds,run_sizeOf hs]
  .have h0:0<=h:=by omega
   simp[Instr.sliceAt,run_underlying hu,Instr.slice,Instr.sliceBounds,run_sizeOf hs,Dq,Instr.sliceBound,asIntOf,hh,h0]
  .have h0:l<=(len:Int):=l1;simp[Instr.sliceAt,run_underlying hu,Instr.slice,Instr.sliceBounds,run_sizeOf hs,eb,Instr.sliceBound,asIntOf,l0,h0]
  .have h0:0<=h:=by omega
   have h4:l<=(h.toNat:Int):=by omega
   simp[Instr.sliceAt,run_underlying hu,Instr.slice,Instr.sliceBounds,run_sizeOf hs,eb,Dq,Instr.sliceBound,asIntOf,l0,h0,hh];intro h5;omega
 split at h
 .rename_i l hl;have el:=WC lG hS hl;split at h
  .rename_i nn n' xs ex;rw[ex]at h1;obtain⟨a,cap,ds,hv,q0,q1,q2,q3,q5,q6,q7⟩:=h1.Ky;split at h
   .rename_i hh Bl;obtain⟨l0,l1,l2,rfl,hK⟩:=h;have eh:=WC Bj hS Bl;have hr:=run a xs.length cap l hh hv el eh l0 l1 l2 q0;have hlen:((xs.take hh.toNat).drop l.toNat).length=hh.toNat-l.toNat:=by rw[uG,gI];omega
    have get:∀i x,((xs.take hh.toNat).drop l.toNat)[i]?=some x->xs[l.toNat+i]?=some x:=fun i x hx=>by
     rw[mW,mG]at hx;split at hx
     .exact hx
     .cases hx
    refine .pure hS hr ?_ hK;rw[<-hlen];refine .pv _ _ (.aE _ _ nn n' _ (fun i=>ds (l.toNat+i)) (by rw[hlen];omega) (by omega) (fun e=>?_) (fun A hA=>?_) (fun e=>?_) (fun i x hx=>?_) (fun i x hx=>q6 _ x (get i x hx)) (fun i x j u c hx=>q7 _ x j u c (get i x hx)))
    .have:a=none:=by
      split at e
      .exact e
      .simpa using e
     have:=q2 this;omega
    .rfl
    .have cZ:a≠none:=by
      subst e;exact h1.ZxN hv
     split
     .exact cZ
     .cases a with
      |none=>exact absurd rfl cZ
      |some B=>simp
    .have rL:=get i x hx;obtain⟨b,q,ha,k1⟩:=q5 _ x rL;have aI:=(bZ.1 rL).1;refine⟨b,q+l.toNat*n',?_,?_⟩
     .rw[if_neg (by omega),ha,uU,NY]
     .rwa [show q+l.toNat*n'+i*n'=q+(l.toNat+i)*n' by rw[Nat.add_mul];omega]
   .exact h.elim
  .rename_i nl ex;rw[ex]at h1;split at h
   .rename_i hh Bl;obtain⟨rfl,rfl,hK⟩:=h;obtain⟨a,hv,_⟩:=h1.VX;have eh:=WC Bj hS Bl;have hr:=run a 0 0 0 0 hv el eh (by omega) (by omega) (by omega) (by omega);refine .pure hS hr ?_ hK;simp only[Int.toNat_zero,if_true];rw[hv]at h1;exact h1
   .exact h.elim
  .rename_i s n' OY len ex;rw[ex]at h1;split at h
   .rename_i hh Bl;obtain⟨l0,l1,l2,rfl,hK⟩:=h;have eh:=WC Bj hS Bl;rcases h1.DY with⟨cap,hv,c0,c1,c2⟩|⟨a,hv,c0,jM⟩
    .have hr:=run _ len cap l hh hv el eh l0 l1 l2 c0;refine .pure hS hr ?_ hK;split
     .rename_i hc;have e1:hh.toNat-l.toNat=0:=by omega
      have e2:cap-l.toNat=0:=by omega
      rw[e1,e2];exact .nE _ _ _ _ (fun A hA=>by cases hA;rfl)
     .simp only[uU,NY]
      have:=bN.vec (ρ:=ρ) (m:=m) s n' (OY+l.toNat) (hh.toNat-l.toNat) (cap-l.toNat) (by omega) (by omega) c2
      rwa [show(ρ s).o+(OY+l.toNat)*n'=(ρ s).o+OY*n'+l.toNat*n' by rw[Nat.add_mul];omega]at this
    .subst c0;have y5:l=0:=by omega
     have hh0:hh=0:=by omega
     subst y5 hh0;have hr:=run a 0 0 0 0 hv el eh (by omega) (by omega) (by omega) (by omega);refine .pure hS hr ?_ hK;simp only[Int.toNat_zero,if_true];exact .nE _ _ _ _ jM
   .exact h.elim
  .exact h.elim
 .exact h.elim
end
def qF:PV->Value
 |.int k n=>.int k n
 |.bool b=>.bool b
 |.str s=>.string s
 |_=>undef
def lE (wide:Bool)(l:List PV):Value:=if wide=true then .agg (l.map qF).toArray else qF (l.headD .eU)
theorem ZrD {m:Mem}{v:Value}{x:PV}{k:CK}(hx:k.ok x=true)(h:dG m v x):v=qF x:=by
 cases h<;>cases k<;>first|rfl|(simp[CK.ok]at hx)
theorem Hh:∀{ks:List CK} {cs:List PV},bV ks cs=true->ks.length=cs.length
 |[],[],_=>rfl
 |[],_::_,h=>by simp[bV]at h
 |_::_,[],h=>by simp[bV]at h
 |k::ks,c::cs,h=>by
  simp only[bV,dK]at h;simp[Hh h.2]
theorem Hg:∀{ks:List CK} {cs:List PV} {j:Nat} {c:PV},bV ks cs=true->cs[j]?=some c->∃k:CK,k.ok c=true
 |[],[],j,c,_,h=>by simp at h
 |[],_::_,j,c,h,_=>by simp[bV]at h
 |_::_,[],j,c,h,_=>by simp[bV]at h
 |k::ks,x::cs,j,c,h,hj=>by
  simp only[bV,dK]at h;cases j with
  |zero=>simp at hj;subst hj;exact⟨k,h.1⟩
  |succ j=>exact Hg h.2 (by simpa using hj)
theorem TC:∀{a b:List CK} {cs:List PV},bV (a++b) cs=true->bV a (cs.take a.length)=true/\bV b (cs.drop a.length)=true
 |[],b,cs,h=>by simpa[bV]using h
 |k::a,b,[],h=>by simp[bV]at h
 |k::a,b,c::cs,h=>by
  simp only[List.cons_append,bV,dK]at h;obtain⟨h1,h2⟩:=TC h.2;simp[bV,h.1,h1,h2]
theorem I6 {k:CK}{l:List PV}(h:bV [k] l=true):∃x,l=[x]/\k.ok x=true:=by
 match l with
 |[]=>simp[bV]at h
 |[x]=>simp[bV]at h;exact⟨x,rfl,h⟩
 |_::_::_=>simp[bV]at h
theorem NX {x:PV}(h:CK.bool.ok x=true):∃b,x=.bool b:=by cases x<;>simp[CK.ok]at h;exact⟨_,rfl⟩
theorem NV {k:IntKind}{x:PV}(h:(CK.int k).ok x=true):∃n,x=.int k n:=by cases x<;>simp[CK.ok]at h;subst h;exact⟨_,rfl⟩
theorem FO {x:PV}(h:CK.str.ok x=true):∃s,x=.str s:=by cases x<;>simp[CK.ok]at h;exact⟨_,rfl⟩
theorem Zn:∀{a b c d:List PV},a.length=b.length->lR (a++c) (b++d)=(lR a b&&lR c d)
 |[],[],c,d,_=>by simp[lR]
 |[],_::_,c,d,h=>by simp at h
 |_::_,[],c,d,h=>by simp at h
 |x::a,y::b,c,d,h=>by
  simp only[List.cons_append,lR];rw[Zn (by simpa using h),Bool.and_assoc]
theorem Zu2 {k:CK}{x y:PV}(hx:k.ok x=true)(hy:k.ok y=true)(h:wL x y=true):x=y:=by
 cases k with
 |int k=>obtain⟨a,rfl⟩:=NV hx;obtain⟨b,rfl⟩:=NV hy;simp[wL]at h;rw[h]
 |bool=>obtain⟨a,rfl⟩:=NX hx;obtain⟨b,rfl⟩:=NX hy;simp[wL]at h;rw[h]
 |str=>
  obtain⟨a,rfl⟩:=FO hx;obtain⟨b,rfl⟩:=FO hy;have h':a.toList=b.toList:=by simpa[wL]using h
  rw[ByteArray.toList_eq,ByteArray.toList_eq]at h';obtain⟨x⟩:=a;obtain⟨y⟩:=b;have e:x=y:=yU.1 h';rw[e]
theorem ZrN:∀{ks:List CK} {l l':List PV},bV ks l=true->bV ks l'=true->lR l l'=true->l=l'
 |[],[],[],_,_,_=>rfl
 |[],_::_,_,h,_,_=>by simp[bV]at h
 |[],[],_::_,_,h,_=>by simp[bV]at h
 |_::_,[],_,h,_,_=>by simp[bV]at h
 |_::_,_::_,[],_,h,_=>by simp[bV]at h
 |k::ks,x::l,y::l',h1,h2,h=>by
  simp only[bV,lR,dK]at h1 h2 h;rw[Zu2 h1.1 h2.1 h.1,ZrN h1.2 h2.2 h.2]
theorem Fc {m:Mem}{v:Value}{x:PV}{kt:KT}(hk:kt.ok x=true)(h:dG m v x):v=lE kt.wide x.cells/\bV kt.ks x.cells=true:=by
 cases h
 case agg vs cs h0 h1 h2=>
  simp only[KT.ok,dK]at hk;refine⟨?_,hk.2⟩;simp only[lE,hk.1,if_true,PV.cells];congr 1;refine Array.ext_getElem? (fun j=>?_);rw[show(List.map qF cs).toArray[j]?=(List.map qF cs)[j]? from I1 ..,bR];cases hc:cs[j]? with
  |none=>rw[Array.getElem?_eq_none (by rw[h0];exact List.getElem?_eq_none_iff.1 hc)];rfl
  |some c=>
   have hj:j<vs.size:=by rw[h0];exact(bZ.1 hc).1
   obtain⟨k,sD⟩:=Hg hk.2 hc;rw[uT hj,uU,ZrD sD (h2 j _ c (uT hj) hc)]
 all_goals
  simp only[KT.ok,dK,Bool.not_eq_true']at hk;obtain⟨hw,hc⟩:=hk;refine⟨?_,hc⟩;simp only[lE,hw,Bool.false_eq_true,if_false,PV.cells,List.headD_cons];obtain⟨k,sD⟩:=Hg hc (j:=0) rfl;exact ZrD (m:=m) sD (by first|exact .int _ _|exact .bool _|exact .str _|(cases k<;>simp[CK.ok]at sD))
def RX (g:TypeId->Option KT)(sz:TypeId->Nat):Nat->List Field->Option (List CK)
 |_,[]=>some []
 |o,f::r=>match g f.type,RX g sz (o+sz f.type) r with
  | some kf, some l => if f.offset = o /\ sz f.type = kf.ks.length /\ f.name ≠ "_" then some (kf.ks ++ l) else none
  |_,_=>none
def pP (P:Program):Nat->TypeId->Option KT
 |0,_=>none
 |d+1,t=>match P.underlying t with
  |some .bool=>some ⟨false,[.bool]⟩
  |some (.int k)=>some ⟨false,[.int k]⟩
  |some .string=>some ⟨false,[.str]⟩
  |some (.array n e)=>match pP P d e with
   |some ke=>if P.cellsOf e=ke.ks.length then some ⟨true,(List.replicate n ke.ks).flatten⟩else none
   |none=>none
  |some (.struct fs)=>if P.stoodInHeld t=false then(RX (pP P d) P.cellsOf 0 fs.toList).map (⟨true,·⟩)else none
  |_=>none
section
variable {P:Program}{w:World}
theorem Mq {d:Nat}{t:TypeId}{kt:KT}(h:pP P d t=some kt):∃i,P.info? t=some i:=by
 cases d with
 |zero=>simp[pP]at h
 |succ d=>
  cases hu:P.underlying t with
  |none=>simp[pP,hu]at h
  |some dd=>exact info_of_underlying hu
theorem XF {d:Nat}{e:TypeId}{ke:KT}(hk:pP P d e=some ke)(hs:P.cellsOf e=ke.ks.length){l:List PV}{off:Nat}(hl:bV ke.ks ((l.drop off).take ke.ks.length)=true)(w:World):
  (part e (l.map qF).toArray off).run P w=.ok (lE ke.wide ((l.drop off).take ke.ks.length)) w:=by
 obtain⟨i,hi⟩:=Mq hk;cases d with
 |zero=>simp[pP]at hk
 |succ d=>
  have plain:∀{k:CK} {dd:TypeDesc},P.underlying e=some dd->ke=⟨false,[k]⟩->(dd=.bool\/dd=.string\/∃q,dd=.int q)->(part e (l.map qF).toArray off).run P w=.ok (lE ke.wide ((l.drop off).take ke.ks.length)) w:=by
   intro k dd hu e1 IF;subst e1;obtain⟨x,hx,_⟩:=I6 hl;have kK:l[off]?=some x:=by
    have:((l.drop off).take 1)[0]?=some x:=by simp only[List.length_singleton]at hx;rw[hx];rfl
    rw[mG,if_pos (by omega),mW]at this;simpa using this
   have Bo:(l.map qF).toArray[off]?=some (qF x):=by rw[I1,bR,kK];rfl
   rw[hx];rcases IF with rfl|rfl|⟨q,rfl⟩<;>simp[part,isAgg,run_underlying hu,Bo,lE]<;>simp[kK]
  have wide:ke.wide=true->(∃n e',P.underlying e=some (.array n e'))\/(∃fs,P.underlying e=some (.struct fs))->(part e (l.map qF).toArray off).run P w=.ok (lE ke.wide ((l.drop off).take ke.ks.length)) w:=by
   intro hw hu;have hv:(l.map qF).toArray.extract off (off+P.cellsOf e)=(((l.drop off).take ke.ks.length).map qF).toArray:=by
    apply yU.1;rw[Array.toList_extract,hs];simp[List.extract,List.map_drop,List.map_take]
   simp only[lE,hw,if_true];rcases hu with⟨n,e',hu⟩|⟨fs,hu⟩<;>simp only[part,isAgg,Sem.run_bind,run_underlying hu,Result.andThen_ok,Sem.run_pure,if_true,Go.run_sizeOf w hi,hv]
  unfold pP at hk;split at hk
  .rename_i hu;cases hk;exact plain hu rfl (.inl rfl)
  .rename_i k hu;cases hk;exact plain hu rfl (.inr (.inr ⟨k,rfl⟩))
  .rename_i hu;cases hk;exact plain hu rfl (.inr (.inl rfl))
  .rename_i n e' hu;split at hk
   .split at hk
    .cases hk;exact wide rfl (.inl ⟨n,e',hu⟩)
    .cases hk
   .cases hk
  .rename_i fs hu;split at hk
   .obtain⟨ks,_,rfl⟩:=eA.1 hk;exact wide rfl (.inr ⟨fs,hu⟩)
   .cases hk
  .cases hk
theorem Mo {l:List PV}(h:bV [] l=true):l=[]:=by cases l with
 |nil=>rfl
 |cons=>simp[bV]at h
theorem ZeK {d dd:Nat}{e:TypeId}{ke:KT}(hk:pP P d e=some ke)(hs:P.cellsOf e=ke.ks.length)
  (IH:∀l l',bV ke.ks l=true->bV ke.ks l'=true->∀w,(Op.equalIn dd e (lE ke.wide l) (lE ke.wide l')).run P w=.ok (lR l l') w) (L L':List PV) (w:World):
  ∀(n i:Nat),bV (List.replicate n ke.ks).flatten (L.drop (i*ke.ks.length))=true->bV (List.replicate n ke.ks).flatten (L'.drop (i*ke.ks.length))=true->
   (Op.eqItems dd e (P.cellsOf e) (L.map qF).toArray (L'.map qF).toArray (List.range' i n)).run P w=.ok (lR (L.drop (i*ke.ks.length)) (L'.drop (i*ke.ks.length))) w
 |0,i,h1,h2=>by
  rw[Mo h1,Mo h2];simp[Op.eqItems,lR]
 |n+1,i,h1,h2=>by
  simp only[List.replicate_succ,List.flatten_cons]at h1 h2;obtain⟨a1,a2⟩:=TC h1;obtain⟨b1,b2⟩:=TC h2;have e1:i*ke.ks.length+ke.ks.length=(i+1)*ke.ks.length:=by rw[Nat.add_mul];omega
  rw[List.drop_drop,e1]at a2 b2;have hr:=ZeK hk hs IH L L' w n (i+1) a2 b2;have la:=Hh a1;have lb:=Hh b1;have jM:lR (L.drop (i*ke.ks.length)) (L'.drop (i*ke.ks.length))=(lR ((L.drop (i*ke.ks.length)).take ke.ks.length) ((L'.drop (i*ke.ks.length)).take ke.ks.length)&&lR (L.drop ((i+1)*ke.ks.length)) (L'.drop ((i+1)*ke.ks.length))):=by
   rw[<-Zn (by omega)];rw[<-e1,<-List.drop_drop,<-List.drop_drop,List.take_append_drop,List.take_append_drop]
  rw[jM];rw[hs]at hr ⊢;simp only[List.range'_succ,Op.eqItems,Sem.run_bind,XF hk hs a1,XF hk hs b1,IH _ _ a1 b1,Result.andThen_ok];cases lR ((L.drop (i*ke.ks.length)).take ke.ks.length) ((L'.drop (i*ke.ks.length)).take ke.ks.length)
  .simp
  .simpa using hr
theorem ZdK {d dd:Nat}(IH:∀(e:TypeId) (ke:KT),pP P d e=some ke->∀l l',bV ke.ks l=true->bV ke.ks l'=true->∀w,(Op.equalIn dd e (lE ke.wide l) (lE ke.wide l')).run P w=.ok (lR l l') w)(L L':List PV)(w:World):
  ∀(fs:List Field) (o:Nat) (ks:List CK),RX (pP P d) P.cellsOf o fs=some ks->bV ks (L.drop o)=true->bV ks (L'.drop o)=true->
   (Op.eqFields dd (L.map qF).toArray (L'.map qF).toArray fs).run P w=.ok (lR (L.drop o) (L'.drop o)) w
 |[],o,ks,h,h1,h2=>by
  simp[RX]at h;subst h;rw[Mo h1,Mo h2];simp[Op.eqFields,lR]
 |f::fs,o,ks,h,h1,h2=>by
  unfold RX at h;split at h
  .rename_i kf l hk EU;split at h
   .rename_i hc;obtain⟨c1,c2,c3⟩:=hc;cases h;obtain⟨a1,a2⟩:=TC h1;obtain⟨b1,b2⟩:=TC h2;rw[List.drop_drop,<-c2]at a2 b2;have hr:=ZdK IH L L' w fs _ l EU a2 b2;have la:=Hh a1;have lb:=Hh b1;have jM:lR (L.drop o) (L'.drop o)=(lR ((L.drop o).take kf.ks.length) ((L'.drop o).take kf.ks.length)&&lR (L.drop (o+P.cellsOf f.type)) (L'.drop (o+P.cellsOf f.type))):=by
     rw[<-Zn (by omega)];rw[c2,<-List.drop_drop,<-List.drop_drop,List.take_append_drop,List.take_append_drop]
    rw[jM];have p1:=XF hk c2 a1 w;have p2:=XF hk c2 b1 w;rw[<-c1]at p1 p2 a1 b1 ⊢;simp only[Op.eqFields,c3,ne_eq,not_false_eq_true,if_true,Sem.run_bind,p1,p2,IH _ _ hk _ _ a1 b1,Result.andThen_ok];rw[<-c1]at hr;cases lR ((L.drop f.offset).take kf.ks.length) ((L'.drop f.offset).take kf.ks.length)
    .simp
    .simpa using hr
   .cases h
  .cases h
theorem Nr:∀(d:Nat) (t:TypeId) (kt:KT),pP P d t=some kt->∀(e:Nat),d<=e->∀(l l':List PV),bV kt.ks l=true->bV kt.ks l'=true->∀w,(Op.equalIn e t (lE kt.wide l) (lE kt.wide l')).run P w=.ok (lR l l') w
 |0,t,kt,h,e,he,l,l',hl,lH,w=>by simp[pP]at h
 |d+1,t,kt,h,e,he,l,l',hl,lH,w=>by
  obtain⟨e',rfl⟩:∃e',e=e'+1:=⟨e-1,by omega⟩;unfold pP at h;split at h
  .rename_i hu;cases h;obtain⟨x,rfl,hx⟩:=I6 hl;obtain⟨y,rfl,hy⟩:=I6 lH;obtain⟨a,rfl⟩:=NX hx;obtain⟨b,rfl⟩:=NX hy
   have:=run_equalIn_bool w e' t a b hu
   simpa[lE,qF,lR,wL]using this
  .rename_i k hu;cases h;obtain⟨x,rfl,hx⟩:=I6 hl;obtain⟨y,rfl,hy⟩:=I6 lH;obtain⟨a,rfl⟩:=NV hx;obtain⟨b,rfl⟩:=NV hy
   have:=run_equalIn_int w e' t k k a b hu
   simpa[lE,qF,lR,wL]using this
  .rename_i hu;cases h;obtain⟨x,rfl,hx⟩:=I6 hl;obtain⟨y,rfl,hy⟩:=I6 lH;obtain⟨a,rfl⟩:=FO hx;obtain⟨b,rfl⟩:=FO hy
   have:=run_equalIn_string w e' t a b hu
   simpa[lE,qF,lR,wL]using this
  .rename_i n e0 hu;split at h
   .rename_i ke hk;split at h
    .rename_i hs;cases h;obtain⟨i,hi⟩:=Mq hk;simp only[lE,if_true];rw[run_equalIn_array w e' _ _ hu hi,List.range_eq_range']
     have:=ZeK hk hs (Nr d e0 ke hk e' (by omega)) l l' w n 0 (by simpa using hl) (by simpa using lH)
     simpa using this
    .cases h
   .cases h
  .rename_i fs hu;split at h
   .rename_i bQ;obtain⟨ks,hf,rfl⟩:=eA.1 h;have Br:P.fieldsOf t=fs:=by simp[Program.fieldsOf,hu]
    simp only[lE,if_true];rw[run_equalIn_struct w e' t _ _ (by rw[Br];exact hu) bQ,Br]
    have:=ZdK (dd:=e') (fun e0 ke hk=>Nr d e0 ke hk e' (by omega)) l l' w fs.toList 0 ks hf (by simpa using hl) (by simpa using lH)
    simpa using this
   .cases h
  .cases h
theorem ZgP {ks:List CK}:∀(n:Nat) (l:List PV),bV (List.replicate n ks).flatten l=true->∀j,j<n->bV ks ((l.drop (j*ks.length)).take ks.length)=true
 |0,l,h,j,hj=>by omega
 |n+1,l,h,j,hj=>by
  simp only[List.replicate_succ,List.flatten_cons]at h;obtain⟨a1,a2⟩:=TC h;cases j with
  |zero=>simpa using a1
  |succ j=>
   have:=ZgP n _ a2 j (by omega)
   rwa [List.drop_drop,show ks.length+j*ks.length=(j+1)*ks.length by rw[Nat.add_mul];omega]at this
theorem Zlg (d:Nat)(l:List PV):∀(fs:List Field) (o:Nat) (ks:List CK),RX (pP P d) P.cellsOf o fs=some ks->bV ks (l.drop o)=true->
  ∀ f ∈ fs, ∃ kf, pP P d f.type = some kf /\ P.cellsOf f.type = kf.ks.length /\ f.name ≠ "_" /\ bV kf.ks ((l.drop f.offset).take kf.ks.length) = true
 |[],o,ks,h,h1,f,hf=>by cases hf
 |g::fs,o,ks,h,h1,f,hf=>by
  unfold RX at h;split at h
  .rename_i kf l0 hk EU;split at h
   .rename_i hc;obtain⟨c1,c2,c3⟩:=hc;cases h;obtain⟨a1,a2⟩:=TC h1;rw[List.drop_drop,<-c2]at a2;rcases jQ.1 hf with rfl|hf
    .exact⟨kf,hk,c2,c3,by rw[c1];exact a1⟩
    .exact Zlg d l fs _ _ EU a2 f hf
   .cases h
  .cases h
theorem XQ (em:Bool):∀(d:Nat) (t:TypeId) (kt:KT),pP P d t=some kt->∀(e:Nat),d<=e->∀(l:List PV),bV kt.ks l=true->∀w,(Instr.checkKey em e t (lE kt.wide l)).run P w=.ok () w
 |0,t,kt,h,e,he,l,hl,w=>by simp[pP]at h
 |d+1,t,kt,h,e,he,l,hl,w=>by
  obtain⟨e',rfl⟩:∃e',e=e'+1:=⟨e-1,by omega⟩;unfold pP at h;split at h
  .rename_i hu;cases h;obtain⟨x,rfl,hx⟩:=I6 hl;obtain⟨a,rfl⟩:=NX hx;simp[lE,qF,Instr.checkKey,run_underlying hu]
  .rename_i k hu;cases h;obtain⟨x,rfl,hx⟩:=I6 hl;obtain⟨a,rfl⟩:=NV hx;simp[lE,qF,Instr.checkKey,run_underlying hu]
  .rename_i hu;cases h;obtain⟨x,rfl,hx⟩:=I6 hl;obtain⟨a,rfl⟩:=FO hx;simp[lE,qF,Instr.checkKey,run_underlying hu]
  .rename_i n e0 hu;split at h
   .rename_i ke hk;split at h
    .rename_i hs;cases h;obtain⟨i,hi⟩:=Mq hk;simp only[lE,if_true];rw[Instr.checkKey];simp only[Sem.run_bind,run_underlying hu,Result.andThen_ok];simp only[Std.Legacy.Range.forIn_eq_forIn_range',Std.Legacy.Range.size,Nat.sub_zero,Nat.add_one_sub_one,Nat.div_one];have each:∀j∈List.range' 0 n,bV ke.ks ((l.drop (j*ke.ks.length)).take ke.ks.length)=true:=fun j hj=>by
      rw[List.mem_range'_1]at hj;exact ZgP n l hl j (by omega)
     generalize List.range' 0 n=is at each;induction is with
     |nil=>simp
     |cons j is ih=>
      have a1:=each j (by simp);have p1:=XF hk hs a1 w;have p2:=XQ em d e0 ke hk e' (by omega) _ a1 w;simp only[List.forIn_cons,Sem.run_bind,Go.run_sizeOf w hi,Result.andThen_ok,hs,p1,p2,Sem.run_pure];exact ih (fun y hy=>each y (by simp[hy]))
    .cases h
   .cases h
  .rename_i fs hu;split at h
   .rename_i bQ;obtain⟨ks,hf,rfl⟩:=eA.1 h;simp only[lE,if_true];rw[Instr.checkKey];simp only[Sem.run_bind,run_underlying hu,Result.andThen_ok];rw[<-Array.forIn_toList];have each:=Zlg d l fs.toList 0 ks hf (by simpa using hl);clear hf h;generalize fs.toList=L at each;induction L with
    |nil=>simp
    |cons f L ih=>
     obtain⟨kf,hk,c2,c3,a1⟩:=each f (by simp);have p1:=XF hk c2 a1 w;simp only[List.forIn_cons,Sem.run_bind,c3,ne_eq,not_false_eq_true,if_true,Result.andThen_ok,p1,XQ em d f.type kf hk e' (by omega) _ a1 w,Sem.run_pure];exact ih (fun y hy=>each y (by simp[hy]))
   .cases h
  .cases h
end
def pM (P:Program):Op->Option W7
 |.binOp op t x y _=>match aW x,aW y,pP P 20 t with
  |some x,some y,some kt=>if(kt.wide=true/\P.eqGuardType P.depth t=false)\/kt=⟨false,[.str]⟩then match op with
    |.eql=>some (.eqv false kt x y)
    |.neq=>some (.eqv true kt x y)
    |_=>none
   else none
  |_,_,_=>none
 |.makeMap _ none=>some .G0
 |.lookup t x i ok=>match P.underlying t with
  |some (.map k e)=>match aW x,aW i,pP P 20 k,rW P e with
   |some x,some i,some kt,some z=>some (.look kt z ok x i)
   |_,_,_,_=>none
  |_=>none
 |.mapUpdate t x i v=>match P.underlying t with
  |some (.map k _)=>match aW x,aW i,aW v,pP P 20 k with
   |some x,some i,some v,some kt=>some (.iN kt x i v)
   |_,_,_,_=>none
  |_=>none
 |.insert t x i v=>match P.underlying t with
  |some (.map k _)=>match aW x,aW i,aW v,pP P 20 k with
   |some x,some i,some v,some kt=>some (.iN kt x i v)
   |_,_,_,_=>none
  |_=>none
 |.call c=>match c.callee with
  |.builtin .len=>match c.args.toList,c.argTypes.toList with
   |[x],[t]=>match aW x,P.underlying t with
    |some y,some (.map _ _)=>some (.BK y)
    |_,_=>none
   |_,_=>none
  |.builtin .copy=>match c.args.toList,c.argTypes.toList with
   |[x,y],[t,_]=>match aW x,aW y,eH P t with
    |some x,some y,some (_,n,none)=>if 0<n then some (.copy n x y)else none
    |_,_,_=>none
   |_,_=>none
  |.builtin .clear=>match c.args.toList,c.argTypes.toList with
   |[x],[t]=>match aW x,eH P t with
    |some x,some (e,n,none)=>match rW P e with
     |some z=>if 0<n/\z.cells.length=n then some (.clear n z x)else none
     |none=>none
    |_,_=>none
   |_,_=>none
  |_=>none
 |.slice t x none (some hi) none=>match aW x,aW hi,eH P t with
  |some x,some hi,some (_,1,some n)=>if 0<n/\n<=1000000 then some (.EM n x hi)else none
  |some x,some hi,some (_,W,some n)=>if 0<n/\n<=1000000 then some (.YG n W x hi)else none
  |_,_,_=>none
 |.slice t x none none none=>match aW x,eH P t with
  |some x,some (_,1,some n)=>if 0<n/\n<=1000000 then some (.EM n x (.c (.int .i64 n)))else none
  |_,_=>none
 |_=>none
def W7.still:W7->Bool
 |.eqv _ _ _ _=>true
 |.rE _=>true
 |.A5 _ _=>true
 |.TU _ _ _=>true
 |.rG _ _=>true
 |.sB _ _=>true
 |.LN _ _=>true
 |.KZ _ _ _=>true
 |_=>false
def W7.read:W7->Bool
 |.look _ _ _ _ _=>true
 |.BK _=>true
 |_=>false
def jU (k:PV):List (PV×PV)->Option Nat
 |[]=>none
 |(k',_)::r=>match gV k k' with
  |true=>some 0
  |false=>(jU k r).map (·+1)
theorem ZiF (k:PV):∀es:List (PV×PV),eX k es=(jU k es).bind fun j=>(es[j]?).map (·.2)
 |[]=>rfl
 |(k',v)::r=>by
  unfold eX jU;cases gV k k' with
  |true=>rfl
  |false=>
   rw[ZiF k r];cases jU k r<;>simp
theorem Zkz (k v:PV):∀es:List (PV×PV),mN k v es=match jU k es with
  |some j=>es.set j (k,v)
  |none=>es++[(k,v)]
 |[]=>rfl
 |(k',v')::r=>by
  unfold mN jU;cases gV k k' with
  |true=>rfl
  |false=>
   dsimp only;rw[Zkz k v r];cases jU k r<;>simp
theorem Yt {k:PV}:∀{es:List (PV×PV)} {j:Nat},jU k es=some j->∃p,es[j]?=some p/\gV k p.1=true
 |[],j,h=>by simp[jU]at h
 |(k',v)::r,j,h=>by
  unfold jU at h;cases he:gV k k' with
  |true=>rw[he]at h;cases h;exact⟨_,rfl,he⟩
  |false=>
   rw[he]at h;obtain⟨j',h1,rfl⟩:=eA.1 h;obtain⟨p,h2,h3⟩:=Yt h1;exact⟨p,by simpa using h2,h3⟩
def rX (kt:KT):List MapEntry->List (PV×PV)->Prop
 |[],[]=>True
 |e::r,p::q=>(e.key=lE kt.wide p.1.cells/\bV kt.ks p.1.cells=true)/\rX kt r q
 |_,_=>False
theorem rX.of {m:Mem}{kt:KT}:∀{fC:List MapEntry} {es:List (PV×PV)},fC.length=es.length->(∀(i:Nat) (e:MapEntry) (p:PV×PV),fC[i]?=some e->es[i]?=some p->dG m e.key p.1/\dG m e.val p.2)->zZ kt es=true->rX kt fC es
 |[],[],_,_,_=>trivial
 |[],_::_,h,_,_=>by simp at h
 |_::_,[],h,_,_=>by simp at h
 |e::r,p::q,h,h1,h2=>by
  simp only[zZ,List.all_cons,dK]at h2;exact⟨Fc h2.1 (h1 0 e p rfl rfl).1,rX.of (by simpa using h) (fun i e' p' k1 k2=>h1 (i+1) e' p' (by simpa using k1) (by simpa using k2)) h2.2⟩
theorem rX.get {kt:KT}:∀{fC:List MapEntry} {es:List (PV×PV)} {j:Nat} {p:PV×PV},rX kt fC es->es[j]?=some p->∃e,fC[j]?=some e/\e.key=lE kt.wide p.1.cells/\bV kt.ks p.1.cells=true
 |[],[],j,p,_,h=>by simp at h
 |[],_::_,j,p,h,_=>h.elim
 |_::_,[],j,p,h,_=>h.elim
 |e::r,p'::q,j,p,h,hj=>by
  cases j with
  |zero=>simp at hj;subst hj;exact⟨e,rfl,h.1⟩
  |succ j=>
   obtain⟨e',k1,k2⟩:=rX.get (j:=j) h.2 (by simpa using hj);exact⟨e',by simpa using k1,k2⟩
section
variable {P:Program}{w:World}
theorem Zkp {t:TypeId}{kt:KT}(hk:pP P 20 t=some kt){k:PV}(hl:bV kt.ks k.cells=true)(w:World):∀(fC:List MapEntry) (es:List (PV×PV)) (i:Nat),rX kt fC es->
  (Instr.findAsking t (lE kt.wide k.cells) fC i).run P w=.ok ((jU k es).bind fun j=>(fC[j]?).map fun e=>(i+j,e.val)) w
 |[],[],i,_=>by simp[Instr.findAsking,jU]
 |[],_::_,i,h=>h.elim
 |_::_,[],i,h=>h.elim
 |e::fC,p::es,i,h=>by
  obtain⟨⟨h1,h2⟩,h3⟩:=h;have hr:=Nr (w:=w) 20 t kt hk 10000 (by omega) k.cells p.1.cells hl h2;have ih:=Zkp hk hl w fC es (i+1) h3;simp only[Instr.findAsking,Sem.run_bind,h1,Op.equal,Op.maxDepth,hr,Result.andThen_ok];obtain⟨pk,pv⟩:=p;unfold jU gV;cases lR k.cells pk.cells with
  |true=>simp
  |false=>
   simp only[Bool.false_eq_true,if_false,ih];congr 1;cases jU k es with
   |none=>rfl
   |some j=>
    simp only[uU,Option.bind_some,List.getElem?_cons_succ];rw[show i+1+j=i+(j+1) by omega]
theorem ZnH {d:Nat}{t:TypeId}{kt:KT}(hk:pP P d t=some kt)(hw:kt.wide=false){dd:TypeDesc}(hu:P.underlying t=some dd){l l':List PV}(h1:bV kt.ks l=true)(h2:bV kt.ks l'=true):
  Instr.sameNow dd (lE kt.wide l) (lE kt.wide l')=some (lR l l'):=by
 cases d with
 |zero=>simp[pP]at hk
 |succ d=>
  unfold pP at hk;rw[hu]at hk;cases dd
  case bool=>
   cases hk;obtain⟨x,rfl,hx⟩:=I6 h1;obtain⟨y,rfl,hy⟩:=I6 h2;obtain⟨a,rfl⟩:=NX hx;obtain⟨b,rfl⟩:=NX hy;simp[lE,qF,Instr.sameNow,lR,wL]
  case int q=>
   cases hk;obtain⟨x,rfl,hx⟩:=I6 h1;obtain⟨y,rfl,hy⟩:=I6 h2;obtain⟨a,rfl⟩:=NV hx;obtain⟨b,rfl⟩:=NV hy;simp[lE,qF,Instr.sameNow,lR,wL]
  case string=>
   cases hk;obtain⟨x,rfl,hx⟩:=I6 h1;obtain⟨y,rfl,hy⟩:=I6 h2;obtain⟨a,rfl⟩:=FO hx;obtain⟨b,rfl⟩:=FO hy;simp[lE,qF,Instr.sameNow,lR,wL,beq_toListBytes]
  case array n e=>
   simp only at hk;split at hk
   .split at hk
    .cases hk;cases hw
    .cases hk
   .cases hk
  case struct fs=>
   simp only at hk;split at hk
   .obtain⟨ks,_,rfl⟩:=eA.1 hk;cases hw
   .cases hk
  all_goals (cases hk)
theorem Zd5 {t:TypeId}{kt:KT}(hk:pP P 20 t=some kt)(hw:kt.wide=false){dd:TypeDesc}(hu:P.underlying t=some dd){k:PV}(hl:bV kt.ks k.cells=true):∀(fC:List MapEntry) (es:List (PV×PV)) (i:Nat),rX kt fC es->
  Instr.findNow dd (lE kt.wide k.cells) fC i=some ((jU k es).bind fun j=>(fC[j]?).map fun e=>(i+j,e.val))
 |[],[],i,_=>by simp[Instr.findNow,jU]
 |[],_::_,i,h=>h.elim
 |_::_,[],i,h=>h.elim
 |e::fC,p::es,i,h=>by
  obtain⟨⟨h1,h2⟩,h3⟩:=h;have ih:=Zd5 hk hw hu hl fC es (i+1) h3;simp only[Instr.findNow,h1,ZnH hk hw hu hl h2];obtain⟨pk,pv⟩:=p;unfold jU gV;cases lR k.cells pk.cells with
  |true=>simp
  |false=>
   simp only[ih];congr 1;cases jU k es with
   |none=>rfl
   |some j=>
    simp only[uU,Option.bind_some,List.getElem?_cons_succ];rw[show i+1+j=i+(j+1) by omega]
theorem Zg8 {t:TypeId}{kt:KT}(hk:pP P 20 t=some kt){k:PV}(hl:bV kt.ks k.cells=true)(w:World){fC:List MapEntry}{es:List (PV×PV)}(h:rX kt fC es):
  (Instr.findKey t (lE kt.wide k.cells) fC).run P w=.ok ((jU k es).bind fun j=>(fC[j]?).map fun e=>(j,e.val)) w:=by
 obtain⟨i,hi⟩:=Mq hk;cases hu:P.underlying t with
 |none=>rw[pP,hu]at hk;cases hk
 |some dd=>
  cases hw:kt.wide with
  |false=>
   have:=Zd5 hk hw hu hl fC es 0 h
   rw[hw]at this;simp only[Instr.findKey,Sem.run_bind,run_underlying hu,Result.andThen_ok,this,rT,Sem.run_pure]
  |true=>
   have ha:=Zkp hk hl w fC es 0 h;rw[hw]at ha;simp only[rT]at ha;simp only[Instr.findKey,Sem.run_bind,run_underlying hu,Result.andThen_ok];cases fC with
   |nil=>
    cases es with
    |nil=>simp[Instr.findNow,jU]
    |cons=>exact h.elim
   |cons e r=>
    have hn:Instr.findNow dd (lE true k.cells) (e::r) 0=none:=by
     simp only[Instr.findNow,lE,if_true];cases dd<;>rfl
    rw[hn];exact ha
theorem ZeJ {k:CK}{x:PV}(h:k.ok x=true)(n:Nat):Instr.sameBits n (qF x) (qF x)=true:=by
 cases k with
 |int k=>obtain⟨a,rfl⟩:=NV h;simp[qF,Instr.sameBits]
 |bool=>obtain⟨a,rfl⟩:=NX h;simp[qF,Instr.sameBits]
 |str=>obtain⟨a,rfl⟩:=FO h;simp[qF,Instr.sameBits,beq_toListBytes]
theorem ZlJ {kt:KT}{x:PV}(hx:kt.ok x=true)(w:World):(Instr.keyThatStays (lE kt.wide x.cells) (lE kt.wide x.cells)).run P w=.ok (lE kt.wide x.cells) w:=by
 have hs:Instr.sameBits 10000 (lE kt.wide x.cells) (lE kt.wide x.cells)=true:=by
  cases hw:kt.wide with
  |true=>
   have eS:bV kt.ks x.cells=true:=by
    cases x<;>simp_all [KT.ok,PV.cells]
   simp only[lE,if_true,Instr.sameBits,yT,BEq.rfl,Bool.true_and,qZ,List.zip_map',iL];intro q hq;obtain⟨c,hc,rfl⟩:=hq;obtain⟨j,hj⟩:=iM.1 hc;obtain⟨k,hk⟩:=Hg eS hj;exact ZeJ hk _
  |false=>
   have eS:∃k:CK,k.ok (x.cells.headD .eU)=true:=by
    have:bV kt.ks [x]=true/\x.cells=[x]:=by cases x<;>simp_all [KT.ok,PV.cells]
    rw[this.2];exact Hg this.1 (j:=0) rfl
   obtain⟨k,hk⟩:=eS;exact ZeJ hk _
 simp[Instr.keyThatStays,hs]
end
section
variable {P:Program}{N:Nat}{w0:World}{m0:Env w0}{pl:List Nat}{σ:AS}{ρ:Site->Loc}{m:Mem}{act:Act}{w:World}{o:Oper}{d:Nat}{K:AV->AS->Prop}
theorem Zig (w:World)(l:Nat)(o:Obj):cV [l] w (w.putObj l o):=⟨rfl,rfl,rfl,by simp,fun k hk hn=>World.putObj_heap_other (by simpa using hn)⟩
theorem bN.Xd {v:Value}{s:Site}(h:bN ρ m v (.mp s)):v=.map (some (ρ s).b):=by cases h;rfl
theorem bN.ZwA {v:Value}(h:bN ρ m v (.pv .cR)):v=.map none:=by
 cases h with
 |pv _ _ h=>cases h;rfl
theorem Zoh {G:World->Prop}{op:BinOp}{t u:TypeId}{x y:Operand}{x' y':bD}{kt:KT}{neg:Bool}(hx:aW x=some x')(hy:aW y=some y')(hk:pP P 20 t=some kt)(hc:(kt.wide=true/\P.eqGuardType P.depth t=false)\/kt=⟨false,[.str]⟩)
  (hop:op=.eql/\neg=false\/op=.neq/\neg=true) (ho:o.op=.binOp op t x y u) (h:cD (.eqv neg kt x' y') d K σ) (hS:Sat N w0 m0 pl σ ρ m act w):dB G P σ ρ m o act w K:=by
 simp only[cD]at h;have h1:=hS.aW hx;have h2:=hS.aW hy;split at h
 .rename_i a b ea eb;obtain⟨ha,hb,hK⟩:=h;rw[ea]at h1;rw[eb]at h2;obtain⟨v1,c1⟩:=Fc ha h1.nJ;obtain⟨v2,c2⟩:=Fc hb h2.nJ;refine .pure hS (v:=.bool (gV a b != neg)) ?_ (.pv _ _ (.bool _)) hK;intro w' _;unfold execOp;simp only[ho,v1,v2];rcases hc with⟨hw,hg⟩|hc
  .have he:=Nr (w:=w') 20 t kt hk 10000 (by omega) _ _ c1 c2;simp only[lE,hw,if_true]at he ⊢;rcases hop with⟨rfl,rfl⟩|⟨rfl,rfl⟩
   .simp only[Sem.run_bind,run_eqGuard_agg w' _ t x y _ _ hg,Result.andThen_ok,run_eql_struct,he,Sem.run_pure];simp[gV]
   .simp only[Sem.run_bind,run_eqGuard_agg w' _ t x y _ _ hg,Result.andThen_ok,run_neq_struct,he,Sem.run_pure];simp[gV]
  .subst hc;obtain⟨x1,e1,Z1⟩:=I6 c1;obtain⟨x2,e2,Ru⟩:=I6 c2;obtain⟨s1,rfl⟩:=FO Z1;obtain⟨s2,rfl⟩:=FO Ru;simp only[gV,e1,e2,lE,Bool.false_eq_true,if_false,List.headD_cons,qF,lR,wL,Bool.and_true];rcases hop with⟨rfl,rfl⟩|⟨rfl,rfl⟩<;>simp[eqGuard,binOp,Op.stringOp]
 .exact h.elim
theorem Zte {t:TypeId}(ho:o.op=.makeMap t none)(h:cD .G0 d K σ)(hS:Sat N w0 m0 pl σ ρ m act w):oC P N w0 m0 pl o act w K:=by
 have hr:(execOp act.eval o).run P w=.ok (.value (.map (some w.heap.size))) (w.alloc (.map #[] 0)):=by
  unfold execOp;simp[ho,Instr.makeMap]
 have hu:=R9 ρ (.loc d 0) ⟨w.heap.size,0,0,true⟩;have hp:=hS.bI d;refine⟨_,_,.mp (.loc d 0),_,iN ρ (.loc d 0) ⟨w.heap.size,0,0,true⟩,m,.inl hr,h,(hp.ext (Ext.al w _)).add (qT.bI d σ) ⟨by rw[hu],#[],0,by rw[hu];exact World.alloc_heap_new w _,rfl,fun i e p k=>by simp at k⟩ (fun _ s b k r=>?_) (fun _ o=>hp.Eu (fE _) o) (fun _=>.inl hp.keep.size),?_,fun _=>Ext.al _ _⟩
 .have hx:Ext w (w.alloc (.map #[] 0)):=Ext.al w _
  have:=hp.G2 k (((hp.bx s b k).dS (fun r=>hx.block _ (hp.lt k r))).1 r)
  simp at this
 .have:=bN.mp (ρ:=iN ρ (.loc d 0) ⟨w.heap.size,0,0,true⟩) (m:=m) (.loc d 0)
  rw[hu]at this;exact this
theorem Hd {e:TypeId}{z:PV}(h:rW P e=some z)(w:World)(m:Mem):∃v,(zeroValue e).run P w=.ok v w/\dG m v z:=by
 unfold rW at h;cases hv:gX P e with
 |none=>simp[hv]at h
 |some zv=>
  simp only[hv,Option.bind_some]at h;refine⟨zv,KM hv w,?_⟩;unfold YS at h;split at h
  .rename_i cs;obtain⟨xs,k1,rfl⟩:=eA.1 h;obtain⟨k2,k3⟩:=Yz (m:=m) k1;obtain⟨_,z2,_⟩:=TF (v:=.agg cs) (x:=.agg xs) (by unfold YS;exact eA.2 ⟨xs,k1,rfl⟩) m;exact .agg cs xs (by simpa using k2) (fun d hd=>z2 d (by simpa[Value.cells]using hd)) (fun j d c h1 h2=>k3 j d c (by simpa using h1) h2)
  .exact Lx h m
theorem Zp8 {t k e:TypeId}{x i:Operand}{x' i':bD}{kt:KT}{z:PV}{ok:Bool}(hx:aW x=some x')(hi:aW i=some i')(hu:P.underlying t=some (.map k e))(hk:pP P 20 k=some kt)(hz:rW P e=some z)
  (ho:o.op=.lookup t x i ok) (h:cD (.look kt z ok x' i') d K σ) (hS:Sat N w0 m0 pl σ ρ m act w):dB (fW σ ρ m w) P σ ρ m o act w K:=by
 simp only[cD]at h;have h1:=hS.aW hx;have h2:=hS.aW hi;split at h
 .rename_i key ei;obtain⟨cU,h⟩:=h;rw[ei]at h2;obtain⟨v2,c2⟩:=Fc cU h2.nJ;split at h
  .rename_i s ex;rw[ex]at h1;split at h
   .rename_i es hb;obtain⟨q8,hK⟩:=h;obtain⟨hr,fC,clock,g1,g2,g3⟩:=hS.bx s _ hb;have hE:rX kt fC.toList es:=rX.of (m:=m) (by simpa using g2) (fun i e p k1 k2=>g3 i e p (by simpa using k1) k2) q8;obtain⟨zv,_,MA⟩:=Hd hz w m;have Jf:∀w',(zeroValue e).run P w'=.ok zv w':=fun w'=>by
     obtain⟨v',q1,_⟩:=Hd hz w' m;obtain⟨v'',q2,_⟩:=Hd hz w m;unfold rW at hz;cases hv:gX P e with
     |none=>simp[hv]at hz
     |some zz=>
      have a1:=KM hv w;have a2:=KM hv w';rw[‹(zeroValue e).run P w=.ok zv w›]at a1;cases a1;exact a2
    have kr:∀w',fW σ ρ m w w'->(execOp act.eval o).run P w'=.ok (.value (let r:=(jU key es).bind fun j=>(fC.toList[j]?).map fun e=>(j,e.val);let p:Value×Bool:=match r with
      |some (_,v)=>(v,true)
      |none=>(zv,false);if ok=true then .tuple #[p.1,.bool p.2]else p.1)) w':=by
     intro w' bQ;have nO:w'.heap[(ρ s).b]?=some (.map fC clock):=(bQ.2 s _ hb hr).trans g1;unfold execOp;simp only[ho,v2,h1.Xd,Sem.run_bind,Instr.lookup,run_underlying hu,Result.andThen_ok,MapKept.run_getObj_map nO,Sem.run_pure,XQ _ 20 k kt hk 10000 (by omega) _ c2 w',Zg8 hk c2 w' hE];cases(jU key es).bind fun j=>(fC.toList[j]?).map fun e=>(j,e.val)with
     |none=>cases ok<;>simp[Jf w']
     |some q=>cases ok<;>simp
    refine⟨_,gK ok (eX key es) z,kr,?_,hK⟩;rw[ZiF];cases Be:jU key es with
    |none=>
     simp only[Option.bind_none];cases ok with
     |true=>exact .pv _ _ (.bM _ _ rfl (fun j dd c e1 e2=>by
       match j with
       |0=>simp at e1 e2;subst e1 e2;exact MA
       |1=>simp at e1 e2;subst e1 e2;exact .bool _
       |j+2=>simp at e2))
     |false=>exact .pv _ _ MA
    |some j=>
     obtain⟨p,hp,_⟩:=Yt Be;obtain⟨en,he,_⟩:=hE.get hp;have hv:=(g3 j en p (by simpa using he) hp).2;simp only[Option.bind_some,he,hp,uU];cases ok with
     |true=>exact .pv _ _ (.bM _ _ rfl (fun j dd c e1 e2=>by
       match j with
       |0=>simp at e1 e2;subst e1 e2;exact hv
       |1=>simp at e1 e2;subst e1 e2;exact .bool _
       |j+2=>simp at e2))
     |false=>exact .pv _ _ hv
   .exact h.elim
  .rename_i ex;rw[ex]at h1;obtain⟨zv,Rr,MA⟩:=Hd hz w m;have kr:∀w',(execOp act.eval o).run P w'=.ok (.value (if ok=true then .tuple #[zv,.bool false]else zv)) w':=by
    intro w';have a2:(zeroValue e).run P w'=.ok zv w':=by
     unfold rW at hz;cases hv:gX P e with
     |none=>simp[hv]at hz
     |some zz=>
      have a1:=KM hv w;rw[Rr]at a1;cases a1;exact KM hv w'
    have hn:∀w',(Instr.findKey k (lE kt.wide key.cells) []).run P w'=.ok none w':=fun w'=>by
     have:=Zg8 (fC:=[]) (es:=[]) hk c2 w' trivial
     simpa[jU]using this
    unfold execOp;simp only[ho,v2,h1.ZwA,Sem.run_bind,Instr.lookup,run_underlying hu,Result.andThen_ok,Sem.run_pure,XQ _ 20 k kt hk 10000 (by omega) _ c2 w',hn w'];cases ok<;>simp[a2]
   refine⟨_,gK ok none z,fun w' _=>kr w',?_,h⟩;cases ok with
   |true=>exact .pv _ _ (.bM _ _ rfl (fun j dd c e1 e2=>by
     match j with
     |0=>simp at e1 e2;subst e1 e2;exact MA
     |1=>simp at e1 e2;subst e1 e2;exact .bool _
     |j+2=>simp at e2))
   |false=>exact .pv _ _ MA
  .exact h.elim
 .exact h.elim
theorem Zmm {t k e:TypeId}{x i v:Operand}{x' i' v':bD}{kt:KT}(hx:aW x=some x')(hi:aW i=some i')(hv:aW v=some v')(hu:P.underlying t=some (.map k e))(hk:pP P 20 k=some kt)
  (ho:o.op=.mapUpdate t x i v\/o.op=.insert t x i v) (h:cD (.iN kt x' i' v') d K σ) (hS:Sat N w0 m0 pl σ ρ m act w):oC P N w0 m0 pl o act w K:=by
 simp only[cD]at h;have h1:=hS.aW hx;have h2:=hS.aW hi;split at h
 .rename_i key ei;obtain⟨cU,h⟩:=h;rw[ei]at h2;obtain⟨v2,c2⟩:=Fc cU h2.nJ;split at h
  .rename_i s ex;rw[ex]at h1;obtain⟨m1,G7,hF⟩:=hS.wX (σ.o v');generalize HI:σ.wX (σ.o v')=τ at h hF;split at h
   .rename_i es val hb hvv;obtain⟨q8,hK⟩:=h;have h3:=hF.aW hv;rw[hvv]at h3;have hvr:=h3.nJ;have hkr:dG m1 (act.eval i) key:=h2.nJ.mono G7;obtain⟨hr,fC,clock,g1,g2,g3⟩:=hF.bx s _ hb;have hE:rX kt fC.toList es:=rX.of (m:=m1) (by simpa using g2) (fun i e p k1 k2=>g3 i e p (by simpa using k1) k2) q8;have fin:∀zQ E9,(Instr.mapUpdate t (.map (some (ρ s).b)) (act.eval i) (act.eval v)).run P w=.ok () (w.putObj (ρ s).b (.map zQ E9))->zQ.size=(mN key val es).length->
      (∀(j:Nat) (e:MapEntry) (p:PV×PV),zQ[j]?=some e->(mN key val es)[j]?=some p->dG m1 e.key p.1/\dG m1 e.val p.2)->oC P N w0 m0 pl o act w K:=by
     intro zQ E9 dF e1 e2;have wC:(execOp act.eval o).run P w=.ok .skip (w.putObj (ρ s).b (.map zQ E9)):=by
      unfold execOp;rcases ho with ho|ho<;>simp only[ho,h1.Xd,Sem.run_bind,dF,Result.andThen_ok,Sem.run_pure]
     refine⟨undef,_,.any,_,ρ,m1,.inr ⟨wC,rfl⟩,hK,hF.Ey hb hr (Zig w _ _) ⟨hr,zQ,E9,World.putObj_heap_same (qD.1 g1).1,e1,e2⟩,.any _,fun hm=>?_⟩;rcases ho with ho|ho<;>(rw[ho]at hm;cases hm)
    rw[Zkz]at fin;have dX:=Zg8 hk c2 w hE;cases Be:jU key es with
    |none=>
     rw[Be]at fin dX;simp only[Option.bind_none]at dX;refine fin (fC.push { key:=act.eval i,val:=act.eval v,born:=clock }) (clock+1) ?_ (by simp[g2]) (fun j en p k1 k2=>?_)
     .simp only[Instr.mapUpdate,Sem.run_bind,run_underlying hu,Result.andThen_ok,MapKept.run_getObj_map g1,v2,XQ _ 20 k kt hk 10000 (by omega) _ c2 w,dX,MapKept.run_setObj_map _ g1];rfl
     .rw[Array.getElem?_push]at k1;dsimp only at k2;rw[yS]at k2;split at k1
      .rename_i hj;cases k1;rw[if_neg (by omega)]at k2
       have:p=(key,val):=by
        rw[hj,g2,Nat.sub_self]at k2;simpa using k2.symm
       subst this;exact⟨hkr,hvr⟩
      .have hj:=(qD.1 k1).1;rw[if_pos (by omega)]at k2;exact g3 j en p k1 k2
    |some j0=>
     rw[Be]at fin dX;obtain⟨p0,CH,T6⟩:=Yt Be;obtain⟨en0,he0,QH,Uu⟩:=hE.get CH;have Bz:fC[j0]?=some en0:=by simpa using he0
     simp only[Option.bind_some,he0,uU]at dX;have wB:en0.key=act.eval i:=by
      rw[QH,v2];rw[ZrN c2 Uu T6]
     have bQ:=ZlJ (P:=P) cU w;refine fin (fC.modify j0 fun e=>{ e with key:=act.eval i,val:=act.eval v }) clock ?_ (by simp[g2]) (fun j en p k1 k2=>?_)
     .rw[<-v2]at bQ dX;have MP:=XQ (P:=P) false 20 k kt hk 10000 (by omega) _ c2 w;rw[<-v2]at MP;simp only[Instr.mapUpdate,Sem.run_bind,run_underlying hu,Result.andThen_ok,MapKept.run_getObj_map g1,MP,dX,Bz,uU,rS,wB,bQ,MapKept.run_setObj_map _ g1];rfl
     .rw[Array.getElem?_modify]at k1;dsimp only at k2;split at k1
      .rename_i hj;subst hj;rw[Bz,uU]at k1;cases k1;have aI:=(bZ.1 CH).1;rw[O6 aI]at k2;cases k2;exact⟨hkr,hvr⟩
      .rename_i hj;rw[List.getElem?_set_ne hj]at k2;exact g3 j en p k1 k2
   .exact h.elim
  .exact h.elim
 .exact h.elim
theorem ZpZ {t k e:TypeId}{c:Call}{x:Operand}{x':bD}(hx:aW x=some x')(hu:P.underlying t=some (.map k e))(hc:c.callee=.builtin .len)(ha:c.args.toList=[x])(ht:c.argTypes.toList=[t])(ho:o.op=.call c)
  (h:cD (.BK x') d K σ) (hS:Sat N w0 m0 pl σ ρ m act w):dB (fW σ ρ m w) P σ ρ m o act w K:=by
 simp only[cD]at h;have h1:=hS.aW hx;have fY:c.args=#[x]:=yU.1 (by simpa using ha);have sM:c.argTypes=#[t]:=yU.1 (by simpa using ht);have ex:∀{w':World} {v:Value},(Builtin.len_ #[t] o.type #[act.eval x]).run P w'=.ok v w'->(execOp act.eval o).run P w'=.ok (.value v) w':=fun h=>by
  unfold execOp;simp only[ho];simp[resolve,hc,fY,sM,invoke,builtin,h]
 split at h
 .rename_i s We;rw[We]at h1;split at h
  .rename_i es hb;obtain⟨hr,fC,clock,g1,g2,g3⟩:=hS.bx s _ hb;refine⟨.int .i64 es.length,_,fun w' bQ=>ex ?_,.pv _ _ (.int _ _),h⟩;have nO:w'.heap[(ρ s).b]?=some (.map fC clock):=(bQ.2 s _ hb hr).trans g1;simp[Builtin.len_,run_underlying hu,h1.Xd,MapKept.run_getObj_map nO,goInt,g2]
  .exact h.elim
 .rename_i We;rw[We]at h1;refine⟨.int .i64 0,_,fun w' _=>ex ?_,.pv _ _ (.int _ _),h⟩;simp[Builtin.len_,run_underlying hu,h1.ZwA,goInt]
 .exact h.elim
theorem Flat.take {m:Mem}{ds:List Value}{n:Nat}{xs:List PV}(h:Flat m ds n xs)(k:Nat):Flat m (ds.take (k*n)) n (xs.take k):=by
 refine⟨?_,fun u hu=>h.one u (List.mem_of_mem_take hu),fun i x hi=>?_⟩
 .rw[gI,gI,h.len];rcases Nat.le_total k xs.length with h1|h1
  .rw[Nat.min_eq_left (I2 _ h1),Nat.min_eq_left h1]
  .rw[Nat.min_eq_right (I2 _ h1),Nat.min_eq_right h1]
 .rw[mG]at hi;split at hi
  .rename_i qM;obtain⟨k1,k2⟩:=h.get i x hi;refine⟨k1,fun j c hj=>?_⟩;obtain⟨u,q1,q2⟩:=k2 j c hj;have rO:j<n:=by have:=(bZ.1 hj).1;omega
   have:=W6 (n:=n) qM
   exact⟨u,by rw[mG,if_pos (by omega)];exact q1,q2⟩
  .cases hi
theorem Sat.over (hS:Sat N w0 m0 pl σ ρ m act w){s:Site}{e n lo:Nat}{xs zs:List PV}{ds:List Value}(hb:σ.b s=some (.arr e n xs))(hr:(ρ s).real=true){cs:Array Value}(g1:w.heap[(ρ s).b]?=some (.cells cs e (0,0)))(hf:Flat m ds n zs)(hl:lo+zs.length<=xs.length):
  (ρ s).o+lo*n+ds.length<=cs.size/\Sat N w0 m0 pl (σ.set s (.arr e n (aR xs lo zs))) ρ m act (w.setRow (ρ s).b (aR cs.toList ((ρ s).o+lo*n) ds).toArray):=by
 obtain⟨hn,hB|⟨_,iK,Dk,g2,g3,g4,g5⟩⟩:=hS.bx s _ hb
 .rw[hB.1]at hr;cases hr
 rw[g1]at Dk;cases Dk;have gS:cs.toList.length=cs.size:=uV;have dE:(ρ s).o+lo*n+ds.length<=cs.size:=by
  have h1:(lo+zs.length)*n<=(ρ s).cap*n:=I2 _ (by omega);rw[Nat.add_mul]at h1;rw[hf.len];omega
 refine⟨dE,hS.Ey hb hr (cV.setRow w _ _) ⟨hn,.inr ⟨hr,_,setRow_heap w _ cs _ e _ g1,?_,?_,g4,fun i x hi=>?_⟩⟩⟩
 .rw[yT,W3 (by rw[gS];exact dE),gS];exact g2
 .rw[W3 hl];exact g3
 .rw[A0 hl]at hi;have old:∀(i:Nat) (x:PV),xs[i]?=some x->(i<lo\/lo+zs.length<=i)->x.cells.length=n/\∀(j:Nat) (c:PV),x.cells[j]?=some c->∃d,(aR cs.toList ((ρ s).o+lo*n) ds).toArray[(ρ s).o+i*n+j]?=some d/\d.oneCell'=true/\dG m d c:=by
   intro i x hx hi;obtain⟨k1,k2⟩:=g5 i x hx;refine⟨k1,fun j c hj=>?_⟩;obtain⟨d,q1,q2,q3⟩:=k2 j c hj;refine⟨d,?_,q2,q3⟩;have rO:j<n:=by have:=(bZ.1 hj).1;omega
   rw[I1,A0 (by rw[gS];exact dE)];rcases hi with hi|hi
   .have:=W6 (n:=n) hi
    rw[if_pos (by omega),O7];exact q1
   .have h1:(lo+zs.length)*n<=i*n:=I2 _ hi;rw[Nat.add_mul]at h1;rw[if_neg (by omega),if_neg (by rw[hf.len];omega),O7];exact q1
  split at hi
  .rename_i h1;exact old i x hi (.inl h1)
  .split at hi
   .rename_i h1 h2;obtain⟨k1,k2⟩:=hf.get (i-lo) x hi;refine⟨k1,fun j c hj=>?_⟩;obtain⟨u,q1,q2⟩:=k2 j c hj;have aI:=(bZ.1 q1).1;have e1:i*n=lo*n+(i-lo)*n:=by rw[<-Nat.add_mul];congr 1;omega
    refine⟨u,?_,hf.one u (dL q1),q2⟩;rw[I1,A0 (by rw[gS];exact dE),if_neg (by omega),if_pos (by omega),<-q1];congr 1;omega
   .rename_i h1 h2;exact old i x hi (.inr (by omega))
theorem ZkD {e:TypeId}(g:Nat)(q:Nat){cs:Array Value}{ds:List Value}(g1:w.heap[g]?=some (.cells cs e (0,0)))(dE:q+ds.length<=cs.size)(h1:∀u∈ds,u.oneCell'=true):
  (storeCells ⟨g,q,none⟩ ds).run P w=.ok () (w.setRow g (aR cs.toList q ds).toArray):=by
 have bQ:=run_storeCells_at P g q e ds 0 cs w g1 (by simpa using dE) h1;unfold aR;simpa only[Nat.add_zero]using bQ
theorem Zek {α:Type}(l:List α)(k:Nat):aR l k []=l:=by simp[aR]
theorem Sat.same (hS:Sat N w0 m0 pl σ ρ m act w){s:Site}{b:aL}(hb:σ.b s=some b):Sat N w0 m0 pl (σ.set s b) ρ m act w:=by
 have nO:∀s' b',(σ.set s b).b s'=some b'->σ.b s'=some b':=fun s' b' k=>by
  rw[AS.VY]at k;split at k
  .rename_i e;rw[e,hb];exact k
  .exact k
 exact⟨hS.sA,hS.sz,hS.tm,fun s' b' k=>hS.bx s' b' (nO s' b' k),fun s1 s2 b1 b2 i k1 k2=>hS.dZ s1 s2 b1 b2 i (nO _ _ k1) (nO _ _ k2),hS.mem,fun s' b' i k=>hS.eM s' b' i (nO _ _ k),fun s' b' i k=>hS.fM s' b' i (nO _ _ k),hS.keep,hS.base,hS.qB,hS.par⟩
theorem ZqB {t u e n:TypeId}{c:Call}{x y:Operand}{x' y':bD}(hx:aW x=some x')(hy:aW y=some y')(he:eH P t=some (e,n,none))(hn:0<n)(hc:c.callee=.builtin .copy)(ha:c.args.toList=[x,y])(ht:c.argTypes.toList=[t,u])(ho:o.op=.call c)
  (h:cD (.copy n x' y') d K σ) (hS:Sat N w0 m0 pl σ ρ m act w):oC P N w0 m0 pl o act w K:=by
 simp only[cD]at h;obtain⟨hu,hs⟩:=KN he;have h1:=hS.aW hx;have fY:c.args=#[x,y]:=yU.1 (by simpa using ha);have sM:c.argTypes=#[t,u]:=yU.1 (by simpa using ht);have ex:∀{w':World} {v:Value},(Builtin.copy_ #[t,u] o.type #[act.eval x,act.eval y]).run P w=.ok v w'->(execOp act.eval o).run P w=.ok (.value v) w':=fun h=>by
  unfold execOp;simp only[ho];simp[resolve,hc,fY,sM,invoke,builtin,h]
 have hm:o.op.vQ=true->False:=fun hm=>by rw[ho]at hm;cases hm
 split at h
 .rename_i ys PE;obtain⟨ya,yc,yd,BU,C5,HK⟩:=Fy hn hS (hS.aW hy) PE;have first:∀k,(Builtin.firstCells n (ys.take k).length (.slice ya ys.length yc)).run P w=.ok (yd.take (k*n)).toArray w:=fun k=>
   ZfY (C5.take k) (fun j u hj=>HK j u (by rw[mG]at hj;split at hj;exact hj;cases hj)) w (fun _=>rfl) _ rfl ys.length yc
  split at h
  .rename_i nl e1;rw[e1]at h1;obtain⟨a,hv,jM⟩:=h1.VX;refine⟨_,w,_,σ,ρ,m,.inl (ex (v:=.int .i64 0) (w':=w) ?_),h,hS,.pv _ _ (.int _ _),fun q=>(hm q).elim⟩;have f0:=first 0;simp only[List.take_zero,List.length_nil,Nat.zero_mul]at f0;cases a<;>simp[Builtin.copy_,run_underlying hu,hv,BU,Builtin.lenOf,Go.Proofs.YthmbecacehfgfaaGreatDoor.run_sizeOf hs,f0,storeCells,goInt]
  .rename_i s n' lo len e1;rw[e1]at h1;split at h
   .rename_i e' eT xs hb;obtain⟨⟨rfl,rfl,hl⟩,hK⟩:=h;have Tk:(ys.take len).length=min ys.length len:=by rw[gI];omega
    rcases h1.DY with⟨cap,hv,c0,c1,c2⟩|⟨a,hv,c0,jM⟩
    .obtain⟨xF,hB|⟨hr,cs,g1,g2,g3,g4,g5⟩⟩:=hS.bx s _ hb
     .rw[hB.1]at c2;cases c2
     obtain⟨dE,mZ⟩:=hS.over hb hr g1 (C5.take len) (lo:=lo) (by rw[gI];omega);refine⟨_,_,_,_,ρ,m,.inl (ex (v:=.int .i64 (ys.take len).length) ?_),hK,mZ,.pv _ _ (.int _ _),fun q=>(hm q).elim⟩;have f0:=first len;rw[Tk]at f0 ⊢;have bQ:=ZkD (P:=P) (w:=w) (ρ s).b ((ρ s).o+lo*eT) g1 dE (C5.take len).one;simp[Builtin.copy_,run_underlying hu,hv,BU,Builtin.lenOf,Go.Proofs.YthmbecacehfgfaaGreatDoor.run_sizeOf hs,f0,bQ,goInt]
    .subst c0;simp only[List.take_zero,Zek]at hK;refine⟨_,w,_,_,ρ,m,.inl (ex (v:=.int .i64 ([]:List PV).length) (w':=w) ?_),hK,hS.same hb,.pv _ _ (.int _ _),fun q=>(hm q).elim⟩;have f0:=first 0;simp only[List.take_zero,List.length_nil,Nat.zero_mul]at f0;cases a<;>simp[Builtin.copy_,run_underlying hu,hv,BU,Builtin.lenOf,Go.Proofs.YthmbecacehfgfaaGreatDoor.run_sizeOf hs,f0,storeCells,goInt]
   .exact h.elim
  .exact h.elim
 .exact h.elim
theorem Zoz {t e n:TypeId}{z:PV}{c:Call}{x:Operand}{x':bD}(hx:aW x=some x')(he:eH P t=some (e,n,none))(hz:rW P e=some z)(hn:0<n)(PC:z.cells.length=n)(hc:c.callee=.builtin .clear)(ha:c.args.toList=[x])(ht:c.argTypes.toList=[t])(ho:o.op=.call c)
  (h:cD (.clear n z x') d K σ) (hS:Sat N w0 m0 pl σ ρ m act w):oC P N w0 m0 pl o act w K:=by
 simp only[cD]at h;obtain⟨hu,hs⟩:=KN he;have h1:=hS.aW hx;have fY:c.args=#[x]:=yU.1 (by simpa using ha);have sM:c.argTypes=#[t]:=yU.1 (by simpa using ht);have ex:∀{w':World} {v:Value},(Builtin.clear_ #[t] o.type #[act.eval x]).run P w=.ok v w'->(execOp act.eval o).run P w=.ok (.value v) w':=fun h=>by
  unfold execOp;simp only[ho];simp[resolve,hc,fY,sM,invoke,builtin,h]
 have hm:o.op.vQ=true->False:=fun hm=>by rw[ho]at hm;cases hm
 have Z2:bN ρ m (.tuple #[]) (.pv (.bM [])):=.pv _ _ (.bM _ _ rfl (fun j d c e1=>by simp at e1));unfold rW at hz;cases PJ:gX P e with
 |none=>simp[PJ]at hz
 |some zv=>
 simp only[PJ,Option.bind_some]at hz;obtain⟨z1,z2,z3⟩:=TF hz m;have tS:zv.cells.size=n:=by omega
 have ZS:=KM PJ w;split at h
 .rename_i nl e1;rw[e1]at h1;obtain⟨a,hv,jM⟩:=h1.VX;refine⟨_,w,_,σ,ρ,m,.inl (ex (v:=.tuple #[]) (w':=w) ?_),h,hS,Z2,fun q=>(hm q).elim⟩;cases a<;>simp[Builtin.clear_,run_underlying hu,hv]
 .rename_i s n' lo len e1;rw[e1]at h1;split at h
  .rename_i e' eT xs hb;obtain⟨⟨rfl,rfl,hl⟩,hK⟩:=h;rcases h1.DY with⟨cap,hv,c0,c1,c2⟩|⟨a,hv,c0,jM⟩
   .by_cases hlen:len=0
    .subst hlen;simp only[List.replicate_zero,Zek]at hK;refine⟨_,w,_,_,ρ,m,.inl (ex (v:=.tuple #[]) (w':=w) ?_),hK,hS.same hb,Z2,fun q=>(hm q).elim⟩;simp[Builtin.clear_,run_underlying hu,hv]
    .obtain⟨xF,hB|⟨hr,cs,g1,g2,g3,g4,g5⟩⟩:=hS.bx s _ hb
     .rw[hB.1]at c2;cases c2
     have N9:∀j,j<eT->∃hj:j<zv.cells.size,zv.cells[j]! = zv.cells[j]:=fun j hj=>⟨by omega,getElem!_pos zv.cells j (by omega)⟩
     have kK:∀k,k<len*eT->(Builtin.zeroCells zv.cells len).toList[k]?=some (zv.cells[k%eT]!):=fun k hk=>by
      rw[O7];simp only[Builtin.zeroCells,Array.getElem?_map,Array.getElem?_range,tS];rw[if_pos hk];rfl
     have Z9:Flat m (Builtin.zeroCells zv.cells len).toList eT (List.replicate len z):=by
      refine⟨by rw[uV,Zca,tS,List.length_replicate],fun u hu=>?_,fun i x hi=>?_⟩
      .obtain⟨k,hk⟩:=iM.1 hu;have aI:k<len*eT:=by
        have:=(bZ.1 hk).1
        rw[uV,Zca,tS]at this;exact this
       rw[kK k aI]at hk;cases hk;obtain⟨hj,e1⟩:=N9 (k%eT) (Nat.mod_lt _ hn);rw[e1];exact z2 _ (Array.getElem_mem hj)
      .rw[List.getElem?_replicate]at hi;split at hi
       .rename_i Uf;cases hi;refine⟨PC,fun j c hj=>?_⟩;have rO:j<eT:=by have:=(bZ.1 hj).1;omega
        obtain⟨Z8,e1⟩:=N9 j rO;have yH:(i*eT+j)%eT=j:=by rw[Nat.add_comm,Nat.add_mul_mod_self_right,Nat.mod_eq_of_lt rO]
        have:=W6 (n:=eT) Uf
        exact⟨zv.cells[j],by rw[kK _ (by omega),yH,e1],z3 j _ c (uT Z8) hj⟩
       .cases hi
     obtain⟨dE,mZ⟩:=hS.over hb hr g1 Z9 (lo:=lo) (by rw[List.length_replicate];exact hl);refine⟨_,_,_,_,ρ,m,.inl (ex (v:=.tuple #[]) ?_),hK,mZ,Z2,fun q=>(hm q).elim⟩;have bQ:=ZkD (P:=P) (w:=w) (ρ s).b ((ρ s).o+lo*eT) g1 dE Z9.one;obtain⟨Rf,rfl⟩:∃k,len=k+1:=⟨len-1,by omega⟩;simp[Builtin.clear_,run_underlying hu,hv,ZS,bQ]
   .subst c0;simp only[List.replicate_zero,Zek]at hK;refine⟨_,w,_,_,ρ,m,.inl (ex (v:=.tuple #[]) (w':=w) ?_),hK,hS.same hb,Z2,fun q=>(hm q).elim⟩;cases a<;>simp[Builtin.clear_,run_underlying hu,hv]
  .exact h.elim
 .exact h.elim
theorem Zkm {n:Nat}{x:Operand}{x' xI:bD}(hx:aW x=some x')(hn:0<n/\n<=1000000)
  (run:∀(A:Addr) (z:Int) (k:IntKind),act.eval x=.pointer (some A)->σ.o xI=.pv (.int k z)->0<=z->z<=n->(execOp act.eval o).run P w=.ok (.value (.slice (some A) z.toNat n)) w)
  (h:cD (.EM n x' xI) d K σ) (hS:Sat N w0 m0 pl σ ρ m act w):oC P N w0 m0 pl o act w K:=by
 simp only[cD]at h;have h1:=hS.aW hx;split at h
 .rename_i k z hz;split at h
  .rename_i s off ex;rw[ex]at h1;have hv:=h1.DX;split at h
   .rename_i gF hb;split at h
    .rename_i xs EP;obtain⟨⟨z0,z1,z2⟩,hK⟩:=h;obtain⟨_,mZ,hm,mK⟩:=hS.Xh hb EP;obtain⟨ds,g1,g2,g3⟩:=Zgb (hS.bx s _ hb) EP hm mK;have hlen:((xs.drop off).take z.toNat).length=z.toNat:=by rw[gI,uG];omega
     have get:∀(i:Nat) (y:PV),((xs.drop off).take z.toNat)[i]?=some y->xs[off+i]?=some y:=fun i y hy=>by
      rw[mG]at hy;split at hy
      .rwa [mW]at hy
      .cases hy
     refine⟨_,w,_,_,ρ,_,.inl (run _ z k hv hz z0 z1),hK,mZ,.pv _ _ ?_,fun _=>Ext.tH _⟩;have hh:=dG.aE (m:=m.with w (ρ s)) (some ⟨(ρ s).b,off,none⟩) n false 1 ((xs.drop off).take z.toNat) (fun i=>match ds[off+i]? with|some d=>[d]|none=>[]) (by omega) (by omega) (fun e=>by cases e) (fun A hA=>by cases hA;rfl) (fun e=>by cases e)
      (fun i y hy=>?_) (fun i y hy=>?_) (fun i y j d c hy hd hc=>?_)
     .rw[hlen]at hh;exact hh
     .have T2:=get i y hy;have aI:off+i<ds.length:=by rw[g1];exact(bZ.1 T2).1
      have hd:=aX aI;refine⟨_,_,rfl,?_⟩;rw[hd]
      have:=g2.get _ _ hd
      rw[rT]at this;rw[Nat.mul_one];exact⟨this,trivial⟩
     .have T2:=get i y hy;have aI:off+i<ds.length:=by rw[g1];exact(bZ.1 T2).1
      have hd:=aX aI;rw[hd];obtain⟨q1,q2⟩:=g3 _ _ _ hd T2;refine⟨rfl,by rw[q2.La q1];rfl,fun u hu=>by simp at hu;subst hu;exact q1⟩
     .have T2:=get i y hy;have aI:off+i<ds.length:=by rw[g1];exact(bZ.1 T2).1
      have IF:=aX aI;rw[IF]at hd;obtain⟨q1,q2⟩:=g3 _ _ _ IF T2;rw[q2.La q1]at hc;cases j with
      |zero=>simp at hd hc;subst hd hc;exact q2
      |succ j=>simp at hd
    .exact h.elim
   .exact h.elim
  .rename_i xs ex;rw[ex]at h1;obtain⟨⟨z0,z1,z2⟩,hK⟩:=h;obtain⟨b,off,ds,hv,g1,g2,g3,g4⟩:=h1.Ev;have hlen:(xs.take z.toNat).length=z.toNat:=by rw[gI];omega
   have get:∀(i:Nat) (y:PV),(xs.take z.toNat)[i]?=some y->xs[i]?=some y:=fun i y hy=>by
    rw[mG]at hy;split at hy
    .exact hy
    .cases hy
   refine⟨_,w,_,_,ρ,m,.inl (run _ z k hv hz z0 z1),hK,hS,.pv _ _ ?_,fun _=>Ext.tH _⟩;have hh:=dG.aE (m:=m) (some ⟨b,off,none⟩) n false 1 (xs.take z.toNat) (fun i=>match ds[i]? with|some d=>[d]|none=>[]) (by omega) (by omega) (fun e=>by cases e) (fun A hA=>by cases hA;rfl) (fun e=>by cases e)
    (fun i y hy=>?_) (fun i y hy=>?_) (fun i y j d c hy hd hc=>?_)
   .rw[hlen]at hh;exact hh
   .have T2:=get i y hy;have aI:i<ds.length:=by rw[g2];exact(bZ.1 T2).1
    have hd:=aX aI;refine⟨_,_,rfl,?_⟩;rw[hd,Nat.mul_one];exact⟨g1.get _ _ hd,trivial⟩
   .have T2:=get i y hy;have aI:i<ds.length:=by rw[g2];exact(bZ.1 T2).1
    have hd:=aX aI;rw[hd];have q1:=g3 _ (zX aI);have q2:=g4 _ _ _ hd T2;refine⟨rfl,by rw[q2.La q1];rfl,fun u hu=>by simp at hu;subst hu;exact q1⟩
   .have T2:=get i y hy;have aI:i<ds.length:=by rw[g2];exact(bZ.1 T2).1
    have IF:=aX aI;rw[IF]at hd;have q1:=g3 _ (zX aI);have q2:=g4 _ _ _ IF T2;rw[q2.La q1]at hc;cases j with
    |zero=>simp at hd hc;subst hd hc;exact q2
    |succ j=>simp at hd
  .exact h.elim
 .exact h.elim
theorem Zsv {t e:TypeId}{n:Nat}{x hi:Operand}{x' xI:bD}(hx:aW x=some x')(hh:aW hi=some xI)(he:eH P t=some (e,1,some n))(hn:0<n/\n<=1000000)(ho:o.op=.slice t x none (some hi) none)
  (h:cD (.EM n x' xI) d K σ) (hS:Sat N w0 m0 pl σ ρ m act w):oC P N w0 m0 pl o act w K:=by
 obtain⟨hu,hs⟩:=Hi he;refine Zkm hx hn (fun A z k ex hz z0 z1=>?_) h hS;have h2:=hS.aW hh;rw[hz]at h2;have ez:=h2.V8;unfold execOp;simp only[ho,ex,Sem.run_bind];have cZ:¬n=0:=by omega
 simp[Instr.sliceAt,run_underlying hu,Instr.sliceBounds,run_sizeOf hs,ez,Instr.sliceBound,asIntOf,z0,z1,Instr.sureAddr,Addr.add]
theorem Zpi {t e:TypeId}{n:Nat}{x:Operand}{x':bD}(hx:aW x=some x')(he:eH P t=some (e,1,some n))(hn:0<n/\n<=1000000)(ho:o.op=.slice t x none none none)
  (h:cD (.EM n x' (.c (.int .i64 n))) d K σ) (hS:Sat N w0 m0 pl σ ρ m act w):oC P N w0 m0 pl o act w K:=by
 obtain⟨hu,hs⟩:=Hi he;refine Zkm hx hn (fun A z k ex hz z0 z1=>?_) h hS;have Jf:(n:Int)=z:=by
  have P8:AV.pv (.int .i64 n)=AV.pv (.int k z):=hz;injection P8 with Je;injection Je
 subst Jf;unfold execOp;simp only[ho,ex,Sem.run_bind];have cZ:¬n=0:=by omega
 simp[Instr.sliceAt,run_underlying hu,Instr.sliceBounds,run_sizeOf hs,Instr.sureAddr,Addr.add]
theorem Zij {W:Nat}:∀{k:Nat} {xs:List PV} {i:Nat} {y:PV},(oI W k xs)[i]?=some y->i<k/\y=.agg ((xs.drop (i*W)).take W)
 |0,xs,i,y,h=>by simp[oI]at h
 |k+1,xs,0,y,h=>by
  simp only[oI,List.getElem?_cons_zero,Option.some.injEq]at h;exact⟨by omega,by rw[<-h,Nat.zero_mul,List.drop_zero]⟩
 |k+1,xs,i+1,y,h=>by
  simp only[oI,List.getElem?_cons_succ]at h;obtain⟨h1,h2⟩:=Zij h;refine⟨by omega,?_⟩;rw[h2,List.drop_drop];congr 3;rw[Nat.succ_mul];omega
theorem Zii {W:Nat}:∀{k:Nat} {xs:List PV},(oI W k xs).length=k
 |0,xs=>rfl
 |k+1,xs=>by simp only[oI,pA,Zii]
theorem Zpg {n W:Nat}{x:Operand}{x' xI:bD}(hx:aW x=some x')(hn:0<n/\n<=1000000)
  (run:∀(A:Addr) (z:Int) (k:IntKind),act.eval x=.pointer (some A)->σ.o xI=.pv (.int k z)->0<=z->z<=n->(execOp act.eval o).run P w=.ok (.value (.slice (some A) z.toNat n)) w)
  (h:cD (.YG n W x' xI) d K σ) (hS:Sat N w0 m0 pl σ ρ m act w):oC P N w0 m0 pl o act w K:=by
 simp only[cD]at h;have h1:=hS.aW hx;split at h
 .rename_i k z hz;split at h
  .rename_i s off ex;rw[ex]at h1;have hv:=h1.DX;split at h
   .rename_i gF hb;split at h
    .rename_i xs EP;obtain⟨⟨z0,z1,z2⟩,hK⟩:=h;obtain⟨_,mZ,hm,mK⟩:=hS.Xh hb EP;obtain⟨ds,g1,g2,g3⟩:=Zgb (hS.bx s _ hb) EP hm mK;have hlen:(oI W z.toNat (xs.drop off)).length=z.toNat:=Zii;have get:∀(i:Nat) (y:PV),(oI W z.toNat (xs.drop off))[i]?=some y->off+i*W+W<=xs.length/\y=.agg ((xs.drop (off+i*W)).take W):=fun i y hy=>by
      obtain⟨q1,q2⟩:=Zij hy;have h3:i+1<=n:=by omega
      have h4:=I2 W h3;rw[Nat.succ_mul]at h4;exact⟨by omega,by rw[q2,List.drop_drop]⟩
     refine⟨_,w,_,_,ρ,_,.inl (run _ z k hv hz z0 z1),hK,mZ,.pv _ _ ?_,fun _=>Ext.tH _⟩;have hh:=dG.aE (m:=m.with w (ρ s)) (some ⟨(ρ s).b,off,none⟩) n false W (oI W z.toNat (xs.drop off)) (fun i=>(ds.drop (off+i*W)).take W) (by omega) (by omega) (fun e=>by cases e) (fun A hA=>by cases hA;rfl) (fun e=>by cases e)
      (fun i y hy=>?_) (fun i y hy=>?_) (fun i y j d c hy hd hc=>?_)
     .rw[hlen]at hh;exact hh
     .refine⟨_,_,rfl,At.j3 (fun j u hj=>?_)⟩;rw[mG]at hj;split at hj
      .rw[mW]at hj
       have:=g2.get _ _ hj
       rw[rT]at this;rw[Nat.add_assoc]at this ⊢;exact this
      .cases hj
     .obtain⟨q1,rfl⟩:=get i y hy;refine⟨by rw[gI,uG];omega,?_,fun u hu=>?_⟩
      .show((xs.drop (off+i*W)).take W).length=W;rw[gI,uG];omega
      .obtain⟨j,hj⟩:=iM.1 hu;rw[mG]at hj;split at hj
       .rw[mW]at hj;have aI:off+i*W+j<xs.length:=by rw[<-g1];exact(bZ.1 hj).1
        exact(g3 _ _ _ hj (aX aI)).1
       .cases hj
     .obtain⟨q1,rfl⟩:=get i y hy;rw[mG]at hd;have sR:((xs.drop (off+i*W)).take W)[j]?=some c:=hc;rw[mG]at sR;split at hd
      .rw[if_pos (by assumption),mW]at sR;rw[mW]at hd;exact(g3 _ _ _ hd sR).2
      .cases hd
    .exact h.elim
   .exact h.elim
  .exact h.elim
 .exact h.elim
theorem Zsu {t e:TypeId}{n W:Nat}{x hi:Operand}{x' xI:bD}(hx:aW x=some x')(hh:aW hi=some xI)(he:eH P t=some (e,W,some n))(hn:0<n/\n<=1000000)(ho:o.op=.slice t x none (some hi) none)
  (h:cD (.YG n W x' xI) d K σ) (hS:Sat N w0 m0 pl σ ρ m act w):oC P N w0 m0 pl o act w K:=by
 obtain⟨hu,hs⟩:=Hi he;refine Zpg hx hn (fun A z k ex hz z0 z1=>?_) h hS;have h2:=hS.aW hh;rw[hz]at h2;have ez:=h2.V8;unfold execOp;simp only[ho,ex,Sem.run_bind];have cZ:¬n=0:=by omega
 simp[Instr.sliceAt,run_underlying hu,Instr.sliceBounds,run_sizeOf hs,ez,Instr.sliceBound,asIntOf,z0,z1,Instr.sureAddr,Addr.add]
end
def Zu9 (P:Program)(t:TypeId):Option TypeId:=match P.underlying t with
 |some (.struct fs)=>match fs[1]? with
  |some fl=>match P.underlying fl.type with
   |some (.slice e)=>match P.underlying e with
    |some (.int .u8)=>some e
    |_=>none
   |_=>none
  |none=>none
 |_=>none
def nV (P:Program):Op->Option W7
 |.binOp .add t x y _=>match aW x,aW y,P.underlying t with
  |some x,some y,some .string=>some (.rG x y)
  |_,_,_=>none
 |.binOp .eql t x y _=>match aW x,aW y,P.underlying t with
  |some x,some (.c .eV),some (.interface _)=>some (.LN false x)
  |_,_,_=>none
 |.binOp .neq t x y _=>match aW x,aW y,P.underlying t with
  |some x,some (.c .eV),some (.interface _)=>some (.LN true x)
  |_,_,_=>none
 |.makeInterface t x=>match aW x,P.underlying t with
  |some _,some (.interface _)=>none
  |some x,some _=>some (.sB t x)
  |_,_=>none
 |.alloc t=>match gX P t with
  |some v=>match v.cells.toList with
   |[.pointer none,.slice none 0 0]=>match Zu9 P t with
    |some e=>some (.Ek t e)
    |none=>none
   |_=>none
  |none=>none
 |.panic x=>match aW x with
  |some x=>some (.B3 x)
  |none=>none
 |.typeAssert x _ t true=>match aW x,P.underlying t,rW P t with
  |some _,some (.interface _),_=>none
  |some x,some _,some z=>some (.KZ t z x)
  |_,_,_=>none
 |.index t x i=>match aW x,aW i,P.underlying t with
  |some x,some i,some .string=>some (.A5 x i)
  |_,_,_=>none
 |.slice t x lo hi none=>match aW x,P.underlying t,tP lo,tP hi with
  |some x,some .string,some lo,some hi=>some (.TU x lo hi)
  |_,_,_,_=>none
 |.convert src dst x=>match aW x,P.underlying src,P.underlying dst with
  |some x,some (.slice e),some .string=>match P.underlying e with
   |some (.int .u8)=>some (.TW x)
   |_=>none
  |some x,some .string,some (.slice e)=>match P.underlying e with
   |some (.int .u8)=>some (.BB e x)
   |_=>none
  |_,_,_=>none
 |.call c=>match c.callee with
  |.builtin .len=>match c.args.toList,c.argTypes.toList with
   |[x],[t]=>match aW x,P.underlying t with
    |some y,some .string=>some (.rE y)
    |_,_=>none
   |_,_=>none
  |.builtin .append=>match c.args.toList,c.argTypes.toList with
   |[x,y],[t,u]=>match aW x,aW y,eH P t,P.underlying u with
    |some x,some y,some (e,n,none),some .string=>match rW P e,P.info? e with
     |some z,some i=>if n=1/\z.cells.length=n then some (.VQ e n i.bytes x y)else none
     |_,_=>none
    |_,_,_,_=>none
   |_,_=>none
  |_=>none
 |_=>none
theorem ZnE {x:Option Operand}{x':Option bD}(h:tP x=some x'):(x=none/\x'=none)\/∃a a',x=some a/\x'=some a'/\aW a=some a':=by
 cases x with
 |none=>simp[tP]at h;exact .inl ⟨rfl,h.symm⟩
 |some a=>
  simp only[tP,eA]at h;obtain⟨a',h1,h2⟩:=h;exact .inr ⟨a,a',rfl,h2.symm,h1⟩
theorem Zgd {x:PV}{r:List PV}{ns:List Int}(h:EB (x::r)=some ns):∃n ms,x=.int .u8 n/\EB r=some ms/\ns=n::ms:=by
 unfold EB at h;split at h
 .rename_i e;cases e
 .rename_i n r' e;cases e;obtain⟨ms,h1,h2⟩:=eA.1 h;exact⟨n,ms,rfl,h1,h2.symm⟩
 .cases h
theorem ZgR {m:Mem}:∀{xs:List PV} {ns:List Int} {vs:List Value},EB xs=some ns->vs.length=xs.length->(∀(i:Nat) (x:PV) (v:Value),xs[i]?=some x->vs[i]?=some v->dG m v x)->vs=ns.map (Value.int .u8)
 |[],ns,vs,h,hl,_=>by
  cases h;exact List.eq_nil_of_length_eq_zero hl
 |x::r,ns,[],h,hl,_=>by simp at hl
 |x::r,ns,v::vs,h,hl,hr=>by
  obtain⟨n,ms,rfl,h1,rfl⟩:=Zgd h;have h0:=hr 0 _ _ rfl rfl;have e:=ZgR (vs:=vs) h1 (by simpa using hl) fun i y u k1 k2=>hr (i+1) y u (by simpa using k1) (by simpa using k2)
  cases h0;rw[e];rfl
theorem ZgS:∀{xs:List PV} {ns:List Int} {y:PV},EB xs=some ns->y∈xs->∃n,∃k,y=.int k n
 |x::r,ns,y,h,hy=>by
  obtain⟨n,ms,rfl,h1,_⟩:=Zgd h;rcases jQ.1 hy with rfl|hy
  .exact⟨n,.u8,rfl⟩
  .exact ZgS h1 hy
theorem Zgp:∀(ns:List Int) (r:ByteArray),ns.foldl (fun r n=>r.push (UInt8.ofNat n.toNat)) r=⟨r.data++(ns.map fun n=>UInt8.ofNat n.toNat).toArray⟩
 |[],r=>by simp
 |n::ns,r=>by
  rw[List.foldl_cons,Zgp ns];simp[ByteArray.push]
section
variable {G:World->Prop}{P:Program}{N:Nat}{w0:World}{m0:Env w0}{pl:List Nat}{σ:AS}{ρ:Site->Loc}{m:Mem}{act:Act}{w:World}{o:Oper}{d:Nat}{K:AV->AS->Prop}
theorem bN.SM {v:Value}{s:ByteArray}(h:bN ρ m v (.pv (.str s))):v=.string s:=by
 cases h with
 |pv _ _ h=>cases h;rfl
theorem Zuh {t e:TypeId}{v:Value}(hv:gX P t=some v)(hc:v.cells.toList=[.pointer none,.slice none 0 0])(ho:o.op=.alloc t)(h:cD (.Ek t e) d K σ)(hS:Sat N w0 m0 pl σ ρ m act w):oC P N w0 m0 pl o act w K:=by
 simp only[cD]at h;have sR:v.cells=#[.pointer none,.slice none 0 0]:=yU.1 hc;have hP:=hS.bI d;have hn:=qT.bI d σ;have hh:(w.alloc (.cells v.cells t)).heap[w.heap.size]?=some (.cells #[.pointer none,.slice none 0 0] t (0,0)):=by rw[sR];exact heap_alloc_new w _
 have hu:=R9 ρ (.loc d 0) ⟨w.heap.size,0,0,true⟩;have M8:=hP.Zx2 d 0 hn v.cells t 0 (box:=.ext (DL t e [])) ⟨by rw[hu],by rw[hu];exact⟨_,_,hh,.inl rfl,.inl ⟨rfl,rfl⟩⟩⟩ (fun k hk=>by
  rw[hu]at hk;have VC:k∈yW ⟨w.heap.size,0,0,true⟩ (w.alloc (.cells v.cells t)):=hk;rw[ZiT (q:=⟨w.heap.size,0,0,true⟩) hh]at VC;cases VC)
 refine⟨.pointer (some ⟨w.heap.size,0,none⟩),w.alloc (.cells v.cells t),_,_,_,m,.inl ?_,h,M8,?_,fun _=>Ext.al w _⟩
 .unfold execOp;simp only[ho,Sem.run_bind,Znh hv,Result.andThen_ok];rfl
 .have:=bN.ptr (ρ:=iN ρ (.loc d 0) ⟨w.heap.size,0,0,true⟩) (m:=m) (.loc d 0) 0
  rw[hu]at this;exact this
theorem Zpl {t u:TypeId}{x y:Operand}{x' y':bD}(hx:aW x=some x')(hy:aW y=some y')(ho:o.op=.binOp .add t x y u)
  (h:cD (.rG x' y') d K σ) (hS:Sat N w0 m0 pl σ ρ m act w):dB G P σ ρ m o act w K:=by
 simp only[cD]at h;have h1:=hS.aW hx;have h2:=hS.aW hy;split at h
 .rename_i a b ea eb;obtain⟨hb,hK⟩:=h;rw[ea]at h1;rw[eb]at h2;refine .pure hS (v:=.string (a++b)) ?_ (.pv _ _ (.str _)) hK;intro w' _;unfold execOp;simp only[ho,h1.SM,h2.SM];simp[eqGuard,binOp,run_string_add_sum w' a b hb]
 .exact h.elim
theorem Zgw {y:Operand}(h:aW y=some (.c .eV)):y=.const .nilIface:=by
 cases y with
 |tmp k=>cases h
 |const v=>
  simp only[aW,eA]at h;obtain⟨x,h1,h2⟩:=h;cases h2;unfold nS at h1;split at h1<;>first|(cases h1;done)|rfl
 |func f=>cases h
 |global g=>cases h
theorem WO {m:Mem}{a b:Value}{x y:PV}(h:dG m a x)(k:dG m b y):dG m (.tuple #[a,b]) (.bM [x,y]):=.bM _ _ rfl fun j d c h1 h2=>by
 rcases j with _|_|j
 .cases h1;cases h2;exact h
 .cases h1;cases h2;exact k
 .cases h2
theorem ZlK (w:World)(t:TypeId)(ms:Array (String×TypeId))(hu:P.underlying t=some (.interface ms)):(Op.equal t .nilIface .nilIface).run P w=.ok true w:=by
 have:∀d,(Op.equalIn (d+1) t .nilIface .nilIface).run P w=.ok true w:=fun d=>by simp[Op.equalIn,run_underlying hu]
 exact this 9999
theorem Zi5 (w:World)(t:TypeId)(ms:Array (String×TypeId))(hu:P.underlying t=some (.interface ms))(u:TypeId)(v:Value):(Op.equal t (.iface u v) .nilIface).run P w=.ok false w:=by
 have:∀d,(Op.equalIn (d+1) t (.iface u v) .nilIface).run P w=.ok false w:=fun d=>by simp[Op.equalIn,run_underlying hu]
 exact this 9999
theorem ZnL {neg:Bool}{t u:TypeId}{x y:Operand}{x':bD}{ms:Array (String×TypeId)}(hx:aW x=some x')(hy:aW y=some (.c .eV))(hu:P.underlying t=some (.interface ms))(ho:o.op=.binOp (if neg=true then .neq else .eql) t x y u)
  (h:cD (.LN neg x') d K σ) (hS:Sat N w0 m0 pl σ ρ m act w):dB G P σ ρ m o act w K:=by
 simp only[cD]at h;have h1:=hS.aW hx;split at h
 .rename_i ex;rw[ex]at h1;have e:act.eval x=.nilIface:=by
   have h2:=h1.nJ;generalize act.eval x=u at h2;cases h2;rfl
  refine .pure hS (v:=.bool (!neg)) ?_ (.pv _ _ (.bool _)) h;intro w' _;unfold execOp;obtain rfl:=Zgw hy;have e2:act.eval (.const .nilIface)=.nilIface:=rfl;cases neg<;>simp[ho,e,e2,binOp,eqGuard_nil_constR,fun w=>ZlK w t ms hu]
 .rename_i tt xx ex;rw[ex]at h1;obtain⟨v,e⟩:∃v,act.eval x=.iface tt v:=by
   have h2:=h1.nJ;generalize act.eval x=u at h2;cases h2 with|iface _ v _ _=>exact⟨v,rfl⟩
  refine .pure hS (v:=.bool neg) ?_ (.pv _ _ (.bool _)) h;intro w' _;unfold execOp;obtain rfl:=Zgw hy;have e2:act.eval (.const .nilIface)=.nilIface:=rfl;cases neg<;>simp[ho,e,e2,binOp,eqGuard_at_iface,fun w u v=>Zi5 w t ms hu u v]
 .exact h.elim
theorem Ztf {t:TypeId}{x:Operand}{x':bD}{td:TypeDesc}(hx:aW x=some x')(hu:P.underlying t=some td)(M7:∀ms,td≠.interface ms)(ho:o.op=.makeInterface t x)
  (h:cD (.sB t x') d K σ) (hS:Sat N w0 m0 pl σ ρ m act w):dB G P σ ρ m o act w K:=by
 simp only[cD]at h;have h1:=hS.aW hx;split at h
 .rename_i a ex;rw[ex]at h1;refine .pure hS (v:=.iface t (act.eval x)) ?_ (.pv _ _ (.iface _ _ _ h1.nJ)) h;intro w' _;unfold execOp;simp only[ho,Instr.makeInterface,Sem.run_bind,run_underlying hu];cases td<;>first|rfl|exact absurd rfl (M7 _)
 .exact h.elim
theorem ZlA {e:TypeId}{z:PV}(hz:rW P e=some z)(m:Mem):∃zv,(∀w,(zeroValue e).run P w=.ok zv w)/\dG m zv z:=by
 cases hv:gX P e with
 |none=>unfold rW at hz;simp[hv]at hz
 |some zz=>
  refine⟨zz,KM hv,?_⟩;obtain⟨v,q1,q2⟩:=Hd hz (default:World) m;rw[KM hv]at q1;cases q1;exact q2
theorem Zsd {t s:TypeId}{x:Operand}{x':bD}{td:TypeDesc}{z:PV}(hx:aW x=some x')(hu:P.underlying t=some td)(M7:∀ms,td≠.interface ms)(hz:rW P t=some z)(ho:o.op=.typeAssert x s t true)
  (h:cD (.KZ t z x') d K σ) (hS:Sat N w0 m0 pl σ ρ m act w):dB G P σ ρ m o act w K:=by
 simp only[cD]at h;have h1:=hS.aW hx;obtain⟨zv,MA,hzm⟩:=ZlA hz m;split at h
 .rename_i ex;rw[ex]at h1;have e:act.eval x=.nilIface:=by
   have h2:=h1.nJ;generalize act.eval x=u at h2;cases h2;rfl
  refine .pure hS (v:=.tuple #[zv,.bool false]) ?_ (.pv _ _ (WO hzm (.bool _))) h;intro w' _;unfold execOp;simp only[ho,e,Instr.typeAssert,Sem.run_bind,run_underlying hu];cases td<;>first|exact absurd rfl (M7 _)|simp[MA w']
 .rename_i tt a ex;rw[ex]at h1;obtain⟨v,e,hv⟩:∃v,act.eval x=.iface tt v/\dG m v a:=by
   have h2:=h1.nJ;generalize act.eval x=u at h2;cases h2 with|iface _ v _ k=>exact⟨v,rfl,k⟩
  by_cases Jk:tt=t
  .rw[if_pos Jk]at h;refine .pure hS (v:=.tuple #[v,.bool true]) ?_ (.pv _ _ (WO hv (.bool _))) h;intro w' _;unfold execOp;simp only[ho,e,Instr.typeAssert,Sem.run_bind,run_underlying hu];cases td<;>first|exact absurd rfl (M7 _)|simp[Jk]
  .rw[if_neg Jk]at h;refine .pure hS (v:=.tuple #[zv,.bool false]) ?_ (.pv _ _ (WO hzm (.bool _))) h;intro w' _;unfold execOp;simp only[ho,e,Instr.typeAssert,Sem.run_bind,run_underlying hu];cases td<;>first|exact absurd rfl (M7 _)|simp[Jk,MA w']
 .exact h.elim
theorem Zph {t:TypeId}{c:Call}{x:Operand}{x':bD}(hx:aW x=some x')(hu:P.underlying t=some .string)(hc:c.callee=.builtin .len)(ha:c.args.toList=[x])(ht:c.argTypes.toList=[t])(ho:o.op=.call c)
  (h:cD (.rE x') d K σ) (hS:Sat N w0 m0 pl σ ρ m act w):dB G P σ ρ m o act w K:=by
 simp only[cD]at h;have h1:=hS.aW hx;have fY:c.args=#[x]:=yU.1 (by simpa using ha);have sM:c.argTypes=#[t]:=yU.1 (by simpa using ht);split at h
 .rename_i s es;rw[es]at h1;refine .pure hS (v:=.int .i64 s.size) ?_ (.pv _ _ (.int _ _)) h;intro w' _;unfold execOp;simp only[ho];simp[resolve,hc,fY,sM,invoke,builtin,Builtin.len_,run_underlying hu,h1.SM,goInt]
 .exact h.elim
theorem Zpk {t:TypeId}{x i:Operand}{x' i':bD}(hx:aW x=some x')(hi:aW i=some i')(hu:P.underlying t=some .string)(ho:o.op=.index t x i)
  (h:cD (.A5 x' i') d K σ) (hS:Sat N w0 m0 pl σ ρ m act w):dB G P σ ρ m o act w K:=by
 simp only[cD]at h;have h1:=hS.aW hx;have h2:=hS.aW hi;split at h
 .rename_i s k z es ei;rw[es]at h1;rw[ei]at h2;split at h
  .rename_i b hb;refine .pure hS (v:=.int .u8 b.toNat) ?_ (.pv _ _ (.int _ _)) h;intro w' _;have nO:(if 0<=z then s[z.toNat]? else none)=some b:=hb;unfold execOp;simp only[ho,h1.SM,h2.V8];simp[Instr.index,asIntOf,run_underlying hu,nO]
  .exact h.elim
 .exact h.elim
theorem Zsm {t:TypeId}{x:Operand}{x':bD}{lo hi:Option Operand}{UF xI:Option bD}(hx:aW x=some x')(hu:P.underlying t=some .string)(lG:tP lo=some UF)(Bj:tP hi=some xI)
  (ho:o.op=.slice t x lo hi none) (h:cD (.TU x' UF xI) d K σ) (hS:Sat N w0 m0 pl σ ρ m act w):dB G P σ ρ m o act w K:=by
 simp only[cD]at h;have h1:=hS.aW hx;split at h
 .rename_i s es;rw[es]at h1;split at h
  .rename_i l z el ez;obtain⟨⟨l0,l1,l2⟩,hK⟩:=h;refine .pure hS (v:=.string (s.extract l.toNat z.toNat)) ?_ (.pv _ _ (.str _)) hK;intro w' _;have el':=WC (ZnE lG) hS el;have eh':=WC (ZnE Bj) hS ez;unfold execOp;simp only[ho,h1.SM,Sem.run_bind];have z0:0<=z:=by omega
   have l3:l<=(s.size:Int):=by omega
   have l4:l<=(z.toNat:Int):=by omega
   rcases el' with⟨rfl,rfl⟩|⟨b,k,rfl,eb⟩<;>rcases eh' with⟨rfl,rfl⟩|⟨b2,k2,rfl,Dq⟩
   .simp[Instr.sliceAt,run_underlying hu,Instr.slice,Instr.sliceBounds]
   .simp[Instr.sliceAt,run_underlying hu,Instr.slice,Instr.sliceBounds,Dq,Instr.sliceBound,asIntOf,l2,z0]
   .simp[Instr.sliceAt,run_underlying hu,Instr.slice,Instr.sliceBounds,eb,Instr.sliceBound,asIntOf,l0,l3]
   .simp[Instr.sliceAt,run_underlying hu,Instr.slice,Instr.sliceBounds,eb,Dq,Instr.sliceBound,asIntOf,l0,l2,z0];intro h5;omega
  .exact h.elim
 .exact h.elim
theorem Zsr {src dst e:TypeId}{x:Operand}{x':bD}(hx:aW x=some x')(hs:P.underlying src=some (.slice e))(he:P.underlying e=some (.int .u8))(hd:P.underlying dst=some .string)(ho:o.op=.convert src dst x)
  (h:cD (.TW x') d K σ) (hS:Sat N w0 m0 pl σ ρ m act w):oC P N w0 m0 pl o act w K:=by
 simp only[cD]at h;split at h
 .rename_i xs hc;split at h
  .rename_i ns hn;obtain⟨a,cap,ds,hv,hf,oP⟩:=Fy (by decide) hS (hS.aW hx) hc;have qA:ds.length=xs.length:=by have:=hf.len;omega
   have nW:ds=ns.map (Value.int .u8):=ZgR hn qA fun i y u k1 k2=>by
    obtain⟨q1,q2⟩:=hf.get i y k1;obtain⟨n,ms,hy⟩:∃n,∃k,y=.int k n:=by
     obtain⟨j,hj⟩:=iM.1 (dL k1);exact ZgS hn (dL k1)
    subst hy;obtain⟨u',q3,q4⟩:=q2 0 _ rfl;rw[Nat.mul_one,Nat.add_zero,k2]at q3;cases q3;exact q4
   have hr:(execOp act.eval o).run P w=.ok (.value (.string (NU ns))) w:=by
    have hb:(Conv.bytesToString (.slice a xs.length cap)).run P w=.ok (.string (NU ns)) w:=by
     cases a with
     |none=>
      have h0:ds=[]:=by
       cases ds with
       |nil=>rfl
       |cons u l=>
        obtain⟨b,q,h1,_⟩:=oP 0 u rfl;cases h1
      rw[h0]at nW
      have:ns=[]:=List.map_eq_nil_iff.1 nW.symm
      subst this;rfl
     |some A=>
      have HW:(loadCells A xs.length).run P w=.ok (ns.map (Value.int .u8)).toArray w:=by
       rw[<-nW,<-qA];refine run_loadCells_list w A ds fun j v hj=>?_
       obtain⟨b,q,h1,h2⟩:=oP j v hj;cases h1;by_cases Ju:j=0
       .subst Ju;simpa[Addr.add]using h2
       .simpa[Addr.add,Ju]using h2
      rw[run_bytesToString w A xs.length cap ns HW,Zgp];simp[NU]
    unfold execOp;simp only[ho,hv,Sem.run_bind,run_convert_bytes_string w src dst e a xs.length cap hs he hd,hb];rfl
   exact⟨_,w,_,_,ρ,m,.inl hr,h,hS,.pv _ _ (.str _),fun _=>Ext.tH _⟩
  .exact h.elim
 .exact h.elim
theorem ZgQ (w:World)(e:TypeId)(s:ByteArray):Ext w (Lib.bytesWorld w e s):=by
 refine⟨?_,?_,?_,?_,fun k hk=>Lib.bytesWorld_at_old w e s k hk⟩
 .simp[Lib.bytesWorld,World.freeze,World.alloc,World.drew,-World.alloc_eq,-World.drew_eq]
 .simp[Lib.bytesWorld,World.freeze,World.alloc,World.drew,-World.alloc_eq,-World.drew_eq]
 .simp[Lib.bytesWorld,World.freeze,World.alloc,World.drew,-World.alloc_eq,-World.drew_eq]
 .rw[Lib.bytesWorld_size];omega
theorem ZeF {s:ByteArray}{i:Nat}{x:PV}(h:(qE s)[i]?=some x):i<s.size/\x=.int .u8 (s.data.toList.getD i 0).toNat:=by
 unfold qE at h;rw[bR]at h;obtain⟨b,h1,rfl⟩:=eA.1 h;have hl:=(bZ.1 h1).1;refine⟨by simpa using hl,?_⟩;rw[List.getD_eq_getElem?_getD,h1];rfl
theorem Nl {s:ByteArray}:(qE s).length=s.size:=by simp[qE]
theorem Zpm {src dst e:TypeId}{x:Operand}{x':bD}(hx:aW x=some x')(hs:P.underlying src=some .string)(hd:P.underlying dst=some (.slice e))(he:P.underlying e=some (.int .u8))(ho:o.op=.convert src dst x)
  (h:cD (.BB e x') d K σ) (hS:Sat N w0 m0 pl σ ρ m act w):oC P N w0 m0 pl o act w K:=by
 simp only[cD]at h;have h1:=hS.aW hx;split at h
 .rename_i s es;rw[es]at h1;obtain⟨fG,hK⟩:=h;have hr:(execOp act.eval o).run P w=.ok (.value (.slice (some ⟨w.heap.size,0,none⟩) s.size (grownCap w s.size 0 e))) (Lib.bytesWorld w e s):=by
   unfold execOp;simp only[ho,h1.SM,Sem.run_bind,Lib.run_convert_string_bytes w src dst e s hs hd he];rfl
  have rL:=ZgQ w e s;have wJ:=hS.ext rL;have D4:∀o,m w.heap.size o=none:=fun o=>hS.Eu (fE _) o
  let m':Mem:=fun b q=>if b=w.heap.size then(Lib.bytesWorld w e s).cell? ⟨b,q,none⟩else m b q
  have hm:Le m m':=fun b q v hv=>by
   show(if b=w.heap.size then _ else m b q)=some v;by_cases hb:b=w.heap.size
   .subst hb;rw[D4 q]at hv;cases hv
   .rw[if_neg hb];exact hv
  have mZ:Sat N w0 m0 pl σ ρ m' act (Lib.bytesWorld w e s):=by
   refine wJ.Zx3 hm (fun b q v hv=>?_) (fun t b k hb hk q=>?_) (fun b q v hv=>?_)
   .have rM:(if b=w.heap.size then(Lib.bytesWorld w e s).cell? ⟨b,q,none⟩else m b q)=some v:=hv;by_cases hb:b=w.heap.size
    .rw[if_pos hb]at rM;exact rM
    .rw[if_neg hb]at rM;exact wJ.mem b q v rM
   .show(if k=w.heap.size then _ else m k q)=none;have aI:=hS.G2 hb (((hS.bx t b hb).dS (fun r=>rL.block _ (hS.lt hb r))).1 hk);rw[if_neg (by omega)];exact wJ.eM t b k hb hk q
   .have rM:(if b=w.heap.size then(Lib.bytesWorld w e s).cell? ⟨b,q,none⟩else m b q)=some v:=hv;by_cases hb:b=w.heap.size
    .exact .inr (.inl (by rw[hb];exact hS.keep.size))
    .rw[if_neg hb]at rM;exact .inl rM
  have yK:=grownCap_ge w s.size 0 e;have hle:=grownCap_le_maxLen w s.size 0 e (by unfold maxLen;omega);have Ba:grownCap w s.size 0 e<=9223372036854775807:=by unfold maxLen at hle;omega
  have oP:∀j,j<s.size->m' w.heap.size j=some (.int .u8 (s.data.toList.getD j 0).toNat):=fun j hj=>by
   show(if w.heap.size=w.heap.size then _ else _)=_;rw[if_pos rfl];exact Lib.bytesWorld_cell w e s j hj
  refine⟨_,_,_,_,ρ,m',.inl hr,hK,mZ,.pv _ _ ?_,fun _=>rL⟩
  have:=dG.aE (m:=m') (some ⟨w.heap.size,0,none⟩) (grownCap w s.size 0 e) false 1 (qE s) (fun i=>[.int .u8 (s.data.toList.getD i 0).toNat]) (by rw[Nl];exact yK) Ba (fun h=>by cases h) (fun A hA=>by cases hA;rfl) (fun h=>by cases h)
   (fun i y hy=>⟨w.heap.size,0,rfl,At.j3 (fun j u hj=>by
    cases j with
    |zero=>
     cases hj
     have:=oP i (ZeF hy).1
     simpa using this
    |succ j=>cases hj)⟩)
   (fun i y hy=>by
    obtain⟨_,rfl⟩:=ZeF hy;exact⟨rfl,rfl,fun u hu=>by cases rU.1 hu;rfl⟩)
   (fun i y j u c hy hu hc=>by
    obtain⟨_,rfl⟩:=ZeF hy;cases j with
    |zero=>cases hu;cases hc;exact .int _ _
    |succ j=>cases hu)
  rw[Nl]at this;exact this
 .exact h.elim
theorem ZlX (m:Mem)(s:ByteArray):Flat m (Go.byteCells s) 1 (qE s):=by
 refine⟨by rw[Go.byteCells_length,Nl,Nat.mul_one],fun u hu=>?_,fun i x hi=>?_⟩
 .obtain⟨_,_,rfl⟩:=iL.1 hu;rfl
 .unfold qE at hi;rw[bR]at hi;obtain⟨b,hb,rfl⟩:=eA.1 hi;refine⟨rfl,fun j c hj=>?_⟩
  match j with
  |0=>
   cases hj;refine⟨.int .u8 b.toNat,?_,.int _ _⟩;unfold Go.byteCells;rw[Nat.mul_one,Nat.add_zero,bR,hb];rfl
  |j+1=>simp[PV.cells]at hj
theorem Zen {t u ty e:TypeId}{i:TypeInfo}{z:Value}(ht:P.underlying t=some (.slice e))(hu:P.underlying u=some .string)(hi:P.info? e=some i)(hz:i.zero=some z)(ba:Option Addr)(fI dN:Nat)(s:ByteArray)(k:Nat)(hk:s.size=k)(dU news:List Value)
  (ho:∀w',(∀A,w'.cell? A=w.cell? A)->(Builtin.firstCells i.size fI (.slice ba fI dN)).run P w'=.ok dU.toArray w') (hn:∀w',(∀A,w'.cell? A=w.cell? A)->(Builtin.firstCells i.size s.size (.string s)).run P w'=.ok news.toArray w')
  (hg:dN<fI+k) (Df:((fI+k:Nat):Int)<=9223372036854775807) (dE:Builtin.nextslicecap (fI+k) dN*i.bytes<=281474976710656):
  (Builtin.append_ #[t,u] ty #[.slice ba fI dN,.string s]).run P w =
   .ok (.slice (some ⟨w.heap.size,0,none⟩) (fI+k) (grownCap w (fI+k) dN e)) (w.drew.alloc (.cells ((dU++news).toArray++Builtin.zeroCells z.cells (grownCap w (fI+k) dN e-(fI+k))) e)):=by
 subst hk;have EV:¬(fI+s.size<=dN):=by omega
 have RJ:¬(9223372036854775807<((fI:Int)+(s.size:Int))):=by omega
 have RM:¬(281474976710656<Builtin.nextslicecap (fI+s.size) dN*i.bytes):=by omega
 have f1:=ho w.drew (fun A=>rfl);have f2:=hn w.drew (fun A=>rfl);simp[Builtin.append_,run_underlying ht,run_underlying hu,sizeOf,typeInfo,zeroValue,hi,hz,Builtin.lenOf,EV,RJ,RM,Question.forced,f1,f2,newRow,grownCap];rw[<-List.append_toArray,Array.append_assoc]
theorem Zgm {t u ty e:TypeId}{i:TypeInfo}(ht:P.underlying t=some (.slice e))(hu:P.underlying u=some .string)(hi:P.info? e=some i)(g q fI dN:Nat)(cur:Array Value)(hg:w.heap[g]?=some (.cells cur e (0,0)))(s:ByteArray)(k:Nat)(hk:s.size=k)(news:List Value)
  (hn:(Builtin.firstCells i.size s.size (.string s)).run P w=.ok news.toArray w) (h1:∀u∈news,u.oneCell'=true) (eP:fI+k<=dN) (dE:q+fI*i.size+news.length<=cur.size):
  (Builtin.append_ #[t,u] ty #[.slice (some ⟨g,q,none⟩) fI dN,.string s]).run P w=.ok (.slice (some ⟨g,q,none⟩) (fI+k) dN) (w.setRow g (aR cur.toList (q+fI*i.size) news).toArray):=by
 subst hk;have bQ:=run_storeCells_at P g (q+fI*i.size) e news 0 cur w hg (by simpa using dE) h1;simp only[Nat.add_zero]at bQ;simp[Builtin.append_,run_underlying ht,run_underlying hu,sizeOf,typeInfo,hi,Builtin.lenOf,eP,hn,NY,bQ,aR]
theorem ZhS {t u:TypeId}{c:Call}{x y:Operand}(hc:c.callee=.builtin .append)(ha:c.args.toList=[x,y])(ht:c.argTypes.toList=[t,u])(ho:o.op=.call c){v:Value}{w':World}(h:(Builtin.append_ #[t,u] o.type #[act.eval x,act.eval y]).run P w=.ok v w'):
  (execOp act.eval o).run P w=.ok (.value v) w':=by
 have fY:c.args=#[x,y]:=yU.1 (by simpa using ha);have sM:c.argTypes=#[t,u]:=yU.1 (by simpa using ht);unfold execOp;simp only[ho];simp[resolve,hc,fY,sM,invoke,builtin,h]
theorem Zrg {t u e n bytes:Nat}{i:TypeInfo}{z:PV}{c:Call}{x y:Operand}{x' y':bD}(hx:aW x=some x')(hy:aW y=some y')(he:eH P t=some (e,n,none))(hz:rW P e=some z)(hi:P.info? e=some i)(hb:i.bytes=bytes)(EV:n=1)(ZZ:P.underlying u=some .string)(PC:z.cells.length=n)
  (hc:c.callee=.builtin .append) (ha:c.args.toList=[x,y]) (ht:c.argTypes.toList=[t,u]) (ho:o.op=.call c) (h:cD (.VQ e n bytes x' y') d K σ) (hS:Sat N w0 m0 pl σ ρ m act w):F5 (∃nl,σ.o x'=.pv (.emp nl)) P N w0 m0 pl o act w K:=by
 simp only[cD]at h;have hn:0<n:=by omega
 obtain⟨hu,hs⟩:=KN he;obtain⟨i2,N5,fG⟩:=Hb hs;rw[hi]at N5;cases N5;unfold rW at hz;cases hv:gX P e with
 |none=>simp[hv]at hz
 |some zv=>
 simp only[hv,Option.bind_some]at hz;obtain⟨zi,K4,BT⟩:=He hv;rw[hi]at K4;cases K4;have tS:zv.cells.size=n:=by have:=(TF hz m).1;omega
 split at h
 .rename_i s0 PE;have hyr:=hS.aW hy;rw[PE]at hyr;have BU:act.eval y=.string s0:=hyr.SM;obtain⟨ys,PD⟩:∃ys,ys=qE s0:=⟨_,rfl⟩;obtain⟨yd,Jh⟩:∃yd,yd=Go.byteCells s0:=⟨_,rfl⟩;have Jg:s0.size=ys.length:=by rw[PD,Nl]
  have C5:Flat m yd n ys:=by rw[Jh,PD];subst EV;exact ZlX m s0
  rw[<-PD]at h;have vZ:∀w',(∀A,w'.cell? A=w.cell? A)->(Builtin.firstCells i.size s0.size (.string s0)).run P w'=.ok yd.toArray w':=fun w' hw=>by
   rw[fG,Jh];subst EV;exact Go.firstCells_string s0 w'
  refine Zlv (e:=e) (d:=d) hx hb hn fG tS C5 (fun ba L dN od pU y2 aI Df hf=>ZhS hc ha ht ho ?_) (fun g q L dN cur pU g1 hr hf=>ZhS hc ha ht ho ?_) (fun ba pU T1=>ZhS hc ha ht ho ?_) ?_ hS
  .rw[pU,BU];exact Zen hu ZZ hi BT ba L dN s0 ys.length Jg od yd y2 vZ aI Df hf
  .rw[pU,BU];exact Zgm hu ZZ hi g q L dN cur g1 s0 ys.length Jg yd (vZ w (fun _=>rfl)) C5.one hr hf
  .subst T1;have hf:=vZ w (fun _=>rfl);rw[Jg]at hf;have Rs:yd=[]:=List.eq_nil_of_length_eq_zero (by have:=C5.len;simpa using this);rw[Rs]at hf;have Rr:s0.size=0:=Jg;rw[pU,BU];simp only[List.length_nil]at hf ⊢;cases ba<;>simp[Builtin.append_,run_underlying hu,run_underlying ZZ,sizeOf,typeInfo,hi,Builtin.lenOf,Rr,hf,storeCells]
  .have T1:σ.cont (σ.o (.c (.aE false n ys))) n=some ys:=by simp[AS.o,AS.cont]
   simp only[bY,T1];split at h
   .rename_i nl ex;exact h
   .rename_i s n' lo len ex;split at h
    .rename_i tX;exact .inl h
    .exact h.elim
   .exact h.elim
 .exact h.elim
theorem Zt6 {t u e n bytes:Nat}{i:TypeInfo}{z:PV}{c:Call}{x y:Operand}{x' y':bD}(hx:aW x=some x')(hy:aW y=some y')(he:eH P t=some (e,n,none))(hz:rW P e=some z)(hi:P.info? e=some i)(hb:i.bytes=bytes)(EV:n=1)(ZZ:P.underlying u=some .string)(PC:z.cells.length=n)
  (hc:c.callee=.builtin .append) (ha:c.args.toList=[x,y]) (ht:c.argTypes.toList=[t,u]) (ho:o.op=.call c) (h:cD (.VQ e n bytes x' y') d K σ) (hS:Sat N w0 m0 pl σ ρ m act w):oC P N w0 m0 pl o act w K:=by
 obtain⟨v,w',a,KS,bW,m',h1,h2,h3,h4,_⟩:=Zrg hx hy he hz hi hb EV ZZ PC hc ha ht ho h hS;exact⟨v,w',a,KS,bW,m',h1,h2,h3,h4,fun hm=>by rw[ho]at hm;cases hm⟩
end
section
variable {P:Program}{N:Nat}{w0:World}{m0:Env w0}{pl:List Nat}{σ:AS}{ρ:Site->Loc}{m:Mem}{act:Act}{w:World}{o:Oper}{d:Nat}{K:AV->AS->Prop}
theorem Nx {x:Option Operand}{x':Option bD}(h:tP x=some x'):(x=none/\x'=none)\/∃a a',x=some a/\x'=some a'/\aW a=some a':=by
 cases x with
 |none=>simp[tP]at h;exact .inl ⟨rfl,h.symm⟩
 |some a=>
  simp only[tP,eA]at h;obtain⟨a',k1,rfl⟩:=h;exact .inr ⟨a,a',rfl,rfl,k1⟩
theorem Mw {l:List Operand}{x y:bD}(h:pI l=some [x,y]):∃a b,l=[a,b]/\aW a=some x/\aW b=some y:=by
 obtain⟨h1,h2⟩:=KL h
 match l,h1 with
 |[a,b],_=>
  obtain⟨x',k1,k2⟩:=h2 0 a rfl;obtain⟨y',k3,k4⟩:=h2 1 b rfl;simp at k1 k3;subst k1 k3;exact⟨a,b,rfl,k2,k4⟩
def lZ.still:lZ->Bool
 |.dV _=>true
 |.pick _ _ _=>true
 |.bin _ _ _ _=>true
 |.not _=>true
 |.neg _=>true
 |.yB _ _ _=>true
 |.build _ _=>true
 |.fa _ _=>true
 |.NC _ _ _ _=>true
 |.ia _ _ _ _=>true
 |.len _ _=>true
 |.ext _ _=>true
 |.yC _ _ _=>true
 |.vO _=>true
 |.jB _ _ _=>true
 |.conv _ _=>true
 |.J5 _ _ _ _ _ _=>true
 |.x y=>y.still
 |_=>false
def lZ.FN:lZ->Bool
 |.load _ _ _=>true
 |.x y=>y.read
 |_=>false
theorem Xy {y:Operand}{x:PV}(h:aW y=some (.c x)):(∃f,y=.func f)\/∃v,y=.const v/\nS v=some x:=by
 cases y with
 |tmp k=>simp[aW]at h
 |const v=>simp[aW]at h;exact .inr ⟨v,rfl,h⟩
 |func f=>exact .inl ⟨f,rfl⟩
 |global g=>simp[aW]at h
theorem Zgt {y:Operand}(h:aW y=some (.c (.emp (some true))))(act:Act):act.eval y=FP .sl:=by
 rcases Xy h with⟨f,rfl⟩|⟨v,rfl,hv⟩
 .simp[aW]at h
 .unfold nS at hv;split at hv<;>first|rfl|cases hv
theorem Zgu {y:Operand}(h:aW y=some (.c .eU))(act:Act):act.eval y=FP .pt:=by
 rcases Xy h with⟨f,rfl⟩|⟨v,rfl,hv⟩
 .simp[aW]at h
 .unfold nS at hv;split at hv<;>first|rfl|cases hv
theorem Zgv {y:Operand}(h:aW y=some (.c .cR))(act:Act):act.eval y=FP .mp:=by
 rcases Xy h with⟨f,rfl⟩|⟨v,rfl,hv⟩
 .simp[aW]at h
 .unfold nS at hv;split at hv<;>first|rfl|cases hv
theorem ZnB (hn:∀f l,nD P o.op≠.call f l)(h:bY (nD P o.op) d K σ)(hS:Sat N w0 m0 pl σ ρ m act w):oC P N w0 m0 pl o act w K:=by
 cases hop:o.op<;>rw[hop]at h hn<;>simp only[nD]at h hn
 case move x=>
  split at h
  .rename_i y e;exact(Mk e (.inl hop) h hS (G:=fun _=>True)).res trivial hS
  .exact h.elim
 case assign x=>
  split at h
  .rename_i y e;exact(Mk e (.inr hop) h hS (G:=fun _=>True)).res trivial hS
  .exact h.elim
 case pick c a b=>
  split at h
  .rename_i e1 e2 e3;exact(Zkh e1 e2 e3 hop h hS (G:=fun _=>True)).res trivial hS
  .exact h.elim
 case binOp op t x y u=>
  split at h
  .rename_i e1 e2 e3;exact(Mj e1 e2 hop h hS (fun e=>by cases e) (G:=fun _=>True)).res trivial hS
  .rename_i e1 e2 e3;exact(Mj e1 e2 hop h hS (fun _=>e3) (G:=fun _=>True)).res trivial hS
  .rename_i e1 e2 e3;exact(XK e1 (Zgt e2 act) ⟨_,e3⟩ hop h hS (G:=fun _=>True)).res trivial hS
  .rename_i e1 e2 e3;exact(XK e1 (Zgu e2 act) ⟨_,e3⟩ hop h hS (G:=fun _=>True)).res trivial hS
  .rename_i e1 e2 e3;exact(XK e1 (Zgv e2 act) ⟨_,_,e3⟩ hop h hS (G:=fun _=>True)).res trivial hS
  .exact h.elim
 case unOp op t x=>
  cases op<;>simp only at h
  case not=>
   split at h
   .rename_i e;exact(ZmH e hop h hS (G:=fun _=>True)).res trivial hS
   .exact h.elim
  case neg=>
   split at h
   .rename_i e;exact(ZmI e hop h hS (G:=fun _=>True)).res trivial hS
   .exact h.elim
  all_goals exact h.elim
 case box t x=>
  split at h
  .rename_i e1 e2;exact Zst e1 e2 hop h hS
  .exact h.elim
 case alloc t=>
  split at h
  .rename_i e1;exact ZmO e1 hop h hS
  .exact h.elim
 case build t ps=>
  split at h
  .rename_i e1 e2;split at h
   .rename_i e3;exact(Zh5 e1 e2 e3 hop h hS (G:=fun _=>True)).res trivial hS
   .exact h.elim
  .exact h.elim
 case buildSlice t len ps=>
  split at h
  .rename_i e1 e2;split at h
   .rename_i e3;exact ZlG e1 e2 e3.1 e3.2.1 e3.2.2.1 e3.2.2.2 hop h hS
   .exact h.elim
  .exact h.elim
 case load t x=>
  split at h
  .rename_i e1 e2 e3;exact(Zkj e1 e2 e3 hop h hS).res (.refl hS) hS
  .exact h.elim
 case store t x y=>
  split at h
  .rename_i e1 e2 e3;exact ZmF e1 e2 e3 hop h hS
  .exact h.elim
 case fieldAddr t x f=>
  split at h
  .rename_i e1 e2;exact(Zrv e1 e2 hop h hS (G:=fun _=>True)).res trivial hS
  .exact h.elim
 case indexAddr t x i=>
  split at h
  .rename_i e1 e2 e3;exact(Zru e1 e2 e3 hop h hS (G:=fun _=>True)).res trivial hS
  .exact h.elim
 case extract x i=>
  split at h
  .rename_i e1;exact(ZmM e1 hop h hS (G:=fun _=>True)).res trivial hS
  .exact h.elim
 case nilCheck x=>
  split at h
  .rename_i e1;exact(Zki e1 hop h hS (G:=fun _=>True)).res trivial hS
  .exact h.elim
 case convert src dst x=>
  split at h
  .rename_i e1 e2 e3;exact(Zkk e1 e2 e3 hop h hS (G:=fun _=>True)).res trivial hS
  .exact h.elim
 case makeFunc fn fs cs=>
  cases fn<;>simp only at h
  case func f=>
   split at h
   .rename_i e1 e2;exact(ZmJ e1 e2 hop h hS (G:=fun _=>True)).res trivial hS
   .exact h.elim
  all_goals exact h.elim
 case slice t x lo hi mx=>
  cases mx<;>simp only at h
  case none=>
   split at h
   .rename_i e1 e2 e3 e4;exact(ZmG e1 e2 (Nx e3) (Nx e4) hop h hS (G:=fun _=>True)).res trivial hS
   .exact h.elim
  case some=>exact h.elim
 case field t x f=>
  split at h
  .rename_i e1 e2;split at h
   .rename_i e3;split at h
    .rename_i e4 e5;exact(ZmL e1 e2 e3 e4 (by rw[e5];rfl) hop h hS (G:=fun _=>True)).res trivial hS
    .exact h.elim
   .exact h.elim
  .exact h.elim
 case makeSlice t l c=>
  split at h
  .rename_i e1 e2 e3;split at h
   .rename_i e4 e5;split at h
    .rename_i e6;exact Zss e2 e3 e1 e4 e5 rfl e6.1 e6.2 hop h hS
    .exact h.elim
   .exact h.elim
  .exact h.elim
 case call c=>
  split at h
  .rename_i hc;split at h
   .rename_i ha ht;split at h
    .rename_i e1 e2;exact(ZmK e1 e2 hc ha ht hop h hS (G:=fun _=>True)).res trivial hS
    .exact h.elim
   .exact h.elim
  .rename_i hc;split at h
   .rename_i ha ht;split at h
    .rename_i e1 e2 e3;split at h
     .rename_i e4 e5;split at h
      .rename_i e6;obtain⟨rfl,e7,e8⟩:=e6;obtain⟨v,w',a,KS,bW,m',k1,k2,k3,k4,k5⟩:=ZmN e1 e2 e3 e4 e5 rfl e7 e8 hc ha ht hop h hS;exact⟨v,w',a,KS,bW,m',k1,k2,k3,k4,fun hm=>by rw[hop]at hm;cases hm⟩
      .exact h.elim
     .exact h.elim
    .exact h.elim
   .exact h.elim
  .rename_i hc;split at h
   .rename_i e1;obtain⟨a,b,k1,k2,k3⟩:=Mw e1;exact(Nt (mx:=false) k2 k3 hc k1 hop h hS (G:=fun _=>True)).res trivial hS
   .exact h.elim
  .rename_i hc;split at h
   .rename_i e1;obtain⟨a,b,k1,k2,k3⟩:=Mw e1;exact(Nt (mx:=true) k2 k3 hc k1 hop h hS (G:=fun _=>True)).res trivial hS
   .exact h.elim
  .rename_i f hc;simp only[hc]at hn;split at h
   .rename_i e1 e2;simp only[e1,e2]at hn;exact absurd rfl (hn _ _)
   .exact h.elim
  .exact h.elim
 all_goals exact h.elim
theorem ZpS {e n bytes:Nat}{x' y':bD}(hn:nD P o.op=.app e n bytes x' y')(h:bY (nD P o.op) d K σ)(hS:Sat N w0 m0 pl σ ρ m act w):F5 (∃nl,σ.o x'=.pv (.emp nl)) P N w0 m0 pl o act w K:=by
 rw[hn]at h;cases hop:o.op<;>rw[hop]at hn
 case call c=>
  simp only[nD]at hn;split at hn
  case h_2 hc=>
   split at hn
   .rename_i ha ht;split at hn
    .rename_i e1 e2 e3;split at hn
     .rename_i e4 e5;split at hn
      .rename_i e6;obtain⟨rfl,e7,e8⟩:=e6;cases hn;exact ZmN e1 e2 e3 e4 e5 rfl e7 e8 hc ha ht hop h hS
      .cases hn
     .cases hn
    .cases hn
   .cases hn
  all_goals (exfalso;repeat' (first|(cases hn;done)|split at hn))
 case unOp op t x=>exfalso;cases op<;>simp only[nD]at hn<;>(try split at hn)<;>cases hn
 case makeFunc fn fs cs=>exfalso;cases fn<;>simp only[nD]at hn<;>(try split at hn)<;>cases hn
 case slice t x lo hi mx=>exfalso;cases mx<;>simp only[nD]at hn<;>(try split at hn)<;>cases hn
 all_goals (exfalso;simp only[nD,vP]at hn;repeat' (first|(cases hn;done)|split at hn))
theorem ZnA {G:World->Prop}(hn:(nD P o.op).still=true)(h:bY (nD P o.op) d K σ)(hS:Sat N w0 m0 pl σ ρ m act w):dB G P σ ρ m o act w K:=by
 cases hop:o.op<;>rw[hop]at h hn<;>simp only[nD]at h hn
 case move x=>
  split at h
  .rename_i y e;exact Mk e (.inl hop) h hS
  .exact h.elim
 case assign x=>
  split at h
  .rename_i y e;exact Mk e (.inr hop) h hS
  .exact h.elim
 case pick c a b=>
  split at h
  .rename_i e1 e2 e3;exact Zkh e1 e2 e3 hop h hS
  .exact h.elim
 case binOp op t x y u=>
  split at h
  .rename_i e1 e2 e3;exact Mj e1 e2 hop h hS (fun e=>by cases e)
  .rename_i e1 e2 e3;exact Mj e1 e2 hop h hS (fun _=>e3)
  .rename_i e1 e2 e3;exact XK e1 (Zgt e2 act) ⟨_,e3⟩ hop h hS
  .rename_i e1 e2 e3;exact XK e1 (Zgu e2 act) ⟨_,e3⟩ hop h hS
  .rename_i e1 e2 e3;exact XK e1 (Zgv e2 act) ⟨_,_,e3⟩ hop h hS
  .exact h.elim
 case unOp op t x=>
  cases op<;>simp only at h
  case not=>
   split at h
   .rename_i e;exact ZmH e hop h hS
   .exact h.elim
  case neg=>
   split at h
   .rename_i e;exact ZmI e hop h hS
   .exact h.elim
  all_goals exact h.elim
 case box t x=>
  split at h
  .rename_i e1 e2;simp_all [lZ.still]
  .exact h.elim
 case alloc t=>
  split at h
  .rename_i e1;simp_all [lZ.still]
  .exact h.elim
 case build t ps=>
  split at h
  .rename_i e1 e2;split at h
   .rename_i e3;exact Zh5 e1 e2 e3 hop h hS
   .exact h.elim
  .exact h.elim
 case buildSlice t len ps=>
  split at h
  .rename_i e1 e2;split at h
   .rename_i e3;simp_all [lZ.still]
   .exact h.elim
  .exact h.elim
 case load t x=>
  split at h
  .rename_i e1 e2 e3;simp_all [lZ.still]
  .exact h.elim
 case store t x y=>
  split at h
  .rename_i e1 e2 e3;simp_all [lZ.still]
  .exact h.elim
 case fieldAddr t x f=>
  split at h
  .rename_i e1 e2;exact Zrv e1 e2 hop h hS
  .exact h.elim
 case indexAddr t x i=>
  split at h
  .rename_i e1 e2 e3;exact Zru e1 e2 e3 hop h hS
  .exact h.elim
 case extract x i=>
  split at h
  .rename_i e1;exact ZmM e1 hop h hS
  .exact h.elim
 case nilCheck x=>
  split at h
  .rename_i e1;exact Zki e1 hop h hS
  .exact h.elim
 case convert src dst x=>
  split at h
  .rename_i e1 e2 e3;exact Zkk e1 e2 e3 hop h hS
  .exact h.elim
 case makeFunc fn fs cs=>
  cases fn<;>simp only at h
  case func f=>
   split at h
   .rename_i e1 e2;exact ZmJ e1 e2 hop h hS
   .exact h.elim
  all_goals exact h.elim
 case slice t x lo hi mx=>
  cases mx<;>simp only at h
  case none=>
   split at h
   .rename_i e1 e2 e3 e4;exact ZmG e1 e2 (Nx e3) (Nx e4) hop h hS
   .exact h.elim
  case some=>exact h.elim
 case field t x f=>
  split at h
  .rename_i e1 e2;split at h
   .rename_i e3;split at h
    .rename_i e4 e5;exact ZmL e1 e2 e3 e4 (by rw[e5];rfl) hop h hS
    .exact h.elim
   .exact h.elim
  .exact h.elim
 case makeSlice t l c=>
  split at h
  .rename_i e1 e2 e3;split at h
   .rename_i e4 e5;split at h
    .rename_i e6;simp_all [lZ.still]
    .exact h.elim
   .exact h.elim
  .exact h.elim
 case call c=>
  split at h
  .rename_i hc;split at h
   .rename_i ha ht;split at h
    .rename_i e1 e2;exact ZmK e1 e2 hc ha ht hop h hS
    .exact h.elim
   .exact h.elim
  .rename_i hc;split at h
   .rename_i ha ht;split at h
    .rename_i e1 e2 e3;split at h
     .rename_i e4 e5;split at h
      .rename_i e6;obtain⟨e0,e7,e8⟩:=e6
       simp_all [lZ.still]
      .exact h.elim
     .exact h.elim
    .exact h.elim
   .exact h.elim
  .rename_i hc;split at h
   .rename_i e1;obtain⟨a,b,k1,k2,k3⟩:=Mw e1;exact Nt (mx:=false) k2 k3 hc k1 hop h hS
   .exact h.elim
  .rename_i hc;split at h
   .rename_i e1;obtain⟨a,b,k1,k2,k3⟩:=Mw e1;exact Nt (mx:=true) k2 k3 hc k1 hop h hS
   .exact h.elim
  .rename_i f hc;simp only[hc]at hn;split at h
   .rename_i e1 e2;simp[e1,e2,lZ.still]at hn
   .exact h.elim
  .exact h.elim
 all_goals exact h.elim
theorem ZpR (hn:∃b n x,nD P o.op=.load b n x)(h:bY (nD P o.op) d K σ)(hS:Sat N w0 m0 pl σ ρ m act w):dB (fW σ ρ m w) P σ ρ m o act w K:=by
 obtain⟨b,n,x,hn⟩:=hn;cases hop:o.op<;>rw[hop]at h hn
 case load t x=>
  simp only[nD]at h;split at h
  .rename_i e1 e2 e3;exact Zkj e1 e2 e3 hop h hS
  .exact h.elim
 case unOp op t x=>
  clear h hS;cases op<;>simp only[nD]at hn<;>(try split at hn)<;>cases hn
 case makeFunc fn fs cs=>
  clear h hS;cases fn<;>simp only[nD]at hn<;>(try split at hn)<;>cases hn
 case slice t x lo hi mx=>
  clear h hS;cases mx<;>simp only[nD]at hn<;>(try split at hn)<;>cases hn
 all_goals (exfalso;clear h hS;simp only[nD,vP]at hn;repeat' (first|(cases hn;done)|split at hn))
def X6 (P:Program)(op:Op):Option W7:=match pM P op with
 |some y=>some y
 |none=>nV P op
def bC (P:Program)(op:Op):lZ:=match X6 P op with
 |some y=>.x y
 |none=>nD P op
theorem Ziq {op:Op}{y:W7}:nD P op≠.x y:=fun h=>by
 cases op
 case unOp op t x=>cases op<;>simp only[nD]at h<;>(try split at h)<;>cases h
 case makeFunc fn fs cs=>cases fn<;>simp only[nD]at h<;>(try split at h)<;>cases h
 case slice t x lo hi mx=>cases mx<;>simp only[nD]at h<;>(try split at h)<;>cases h
 all_goals (simp only[nD,vP]at h;repeat' (first|(cases h;done)|split at h))
theorem ZlR {y:W7}(hl:pM P o.op=some y)(h:cD y d K σ)(hS:Sat N w0 m0 pl σ ρ m act w):
  oC P N w0 m0 pl o act w K/\(∀G:World->Prop,y.still=true->dB G P σ ρ m o act w K)/\(y.read=true->dB (fW σ ρ m w) P σ ρ m o act w K):=by
 have still:(∀G:World->Prop,dB G P σ ρ m o act w K)->oC P N w0 m0 pl o act w K/\(∀G:World->Prop,y.still=true->dB G P σ ρ m o act w K)/\(y.read=true->dB (fW σ ρ m w) P σ ρ m o act w K):=
  fun h=>⟨(h (fun _=>True)).res trivial hS,fun G _=>h G,fun _=>h _⟩
 have read:y.still=false->dB (fW σ ρ m w) P σ ρ m o act w K->oC P N w0 m0 pl o act w K/\(∀G:World->Prop,y.still=true->dB G P σ ρ m o act w K)/\(y.read=true->dB (fW σ ρ m w) P σ ρ m o act w K):=
  fun hn h=>⟨h.res (.refl hS) hS,fun G e=>(by rw[hn]at e;cases e),fun _=>h⟩
 have r9:y.still=false->y.read=false->oC P N w0 m0 pl o act w K->oC P N w0 m0 pl o act w K/\(∀G:World->Prop,y.still=true->dB G P σ ρ m o act w K)/\(y.read=true->dB (fW σ ρ m w) P σ ρ m o act w K):=
  fun hn hr h=>⟨h,fun G e=>(by rw[hn]at e;cases e),fun e=>(by rw[hr]at e;cases e)⟩
 cases hop:o.op<;>rw[hop]at hl
 case binOp op t x y u=>
  simp only[pM]at hl;split at hl
  .rename_i e1 e2 e3;split at hl
   .rename_i hc;split at hl
    .cases hl;exact still fun G=>Zoh e1 e2 e3 hc (.inl ⟨rfl,rfl⟩) hop h hS
    .cases hl;exact still fun G=>Zoh e1 e2 e3 hc (.inr ⟨rfl,rfl⟩) hop h hS
    .cases hl
   .cases hl
  .cases hl
 case makeMap t r=>
  cases r with
  |none=>simp only[pM]at hl;cases hl;exact r9 rfl rfl (Zte hop h hS)
  |some r=>simp[pM]at hl
 case lookup t x i ok=>
  simp only[pM]at hl;split at hl
  .rename_i hu;split at hl
   .rename_i e1 e2 e3 e4;cases hl;exact read rfl (Zp8 e1 e2 hu e3 e4 hop h hS)
   .cases hl
  .cases hl
 case mapUpdate t x i v=>
  simp only[pM]at hl;split at hl
  .rename_i hu;split at hl
   .rename_i e1 e2 e3 e4;cases hl;exact r9 rfl rfl (Zmm e1 e2 e3 hu e4 (.inl hop) h hS)
   .cases hl
  .cases hl
 case insert t x i v=>
  simp only[pM]at hl;split at hl
  .rename_i hu;split at hl
   .rename_i e1 e2 e3 e4;cases hl;exact r9 rfl rfl (Zmm e1 e2 e3 hu e4 (.inr hop) h hS)
   .cases hl
  .cases hl
 case call c=>
  simp only[pM]at hl;split at hl
  .rename_i hc;split at hl
   .rename_i ha ht;split at hl
    .rename_i e1 e2;cases hl;exact read rfl (ZpZ e1 e2 hc ha ht hop h hS)
    .cases hl
   .cases hl
  .rename_i hc;split at hl
   .rename_i ha ht;split at hl
    .rename_i e1 e2 e3;split at hl
     .rename_i hn;cases hl;exact r9 rfl rfl (ZqB e1 e2 e3 hn hc ha ht hop h hS)
     .cases hl
    .cases hl
   .cases hl
  .rename_i hc;split at hl
   .rename_i ha ht;split at hl
    .rename_i e1 e2;split at hl
     .rename_i hz;split at hl
      .rename_i hn;cases hl;exact r9 rfl rfl (Zoz e1 e2 hz hn.1 hn.2 hc ha ht hop h hS)
      .cases hl
     .cases hl
    .cases hl
   .cases hl
  .cases hl
 case slice t x lo hi mx=>
  cases lo with
  |some lo=>simp[pM]at hl
  |none=>
   cases hi with
   |none=>
    cases mx with
    |some mx=>simp[pM]at hl
    |none=>
     simp only[pM]at hl;split at hl
     .rename_i e1 e2;split at hl
      .rename_i hn;cases hl;exact r9 rfl rfl (Zpi e1 e2 hn hop h hS)
      .cases hl
     .cases hl
   |some hi=>
    cases mx with
    |some mx=>simp[pM]at hl
    |none=>
     simp only[pM]at hl;split at hl
     .rename_i e1 e2 e3;split at hl
      .rename_i hn;cases hl;exact r9 rfl rfl (Zsv e1 e2 e3 hn hop h hS)
      .cases hl
     .rename_i e1 e2 e3;split at hl
      .rename_i hn;cases hl;exact r9 rfl rfl (Zsu e1 e2 e3 hn hop h hS)
      .cases hl
     .cases hl
 all_goals (simp[pM]at hl)
theorem ZlS {y:W7}(hl:nV P o.op=some y)(h:cD y d K σ)(hS:Sat N w0 m0 pl σ ρ m act w):
  oC P N w0 m0 pl o act w K/\(∀G:World->Prop,y.still=true->dB G P σ ρ m o act w K)/\(y.read=true->dB (fW σ ρ m w) P σ ρ m o act w K):=by
 have still:(∀G:World->Prop,dB G P σ ρ m o act w K)->oC P N w0 m0 pl o act w K/\(∀G:World->Prop,y.still=true->dB G P σ ρ m o act w K)/\(y.read=true->dB (fW σ ρ m w) P σ ρ m o act w K):=
  fun h=>⟨(h (fun _=>True)).res trivial hS,fun G _=>h G,fun _=>h _⟩
 have r9:y.still=false->y.read=false->oC P N w0 m0 pl o act w K->oC P N w0 m0 pl o act w K/\(∀G:World->Prop,y.still=true->dB G P σ ρ m o act w K)/\(y.read=true->dB (fW σ ρ m w) P σ ρ m o act w K):=
  fun hn hr h=>⟨h,fun G e=>(by rw[hn]at e;cases e),fun e=>(by rw[hr]at e;cases e)⟩
 cases hop:o.op<;>rw[hop]at hl
 case binOp op t x y u=>
  cases op
  case add=>
   simp only[nV]at hl;split at hl
   .rename_i e1 e2 e3;cases hl;exact still fun G=>Zpl e1 e2 hop h hS
   .cases hl
  case eql=>
   simp only[nV]at hl;split at hl
   .rename_i e1 e2 e3;cases hl;exact still fun G=>ZnL (neg:=false) e1 e2 e3 hop h hS
   .cases hl
  case neq=>
   simp only[nV]at hl;split at hl
   .rename_i e1 e2 e3;cases hl;exact still fun G=>ZnL (neg:=true) e1 e2 e3 hop h hS
   .cases hl
  all_goals (simp[nV]at hl)
 case makeInterface t x=>
  simp only[nV]at hl;split at hl
  .cases hl
  .rename_i e1 e2 e3;cases hl;exact still fun G=>Ztf e2 e3 (fun ms k=>e1 ms k) hop h hS
  .cases hl
 case alloc t=>
  simp only[nV]at hl;split at hl
  .rename_i v hv;split at hl
   .rename_i hc;split at hl
    .cases hl;exact r9 rfl rfl (Zuh hv hc hop h hS)
    .cases hl
   .cases hl
  .cases hl
 case panic x=>
  simp only[nV]at hl;split at hl
  .cases hl;exact h.elim
  .cases hl
 case typeAssert x s t c=>
  cases c
  .simp[nV]at hl
  .simp only[nV]at hl;split at hl
   .cases hl
   .rename_i e1 e2 e3 e4;cases hl;exact still fun G=>Zsd e2 e3 (fun ms k=>e1 ms k) e4 hop h hS
   .cases hl
 case index t x i=>
  simp only[nV]at hl;split at hl
  .rename_i e1 e2 e3;cases hl;exact still fun G=>Zpk e1 e2 e3 hop h hS
  .cases hl
 case slice t x lo hi mx=>
  cases mx with
  |some mx=>simp[nV]at hl
  |none=>
   simp only[nV]at hl;split at hl
   .rename_i e1 e2 e3 e4;cases hl;exact still fun G=>Zsm e1 e2 e3 e4 hop h hS
   .cases hl
 case convert src dst x=>
  simp only[nV]at hl;split at hl
  .rename_i e1 e2 e3;split at hl
   .rename_i e4;cases hl;exact r9 rfl rfl (Zsr e1 e2 e4 e3 hop h hS)
   .cases hl
  .rename_i e1 e2 e3;split at hl
   .rename_i e4;cases hl;exact r9 rfl rfl (Zpm e1 e2 e3 e4 hop h hS)
   .cases hl
  .cases hl
 case call c=>
  simp only[nV]at hl;split at hl
  .rename_i hc;split at hl
   .rename_i ha ht;split at hl
    .rename_i e1 e2;cases hl;exact still fun G=>Zph e1 e2 hc ha ht hop h hS
    .cases hl
   .cases hl
  .rename_i hc;split at hl
   .rename_i ha ht;split at hl
    .rename_i e1 e2 e3 e4;split at hl
     .rename_i e5 e6;split at hl
      .rename_i hn;cases hl;exact r9 rfl rfl (Zt6 e1 e2 e3 e5 e6 rfl hn.1 e4 hn.2 hc ha ht hop h hS)
      .cases hl
     .cases hl
    .cases hl
   .cases hl
  .cases hl
 all_goals (simp[nV]at hl)
theorem Zdw {y:W7}(hl:X6 P o.op=some y)(h:cD y d K σ)(hS:Sat N w0 m0 pl σ ρ m act w):
  oC P N w0 m0 pl o act w K/\(∀G:World->Prop,y.still=true->dB G P σ ρ m o act w K)/\(y.read=true->dB (fW σ ρ m w) P σ ρ m o act w K):=by
 unfold X6 at hl;split at hl
 .rename_i y' hx;cases hl;exact ZlR hx h hS
 .exact ZlS hl h hS
theorem ZpQ (hn:∀f l,bC P o.op≠.call f l)(h:bY (bC P o.op) d K σ)(hS:Sat N w0 m0 pl σ ρ m act w):oC P N w0 m0 pl o act w K:=by
 unfold bC at h hn;split at h
 .rename_i y hl;exact(Zdw hl h hS).1
 .rename_i hl;rw[hl]at hn;exact ZnB hn h hS
theorem Zs4 {e n bytes:Nat}{x' y':bD}(hn:bC P o.op=.app e n bytes x' y')(h:bY (bC P o.op) d K σ)(hS:Sat N w0 m0 pl σ ρ m act w):F5 (∃nl,σ.o x'=.pv (.emp nl)) P N w0 m0 pl o act w K:=by
 unfold bC at h hn;split at h
 .rename_i y hl;rw[hl]at hn;cases hn
 .rename_i hl;rw[hl]at hn;exact ZpS hn h hS
theorem ZpP {G:World->Prop}(hn:(bC P o.op).still=true)(h:bY (bC P o.op) d K σ)(hS:Sat N w0 m0 pl σ ρ m act w):dB G P σ ρ m o act w K:=by
 unfold bC at h hn;split at h
 .rename_i y hl;rw[hl]at hn;exact(Zdw hl h hS).2.1 G hn
 .rename_i hl;rw[hl]at hn;exact ZnA hn h hS
theorem Zs3 (hn:(bC P o.op).FN=true)(h:bY (bC P o.op) d K σ)(hS:Sat N w0 m0 pl σ ρ m act w):dB (fW σ ρ m w) P σ ρ m o act w K:=by
 unfold bC at h hn;split at h
 .rename_i y hl;rw[hl]at hn;exact(Zdw hl h hS).2.2 hn
 .rename_i hl;rw[hl]at hn;dsimp only at hn;refine ZpR ?_ h hS;cases hx:nD P o.op<;>rw[hx]at hn<;>first|exact⟨_,_,_,rfl⟩|(exact absurd hx Ziq)|cases hn
theorem ZfG {f:bD}{l:List bD}(h:bC P o.op=.call f l):nD P o.op=.call f l:=by
 unfold bC at h;split at h
 .cases h
 .exact h
theorem ZlT {h:lZ}(hh:bC P o.op=h)(hx:∀y,h≠.x y):nD P o.op=h:=by
 unfold bC at hh;split at hh
 .rename_i y _;exact absurd hh.symm (hx y)
 .exact hh
end
end Go.Proofs.YthmbecacehfgfaaGreatDoor
