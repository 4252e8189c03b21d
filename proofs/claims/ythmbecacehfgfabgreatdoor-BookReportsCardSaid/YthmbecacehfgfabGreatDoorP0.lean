import Derived.WalkKit
import Derived.Lib.Hide
import Derived.Lib.ItoaNum
import Derived.WalkSpells
import Derived.Deep.MidRow
import Derived.Laws.CopyRow
import Derived.Laws.Tables
import Derived.Laws.MakeOwn
import Derived.Laws.Small
import Derived.Great.BuildSlice
import Derived.Laws.Cover3
import Derived.Laws.Pointers
import Derived.DeepKeys3
import Derived.MapKept
import Derived.RangeFuncRecord
import Derived.Laws.Concat
import Derived.Laws.BytesString
import Derived.Laws.AppendOwn
import Derived.Deep.AppendSrc
import Derived.Lib.ConvBytes
set_option linter.unusedSimpArgs false
set_option linter.unusedVariables false
namespace Go.Proofs
set_option linter.defProp false
def tR:=@Nat.le_of_ble_eq_true
def bC:=@List.getElem?_eq_getElem
def bY:=@List.getElem?_map
def cD:=@List.getElem?_eq_some_iff
def dK:=@Bool.and_eq_true
def dL:=@List.mem_of_getElem?
def eB:=@Option.map_eq_some_iff
def fH:=@Nat.le_refl
def fQ:=@List.take_of_length_le
def fZ:=@List.length_map
def gF:=@List.length_append
def gM:=@List.length_take
def gW:=@Nat.zero_le
def iO:=@List.mem_iff_getElem?
def iN:=@List.mem_map
def iS:=@List.map_cons
def iZ:=@List.mem_filter
def jI:=@List.contains_iff_mem
def jT:=@List.mem_cons
def lM:=@Nat.le_trans
def mH:=@List.getElem?_take
def mL:=@List.map_append
def mW:=@List.getElem?_drop
def mV:=@List.take_add_one
def nD:=@List.take_length
def w9:=@List.findIdx?_cons
def pB:=@List.any_eq_true
def pI:=@List.length_cons
def qL:=@Array.getElem?_eq_some_iff
def rB:=@Bool.eq_iff_iff
def rM:=@List.all_eq_true
def sG:=@List.mem_singleton
def sF:=@Nat.zero_add
def sE:=@Option.getD_some
def sD:=@Bool.or_eq_true
def sS:=@List.mem_append
def uQ:=@List.length_drop
def vC:=@Array.length_toList
def vB:=@Option.map_some
def vA:=@Array.getElem?_eq_getElem
def xC:=@List.append_nil
def xT:=@List.filter_cons
def xS:=@Array.toList_inj
def zC:=@List.size_toArray
def zB:=@List.getElem?_append
def A2:=@List.getElem_mem
def A1:=@Int.toNat_natCast
def I5:=@Nat.mul_le_mul_right
def I4:=@List.getElem?_toArray
def I3:=@List.append_assoc
def I2:=@List.filter_append
def I1:=@List.pairwise_cons
def O7:=@Array.getElem?_toList
def O6:=@List.getElem?_set_self
def R3:=@List.pairwise_iff_getElem
def Q7:=@List.length_filter_le
def AY:=@List.drop_eq_getElem_cons
def EO:=@List.nodup_iff_pairwise_ne
def JY:=@List.findIdx?_eq_some_iff_getElem
end Go.Proofs
set_option maxHeartbeats 32000000
set_option maxRecDepth 100000
namespace Go.Proofs.YthmbecacehfgfabGreatDoor
open Go.RowKit
abbrev Ext (w w':World):Prop:=Below w.heap.size w w'
theorem Ext.tS (w:World):Ext w w:=Below.refl _ _
theorem Ext.trans' {a b c:World}(h:Ext a b)(k:Ext b c):Ext a c:=Below.trans h (Below.mono k h.size)
theorem Ext.al (w:World)(o:Obj):Ext w (w.alloc o):=(Below.refl _ _).alloc (fH _) o
theorem Ext.dr (w:World):Ext w w.drew:=(Below.refl _ _).drew
theorem up {b n:Nat}(h:b<n):b<n+1/\b<n+1+1/\b<n+1+1+1/\b<n+1+1+1+1/\b<n+1+1+1+1+1/\b<n+1+1+1+1+1+1:=by omega
theorem BJ {w:World}{b o:Nat}{v:Value}(h:w.cell? ⟨b,o,none⟩=some v):b<w.heap.size:=by
 unfold World.cell? at h;cases hb:w.heap[b]? with
 |none=>simp[hb]at h
 |some x=>exact(qL.1 hb).1
theorem Ext.cell {w w':World}(h:Ext w w'){b o:Nat}{v:Value}(hc:w.cell? ⟨b,o,none⟩=some v):w'.cell? ⟨b,o,none⟩=some v:=
 (Below.cell h (p:=⟨b,o,none⟩) (BJ hc)).trans hc
abbrev Mem:=Nat->Nat->Option Value
def _root_.Go.World.mem (w:World):Mem:=fun b o=>w.cell? ⟨b,o,none⟩
instance:Coe World Mem:=⟨World.mem⟩
def Le (m m':Mem):Prop:=∀b o v,m b o=some v->m' b o=some v
theorem Le.refl (m:Mem):Le m m:=fun _ _ _ h=>h
theorem Le.trans {a b c:Mem}(h:Le a b)(k:Le b c):Le a c:=fun x o v e=>k x o v (h x o v e)
theorem Ext.le {w w':World}(h:Ext w w'):Le w.mem w'.mem:=fun _ _ _ hc=>h.cell hc
def At (m:Mem)(b:Nat):Nat->List Value->Prop
 |_,[]=>True
 |o,c::cs=>m b o=some c/\At m b (o+1) cs
theorem At.mono {m m':Mem}(h:Le m m'){b:Nat}:∀{cs:List Value} {o:Nat},At m b o cs->At m' b o cs
 |[],_,_=>trivial
 |_::_,_,⟨h1,h2⟩=>⟨h _ _ _ h1,At.mono h h2⟩
theorem At.get {m:Mem}{b:Nat}:∀{cs:List Value} {o:Nat},At m b o cs->∀(j:Nat) (u:Value),cs[j]?=some u->m b (o+j)=some u
 |[],_,_,j,u,h=>by simp at h
 |c::cs,o,⟨h1,h2⟩,0,u,h=>by simp at h;subst h;exact h1
 |c::cs,o,⟨h1,h2⟩,j+1,u,h=>by
  have:=At.get h2 j u (by simpa using h)
  rwa [show o+(j+1)=o+1+j by omega]
theorem At.j8 {m:Mem}{b:Nat}:∀{cs:List Value} {o:Nat},(∀(j:Nat) (u:Value),cs[j]?=some u->m b (o+j)=some u)->At m b o cs
 |[],_,_=>trivial
 |c::cs,o,h=>⟨h 0 c rfl,At.j8 (fun j u hj=>by have:=h (j+1) u (by simpa using hj);rwa [show o+1+j=o+(j+1) by omega])⟩
structure R (α:Type) where
 n:Nat
 r:Mem->List Value->α->Prop
 mono:∀{m m':Mem} {cs:List Value} {x:α},Le m m'->r m cs x->r m' cs x
 len:∀{m:Mem} {cs:List Value} {x:α},r m cs x->cs.length=n
 one:∀{m:Mem} {cs:List Value} {x:α},r m cs x->∀u∈cs,u.oneCell'=true
 npos:0<n
section
variable {α:Type}{a:R α}{e:TypeId}{S:List Nat}{w w':World}{v:Value}{xs:List α}
end
theorem Zvq {b o j:Nat}:(⟨b,o,none⟩:Addr).add j=⟨b,o+j,none⟩:=by unfold Addr.add;split<;>simp_all
section
variable {P:Program}{α:Type}{a:R α}{t ty e:TypeId}{bytes:Nat}{S:List Nat}{w:World}{v:Value}{xs ys:List α}{ad:Option Addr}{cp:Nat}
end
def nP (m:Mem)(w:World):Prop:=(∃z,m 1 0=some (.int .i64 z))/\(∃t p,m 2 0=some (.iface t p))/\(∃t p,m 3 0=some (.iface t p))/\(∃v,m 0 0=some v)/\
 ∃t fr,w.heap[0]?=some (.cells (Lib.pow10Tab.map (Value.int .u64)).toArray t fr)
theorem nP.mono {m m':Mem}{w:World}(h:nP m w)(hm:Le m m'):nP m' w:=
 let ⟨⟨z,h1⟩,⟨t,p,h2⟩,⟨t',p',h3⟩,⟨v,h4⟩,h5⟩:=h
 ⟨⟨z,hm _ _ _ h1⟩,⟨t,p,hm _ _ _ h2⟩,⟨t',p',hm _ _ _ h3⟩,⟨v,hm _ _ _ h4⟩,h5⟩
theorem nP.keep {m:Mem}{w w':World}(h:nP m w)(hk:∀k o v,k<w.heap.size->m k o=some v->w'.heap[k]?=w.heap[k]?):nP m w':=by
 obtain⟨h1,h2,h3,⟨v,h4⟩,t,fr,h5⟩:=h;exact⟨h1,h2,h3,⟨v,h4⟩,t,fr,by rw[hk _ 0 v (qL.1 h5).1 h4];exact h5⟩
inductive PV where
 |int (k:IntKind) (n:Int)
 |bool (b:Bool)
 |str (s:ByteArray)
 |eX
 |dP
 |cV
 |eY
 |P6
 |emp (nl:Option Bool)
 |aF (nn:Bool) (n:Nat) (xs:List PV)
 |ref (cs:List PV)
 |fn (f:FuncId) (fs cs:List PV)
 |agg (cs:List PV)
 |bN (vs:List PV)
 |iface (t:TypeId) (x:PV)
 deriving Inhabited
def PV.cells:PV->List PV
 |.agg cs=>cs
 |x=>[x]
abbrev KI (A:Addr):Prop:=A.spot=A.spot
inductive dH (m:Mem):Value->PV->Prop where
 |int (k n):dH m (.int k n) (.int k n)
 |bool (b):dH m (.bool b) (.bool b)
 |str (s):dH m (.string s) (.str s)
 |eX:dH m (.pointer none) .eX
 |dP:dH m .nilFunc .dP
 |cV:dH m (.map none) .cV
 |eY:dH m .nilIface .eY
 |P6 (v:Value) (h:v.oneCell'=true):dH m v .P6
 |emp (a:Option Addr) (nl:Option Bool) (h0:nl=some true->a=none) (h1:nl=some false->a≠none) (h2:∀A,a=some A->KI A):dH m (.slice a 0 0) (.emp nl)
 |aF (a:Option Addr) (cap:Nat) (nn:Bool) (n:Nat) (xs:List PV) (ds:Nat->List Value) (h0:xs.length<=cap) (h1:cap<=9223372036854775807)
   (h2:a=none->cap=0) (h3:∀A,a=some A->KI A) (h4:nn=true->a≠none)
   (h5:∀(i:Nat) (x:PV),xs[i]?=some x->∃b o,a=some ⟨b,o,none⟩/\At m b (o+i*n) (ds i))
   (h6:∀(i:Nat) (x:PV),xs[i]?=some x->(ds i).length=n/\x.cells.length=n/\∀d∈ds i,d.oneCell'=true)
   (h7:∀(i:Nat) (x:PV) (j:Nat) (d:Value) (c:PV),xs[i]?=some x->(ds i)[j]?=some d->x.cells[j]?=some c->dH m d c):dH m (.slice a xs.length cap) (.aF nn n xs)
 |ref (b o:Nat) (cs:List PV) (ds:List Value) (h0:At m b o ds) (h1:ds.length=cs.length) (h2:∀d∈ds,d.oneCell'=true)
   (h3:∀(j:Nat) (d:Value) (c:PV),ds[j]?=some d->cs[j]?=some c->dH m d c):dH m (.pointer (some ⟨b,o,none⟩)) (.ref cs)
 |fn (f:FuncId) (vf vc:Array Value) (fs cs:List PV) (h0:vf.size=fs.length) (h1:vc.size=cs.length)
   (h2:∀(j:Nat) (d:Value) (c:PV),vf[j]?=some d->fs[j]?=some c->dH m d c) (h3:∀(j:Nat) (d:Value) (c:PV),vc[j]?=some d->cs[j]?=some c->dH m d c):dH m (.func (.func f) vf vc) (.fn f fs cs)
 |agg (vs:Array Value) (cs:List PV) (h0:vs.size=cs.length) (h1:∀d∈vs,d.oneCell'=true) (h2:∀(j:Nat) (d:Value) (c:PV),vs[j]?=some d->cs[j]?=some c->dH m d c):dH m (.agg vs) (.agg cs)
 |bN (vs:Array Value) (cs:List PV) (h0:vs.size=cs.length) (h2:∀(j:Nat) (d:Value) (c:PV),vs[j]?=some d->cs[j]?=some c->dH m d c):dH m (.tuple vs) (.bN cs)
 |iface (t:TypeId) (v:Value) (x:PV) (h:dH m v x):dH m (.iface t v) (.iface t x)
theorem dH.mono {m m':Mem}(hm:Le m m'){v:Value}{x:PV}(h:dH m v x):dH m' v x:=by
 induction h with
 |int k n=>exact .int k n
 |bool b=>exact .bool b
 |str s=>exact .str s
 |eX=>exact .eX
 |dP=>exact .dP
 |cV=>exact .cV
 |eY=>exact .eY
 |P6 v h=>exact .P6 v h
 |emp a nl h0 h1 h2=>exact .emp a nl h0 h1 h2
 |aF a cap nn n xs ds h0 h1 h2 h3 h4 h5 h6 h7 ih=>exact .aF a cap nn n xs ds h0 h1 h2 h3 h4 (fun i x hx=>let ⟨b,o,e,k⟩:=h5 i x hx;⟨b,o,e,k.mono hm⟩) h6 ih
 |ref b o cs ds h0 h1 h2 h3 ih=>exact .ref b o cs ds (h0.mono hm) h1 h2 ih
 |fn f vf vc fs cs h0 h1 h2 h3 ih1 CN=>exact .fn f vf vc fs cs h0 h1 ih1 CN
 |agg vs cs h0 h1 h2 ih=>exact .agg vs cs h0 h1 ih
 |bN vs cs h0 h2 ih=>exact .bN vs cs h0 ih
 |iface t v x h ih=>exact .iface t v x ih
inductive Site where
 |par (i:Nat)
 |loc (d j:Nat)
 |ret (j:Nat)
 deriving DecidableEq,Inhabited
def Site.fP (d:Nat):Site->Bool
 |.loc e _=>d==e
 |_=>false
structure Loc where
 b:Nat
 o:Nat
 cap:Nat
 real:Bool
 deriving Inhabited
inductive AV where
 |any
 |pv (x:PV)
 |ptr (s:Site) (off:Nat)
 |lG (s:Site) (n i off:Nat)
 |vec (s:Site) (n lo len:Nat)
 |mp (s:Site)
 |nQ (s:Site)
 |fn (f:FuncId) (fs cs:List AV)
 |agg (cs:List AV)
 |bN (vs:List AV)
 deriving Inhabited
def AV.cells:AV->List AV
 |.agg cs=>cs
 |.pv (.agg cs)=>cs.map .pv
 |a=>[a]
inductive bQ (ρ:Site->Loc)(m:Mem):Value->AV->Prop where
 |any (v):bQ ρ m v .any
 |pv (v x) (h:dH m v x):bQ ρ m v (.pv x)
 |ptr (s off):bQ ρ m (.pointer (some ⟨(ρ s).b,off,none⟩)) (.ptr s off)
 |lG (s n i off):bQ ρ m (.pointer (some ⟨(ρ s).b,(ρ s).o+i*n+off,none⟩)) (.lG s n i off)
 |vec (s n lo len cap) (h0:len<=cap) (h1:lo+cap<=(ρ s).cap) (h2:(ρ s).real=true):bQ ρ m (.slice (some ⟨(ρ s).b,(ρ s).o+lo*n,none⟩) len cap) (.vec s n lo len)
 |nG (s n lo a) (h:∀A,a=some A->KI A):bQ ρ m (.slice a 0 0) (.vec s n lo 0)
 |mp (s):bQ ρ m (.map (some (ρ s).b)) (.mp s)
 |nQ (s):bQ ρ m (.func (.yield (ρ s).b) #[] #[]) (.nQ s)
 |fn (f:FuncId) (vf vc:Array Value) (fs cs:List AV) (h0:vf.size=fs.length) (h1:vc.size=cs.length)
   (h2:∀(j:Nat) (d:Value) (c:AV),vf[j]?=some d->fs[j]?=some c->bQ ρ m d c) (h3:∀(j:Nat) (d:Value) (c:AV),vc[j]?=some d->cs[j]?=some c->bQ ρ m d c):bQ ρ m (.func (.func f) vf vc) (.fn f fs cs)
 |agg (vs:Array Value) (cs:List AV) (h0:vs.size=cs.length) (h1:∀d∈vs,d.oneCell'=true) (h2:∀(j:Nat) (d:Value) (c:AV),vs[j]?=some d->cs[j]?=some c->bQ ρ m d c):bQ ρ m (.agg vs) (.agg cs)
 |bN (vs:Array Value) (cs:List AV) (h0:vs.size=cs.length) (h2:∀(j:Nat) (d:Value) (c:AV),vs[j]?=some d->cs[j]?=some c->bQ ρ m d c):bQ ρ m (.tuple vs) (.bN cs)
mutual
def AV.has (d:Nat):AV->Bool
 |.any=>false
 |.pv _=>false
 |.ptr s _=>s.fP d
 |.lG s _ _ _=>s.fP d
 |.vec s _ _ _=>s.fP d
 |.mp s=>s.fP d
 |.nQ s=>s.fP d
 |.fn _ fs cs=>AV.rC d fs||AV.rC d cs
 |.agg cs=>AV.rC d cs
 |.bN vs=>AV.rC d vs
def AV.rC (d:Nat):List AV->Bool
 |[]=>false
 |a::r=>AV.has d a||AV.rC d r
end
theorem AV.OO {d:Nat}:∀{l:List AV} {i:Nat} {a:AV},AV.rC d l=false->l[i]?=some a->a.has d=false
 |[],i,a,_,h=>by simp at h
 |b::r,0,a,hl,h=>by
  simp[AV.rC]at hl h;subst h;exact hl.1
 |b::r,i+1,a,hl,h=>by
  simp only[AV.rC,Bool.or_eq_false_iff]at hl;exact AV.OO hl.2 (by simpa using h)
theorem bQ.mono {ρ bX:Site->Loc}{m m':Mem}(hm:Le m m'){d:Nat}(K4:∀s,s.fP d=false->bX s=ρ s){v:Value}{a:AV}(h:bQ ρ m v a)(ha:a.has d=false):bQ bX m' v a:=by
 induction h with
 |any v=>exact .any v
 |pv v x h=>exact .pv v x (h.mono hm)
 |ptr s off=>rw[AV.has]at ha;rw[<-K4 s ha];exact .ptr s off
 |lG s n i off=>rw[AV.has]at ha;rw[<-K4 s ha];exact .lG s n i off
 |vec s n lo len cap h0 h1 h2=>rw[AV.has]at ha;rw[<-K4 s ha]at h1 h2 ⊢;exact .vec s n lo len cap h0 h1 h2
 |nG s n lo a h=>exact .nG s n lo a h
 |mp s=>rw[AV.has]at ha;rw[<-K4 s ha];exact .mp s
 |nQ s=>rw[AV.has]at ha;rw[<-K4 s ha];exact .nQ s
 |fn f vf vc fs cs h0 h1 h2 h3 CN QA=>
  simp only[AV.has,Bool.or_eq_false_iff]at ha;exact .fn f vf vc fs cs h0 h1 (fun j d c k1 k2=>CN j d c k1 k2 (AV.OO ha.1 k2)) (fun j d c k1 k2=>QA j d c k1 k2 (AV.OO ha.2 k2))
 |agg vs cs h0 h1 h2 ih=>
  rw[AV.has]at ha;exact .agg vs cs h0 h1 (fun j d c k1 k2=>ih j d c k1 k2 (AV.OO ha k2))
 |bN vs cs h0 h2 ih=>
  rw[AV.has]at ha;exact .bN vs cs h0 (fun j d c k1 k2=>ih j d c k1 k2 (AV.OO ha k2))
theorem bQ.more {ρ:Site->Loc}{m m':Mem}(hm:Le m m'){v:Value}{a:AV}(h:bQ ρ m v a):bQ ρ m' v a:=by
 induction h with
 |any v=>exact .any v
 |pv v x h=>exact .pv v x (h.mono hm)
 |ptr s off=>exact .ptr s off
 |lG s n i off=>exact .lG s n i off
 |vec s n lo len cap h0 h1 h2=>exact .vec s n lo len cap h0 h1 h2
 |nG s n lo a h=>exact .nG s n lo a h
 |mp s=>exact .mp s
 |nQ s=>exact .nQ s
 |fn f vf vc fs cs h0 h1 h2 h3 CN QA=>exact .fn f vf vc fs cs h0 h1 CN QA
 |agg vs cs h0 h1 h2 ih=>exact .agg vs cs h0 h1 ih
 |bN vs cs h0 h2 ih=>exact .bN vs cs h0 ih
structure Jg where
 rd:Loc->Mem->World->Prop
 ins:Loc->World->List Nat
 same:∀(l:Loc) (w w':World),w'.heap[l.b]?=w.heap[l.b]?->ins l w'=ins l w
 obj:∀(l:Loc) (m:Mem) (w:World),rd l m w->∃cs T,w.heap[l.b]?=some (.cells cs T (0,0))
 wE:∀(l:Loc) (m:Mem) (w:World) (k:Nat),rd l m w->k∈ins l w->∃cs T,w.heap[k]?=some (.cells cs T (0,0))
 more:∀(l:Loc) (m m':Mem) (w w':World),rd l m w->Le m m'->w'.heap[l.b]?=w.heap[l.b]?->(∀k∈ins l w,w'.heap[k]?=w.heap[k]?)->rd l m' w'
inductive aJ where
 |cells (cs:List AV)
 |arr (e:TypeId) (n:Nat) (xs:List PV)
 |map (es:List (PV×PV))
 |loop (C:Code×Code) (ps:List Nat) (nt:Nat) (tm:List (Nat×AV)) (st:Option Code)
 |ext (E:Jg)
 deriving Inhabited
def ins (w:World)(l:Loc):aJ->List Nat
 |.ext E=>E.ins l w
 |_=>[]
def fL (ρ:Site->Loc)(w:World)(s:Site)(b:aJ)(k:Nat):Prop:=((ρ s).real=true/\(ρ s).b=k)\/k∈ins w (ρ s) b
def kT (ρ:Site->Loc)(m:Mem)(w:World)(s:Site):aJ->Prop
 |.cells bU=>(ρ s).real=true/\∃cs T,w.heap[(ρ s).b]?=some (.cells cs T (0,0))/\cs.size=bU.length/\∀(i:Nat) (c:Value) (a:AV),cs[i]?=some c->bU[i]?=some a->c.oneCell'=true/\bQ ρ m c a
 |.arr e n xs=>0<n/\(((ρ s).real=false/\xs=[]/\(ρ s).cap=0)\/((ρ s).real=true/\∃cs,w.heap[(ρ s).b]?=some (.cells cs e (0,0))/\(ρ s).o+(ρ s).cap*n<=cs.size/\xs.length<=(ρ s).cap/\(ρ s).cap<=maxLen/\
   ∀(i:Nat) (x:PV),xs[i]?=some x->x.cells.length=n/\∀(j:Nat) (c:PV),x.cells[j]?=some c->∃d,cs[(ρ s).o+i*n+j]?=some d/\d.oneCell'=true/\dH m d c))
 |.map es=>(ρ s).real=true/\∃fE clock,w.heap[(ρ s).b]?=some (.map fE clock)/\fE.size=es.length/\∀(i:Nat) (e:MapEntry) (p:PV×PV),fE[i]?=some e->es[i]?=some p->dH m e.key p.1/\dH m e.val p.2
 |.loop C ps nt tm st=>(ρ s).real=true/\∃r:Loop,w.heap[(ρ s).b]?=some (.loop r)/\(r.state=match st with|none=>.ready|some _=>.done)/\r.pending=st/\r.params=ps.toArray/\r.assign=C.1/\r.body=C.2/\r.tmps.size=nt/\
   ∀(t:Nat) (a:AV),tm.lookup t=some a->∃v,r.tmps[t]?=some v/\bQ ρ m v a
 |.ext E=>(ρ s).real=true/\E.rd (ρ s) m w
def aJ.has (d:Nat):aJ->Bool
 |.cells bU=>AV.rC d bU
 |.loop _ _ _ tm _=>AV.rC d (tm.map (·.2))
 |_=>false
structure AS where
 tm:List (Nat×AV)
 bx:List (Site×aJ)
def AS.t (σ:AS)(k:Nat):Option AV:=σ.tm.lookup k
def AS.b (σ:AS)(s:Site):Option aJ:=σ.bx.lookup s
structure cY (bs:List Nat)(w w':World):Prop where
 os:w'.os=w.os
 tape:w'.tape=w.tape
 output:w'.output=w.output
 size:w.heap.size<=w'.heap.size
 block:∀k,k<w.heap.size->k∉bs->w'.heap[k]?=w.heap[k]?
theorem cY.tS (bs:List Nat)(w:World):cY bs w w:=⟨rfl,rfl,rfl,fH _,fun _ _ _=>rfl⟩
theorem cY.trans {bs:List Nat}{a b c:World}(h:cY bs a b)(k:cY bs b c):cY bs a c:=
 ⟨k.os.trans h.os,k.tape.trans h.tape,k.output.trans h.output,lM h.size k.size,fun i hi hn=>(k.block i (Nat.lt_of_lt_of_le hi h.size) hn).trans (h.block i hi hn)⟩
theorem cY.ext {w w':World}(h:cY [] w w'):Ext w w':=⟨h.os,h.tape,h.output,h.size,fun k hk=>h.block k hk (by simp)⟩
theorem cY.Fx {w w':World}(h:Ext w w')(bs:List Nat):cY bs w w':=⟨h.os,h.tape,h.output,h.size,fun k hk _=>h.block k hk⟩
structure Env (w0:World) where
 m:Mem
 ρ:Site->Loc
 rest:List Deferred
 uL:nP m w0
 strict:Bool
def XM (D:Nat):Deferred:={ target:=.collected D,args:=#[]}
def Gc (m0 m:Mem)(pl:List Nat):Prop:=Le m0 m/\∀k∈pl,∀o,m0 k o=none
theorem Gc.trans {a b c:Mem}{pl:List Nat}(h:Gc a b pl)(k:Le b c):Gc a c pl:=⟨h.1.trans k,h.2⟩
def Jf (rest:List Deferred)(ds:List Nat)(l:List Deferred):Prop:=∃d1 d2,ds=d1++d2/\l=d1.map XM++rest++d2.map XM
theorem Jf.nil {ds:List Nat}{l:List Deferred}(h:Jf [] ds l):l=ds.map XM:=by
 obtain⟨d1,d2,rfl,rfl⟩:=h;simp
def Nod (b:Bool)(ds:List Nat):Prop:=ds.Nodup/\(b=true->ds=[])
theorem yI {b:Bool}:Nod b []:=⟨by simp,fun _=>rfl⟩
theorem C5:Jf [] [] []:=⟨[],[],rfl,rfl⟩
structure Sat (N:Nat)(w0:World)(m0:Env w0)(pl:List Nat)(σ:AS)(ρ:Site->Loc)(m:Mem)(act:Act)(w:World):Prop where
 sM:∃ds:List Nat,Jf m0.rest ds act.defers/\Nod m0.strict ds/\∀D∈ds,(w0.heap.size<=D\/D∈pl)/\w.heap[D]?=some (.deferred (some []))
 sz:act.tmps.size=N
 tm:∀t a,σ.t t=some a->∃v,act.tmps[t]?=some v/\bQ ρ m v a
 bx:∀s b,σ.b s=some b->kT ρ m w s b
 eA:∀s s' b b' k,σ.b s=some b->σ.b s'=some b'->fL ρ w s b k->fL ρ w s' b' k->s=s'
 mem:Le m w.mem
 eQ:∀s b k,σ.b s=some b->fL ρ w s b k->∀o,m k o=none
 fM:∀s b k,σ.b s=some b->fL ρ w s b k->w0.heap.size<=k\/k∈pl
 keep:cY pl w0 w
 base:Gc m0.m m pl
 qJ:∀b o v,m b o=some v->m0.m b o=some v\/w0.heap.size<=b\/b∈pl
 par:∀i,ρ (.par i)=m0.ρ (.par i)
theorem mX {α β:Type}[BEq α][LawfulBEq α]{k:α}{v:β}{l:List (α×β)}:List.lookup k ((k,v)::l)=some v:=by simp[List.lookup]
theorem jJ {α β:Type}[BEq α][LawfulBEq α]{k k':α}{v:β}{l:List (α×β)}(h:k≠k'):List.lookup k ((k',v)::l)=List.lookup k l:=by
 have:(k==k')=false:=by simpa using h
 simp[List.lookup,this]
theorem xV {ρ:Site->Loc}{w:World}{s:Site}{b:aJ}(hr:(ρ s).real=true):fL ρ w s b (ρ s).b:=.inl ⟨hr,rfl⟩
section
variable {N:Nat}{w0:World}{m0:Env w0}{pl:List Nat}{σ:AS}{ρ:Site->Loc}{m:Mem}{act:Act}{w:World}
theorem Sat.inj (h:Sat N w0 m0 pl σ ρ m act w)(s s':Site)(b b':aJ)(k:σ.b s=some b)(k':σ.b s'=some b')(r:(ρ s).real=true)(r':(ρ s').real=true)(e:(ρ s).b=(ρ s').b):s=s':=
 h.eA s s' b b' _ k k' (xV r) (by rw[e];exact xV r')
theorem Sat.off (h:Sat N w0 m0 pl σ ρ m act w)(s:Site)(b:aJ)(k:σ.b s=some b)(r:(ρ s).real=true):∀o,m (ρ s).b o=none:=h.eQ s b _ k (xV r)
theorem Sat.own (h:Sat N w0 m0 pl σ ρ m act w)(s:Site)(b:aJ)(k:σ.b s=some b)(r:(ρ s).real=true):w0.heap.size<=(ρ s).b\/(ρ s).b∈pl:=h.fM s b _ k (xV r)
end
theorem Sat.uL {N:Nat}{w0:World}{m0:Env w0}{pl:List Nat}{σ:AS}{ρ:Site->Loc}{m:Mem}{act:Act}{w:World}(h:Sat N w0 m0 pl σ ρ m act w):nP m w:=
 (m0.uL.keep fun k o v hk hv=>h.keep.block k hk fun hp=>by rw[h.base.2 k hp o]at hv;cases hv).mono h.base.1
theorem Zql {w w':World}{l:Loc}{b:aJ}(h:w'.heap[l.b]?=w.heap[l.b]?):ins w' l b=ins w l b:=by
 cases b with
 |ext E=>exact E.same _ _ _ h
 |_=>rfl
theorem kT.wE {ρ:Site->Loc}{m:Mem}{w:World}{s:Site}{b:aJ}(h:kT ρ m w s b){k:Nat}(hk:k∈ins w (ρ s) b):∃cs T,w.heap[k]?=some (.cells cs T (0,0)):=by
 cases b with
 |ext E=>exact E.wE _ _ _ _ h.2 hk
 |_=>cases hk
theorem kT.lt {ρ:Site->Loc}{m:Mem}{w:World}{s:Site}{b:aJ}(h:kT ρ m w s b)(hr:(ρ s).real=true):(ρ s).b<w.heap.size:=by
 cases b with
 |cells bU=>obtain⟨_,cs,T,h1,_⟩:=h;exact(qL.1 h1).1
 |arr e n xs=>
  obtain⟨_,h|⟨_,cs,h1,_⟩⟩:=h
  .rw[h.1]at hr;cases hr
  .exact(qL.1 h1).1
 |map es=>obtain⟨_,en,cl,h1,_⟩:=h;exact(qL.1 h1).1
 |loop C ps nt tm st=>obtain⟨_,r,h1,_⟩:=h;exact(qL.1 h1).1
 |ext E=>obtain⟨cs,T,h1⟩:=E.obj _ _ _ h.2;exact(qL.1 h1).1
theorem kT.G8 {ρ:Site->Loc}{m:Mem}{w:World}{s:Site}{b:aJ}{k:Nat}(h:kT ρ m w s b)(hk:fL ρ w s b k):k<w.heap.size:=by
 rcases hk with⟨hr,rfl⟩|hk
 .exact h.lt hr
 .obtain⟨cs,T,h1⟩:=h.wE hk;exact(qL.1 h1).1
theorem kT.obj {ρ:Site->Loc}{m:Mem}{w:World}{s:Site}{b:aJ}(h:kT ρ m w s b)(hr:(ρ s).real=true):w.heap[(ρ s).b]?≠some (.deferred (some [])):=by
 intro e;cases b with
 |cells bU=>obtain⟨_,cs,T,h1,_⟩:=h;rw[h1]at e;cases e
 |arr e' n xs=>
  obtain⟨_,h|⟨_,cs,h1,_⟩⟩:=h
  .rw[h.1]at hr;cases hr
  .rw[h1]at e;cases e
 |map es=>obtain⟨_,en,cl,h1,_⟩:=h;rw[h1]at e;cases e
 |loop C ps nt tm st=>obtain⟨_,r,h1,_⟩:=h;rw[h1]at e;cases e
 |ext E=>obtain⟨cs,T,h1⟩:=E.obj _ _ _ h.2;rw[h1]at e;cases e
theorem kT.Yn {ρ:Site->Loc}{m:Mem}{w:World}{s:Site}{b:aJ}{k:Nat}(h:kT ρ m w s b)(hk:fL ρ w s b k):w.heap[k]?≠some (.deferred (some [])):=by
 rcases hk with⟨hr,rfl⟩|hk
 .exact h.obj hr
 .obtain⟨cs,T,h1⟩:=h.wE hk;intro e;rw[h1]at e;cases e
theorem ZdS {α β:Type}[BEq α][LawfulBEq α]{k:α}{v:β}:∀{l:List (α×β)},l.lookup k=some v->∃i:Nat,(l.map (·.2))[i]?=some v
 |[],h=>by simp[List.lookup]at h
 |(a,b)::r,h=>by
  by_cases e:k=a
  .subst e;rw[mX]at h;cases h;exact⟨0,rfl⟩
  .rw[jJ e]at h;obtain⟨i,hi⟩:=ZdS h;exact⟨i+1,by simpa using hi⟩
theorem dS {ρ:Site->Loc}{w w':World}{s:Site}{b:aJ}(h:w'.heap[(ρ s).b]?=w.heap[(ρ s).b]?){k:Nat}:fL ρ w' s b k↔fL ρ w s b k:=by
 unfold fL;rw[Zql h]
theorem kT.dS {ρ:Site->Loc}{m:Mem}{w w':World}{s:Site}{b:aJ}(hB:kT ρ m w s b)(h:(ρ s).real=true->w'.heap[(ρ s).b]?=w.heap[(ρ s).b]?){k:Nat}:fL ρ w' s b k↔fL ρ w s b k:=by
 cases b with
 |ext E=>exact Go.Proofs.YthmbecacehfgfabGreatDoor.dS (h hB.1)
 |_=>exact Iff.rfl
theorem R7 {ρ bX:Site->Loc}{w:World}{s:Site}{b:aJ}{k:Nat}(h:bX s=ρ s):fL bX w s b k↔fL ρ w s b k:=by unfold fL;rw[h]
theorem kT.gen {ρ bX:Site->Loc}{m m':Mem}{w w':World}{s s':Site}{b b':aJ}(h:kT ρ m w s b)(f:AV->AV)(hf:b'=match b with
   |.cells bU=>.cells (bU.map f)
   |.loop C ps nt tm st=>.loop C ps nt (tm.map fun p=>(p.1,f p.2)) st
   |b=>b) (hm:Le m m') (hs:bX s'=ρ s) (hv:∀v a,bQ ρ m v a->(∃bU,b=.cells bU/\a∈bU)\/(∃C ps nt tm st t,b=.loop C ps nt tm st/\(t,a)∈tm)->bQ bX m' v (f a))
  (hb:∀k,fL ρ w s b k->w'.heap[k]?=w.heap[k]?):kT bX m' w' s' b':=by
 subst hf;cases b with
 |cells bU=>
  obtain⟨h0,cs,T,h1,h2,h3⟩:=h;refine⟨by rw[hs];exact h0,cs,T,by rw[hs,hb _ (xV h0)];exact h1,by rw[fZ];exact h2,fun i c a k1 k2=>?_⟩;rw[bY]at k2;obtain⟨a',k3,rfl⟩:=eB.1 k2;exact⟨(h3 i c a' k1 k3).1,hv _ _ (h3 i c a' k1 k3).2 (.inl ⟨bU,rfl,dL k3⟩)⟩
 |arr e n xs=>
  obtain⟨h0,h|⟨h1,cs,h2,h3,h4,h5,h6⟩⟩:=h
  .exact⟨h0,.inl (by rw[hs];exact h)⟩
  .refine⟨h0,.inr ⟨by rw[hs];exact h1,cs,by rw[hs,hb _ (xV h1)];exact h2,by rw[hs];exact h3,by rw[hs];exact h4,by rw[hs];exact h5,fun i x k1=>⟨(h6 i x k1).1,fun j c k2=>?_⟩⟩⟩;obtain⟨d,k3,k4,k5⟩:=(h6 i x k1).2 j c k2;exact⟨d,by rw[hs];exact k3,k4,k5.mono hm⟩
 |map es=>
  obtain⟨h0,en,cl,h1,h2,h3⟩:=h;exact⟨by rw[hs];exact h0,en,cl,by rw[hs,hb _ (xV h0)];exact h1,h2,fun i e p k1 k2=>⟨(h3 i e p k1 k2).1.mono hm,(h3 i e p k1 k2).2.mono hm⟩⟩
 |loop C ps nt tm st=>
  obtain⟨h0,r,h1,h2,h3,h4,h5,h6,h7,h8⟩:=h;refine⟨by rw[hs];exact h0,r,by rw[hs,hb _ (xV h0)];exact h1,h2,h3,h4,h5,h6,h7,fun t a k=>?_⟩;have hl:∀l:List (Nat×AV),(l.map fun p=>(p.1,f p.2)).lookup t=(l.lookup t).map f:=by
   intro l;induction l with
   |nil=>rfl
   |cons p r ih=>
    obtain⟨x,y⟩:=p;by_cases e:t=x
    .subst e;simp[List.lookup]
    .rw[iS,jJ e,jJ e];exact ih
  rw[hl]at k;obtain⟨a',k3,rfl⟩:=eB.1 k;obtain⟨v,k4,k5⟩:=h8 t a' k3;have gU:∀l:List (Nat×AV),l.lookup t=some a'->(t,a')∈l:=by
   intro l;induction l with
   |nil=>intro h;simp[List.lookup]at h
   |cons p r ih=>
    obtain⟨x,y⟩:=p;intro h;by_cases e:t=x
    .subst e;rw[mX]at h;cases h;simp
    .rw[jJ e]at h;simp[ih h]
  exact⟨v,k4,hv _ _ k5 (.inr ⟨C,ps,nt,tm,st,t,rfl,gU _ k3⟩)⟩
 |ext E=>
  refine⟨by rw[hs];exact h.1,?_⟩;rw[hs];exact E.more _ _ _ _ _ h.2 hm (hb _ (xV h.1)) (fun k hk=>hb k (.inr hk))
theorem kT.more {ρ:Site->Loc}{m m':Mem}{w w':World}{s:Site}{b:aJ}(h:kT ρ m w s b)(hm:Le m m')(hb:∀k,fL ρ w s b k->w'.heap[k]?=w.heap[k]?):kT ρ m' w' s b:=
 h.gen id (by cases b<;>simp) hm rfl (fun v a hv _=>hv.more hm) hb
theorem aJ.ZxO {d:Nat}{b:aJ}(hd:b.has d=false){a:AV}(h:(∃bU,b=.cells bU/\a∈bU)\/(∃C ps nt tm st t,b=.loop C ps nt tm st/\(t,a)∈tm)):a.has d=false:=by
 rcases h with⟨bU,rfl,h⟩|⟨C,ps,nt,tm,st,t,rfl,h⟩
 .obtain⟨i,hi⟩:=iO.1 h;exact AV.OO hd hi
 .obtain⟨i,hi⟩:=iO.1 h;have JD:AV.rC d (tm.map (·.2))=false:=hd;exact AV.OO (i:=i) JD (by rw[bY,hi];rfl)
theorem kT.stay {ρ bX:Site->Loc}{m m':Mem}{w w':World}{s:Site}{b:aJ}(h:kT ρ m w s b)(hm:Le m m'){d:Nat}(K4:∀s,s.fP d=false->bX s=ρ s)(hs:s.fP d=false)(hd:b.has d=false)
  (hb:∀k,fL ρ w s b k->w'.heap[k]?=w.heap[k]?):kT bX m' w' s b:=
 h.gen id (by cases b<;>simp) hm (K4 s hs) (fun v a hv hw=>hv.mono hm K4 (aJ.ZxO hd hw)) hb
section
variable {N:Nat}{w0:World}{m0:Env w0}{pl:List Nat}{σ:AS}{ρ:Site->Loc}{m:Mem}{act:Act}{w w':World}
theorem Sat.Zyb (h:Sat N w0 m0 pl σ ρ m act w){τ:AS}(ht:∀t a,τ.t t=some a->σ.t t=some a\/a=.any/\∃c,σ.t t=some c)(hb:∀s b,τ.b s=some b->σ.b s=some b):Sat N w0 m0 pl τ ρ m act w:=
 ⟨h.sM,h.sz,fun t a k=>by
  rcases ht t a k with k|⟨rfl,c,k⟩
  .exact h.tm t a k
  .obtain⟨v,k1,_⟩:=h.tm t c k;exact⟨v,k1,.any v⟩,fun s b k=>h.bx s b (hb s b k),fun s s' b b' i k k'=>h.eA s s' b b' i (hb s b k) (hb s' b' k'),h.mem,fun s b i k=>h.eQ s b i (hb s b k),fun s b i k=>h.fM s b i (hb s b k),h.keep,h.base,h.qJ,h.par⟩
theorem Sat.put (h:Sat N w0 m0 pl σ ρ m act w){d:Nat}(hd:d<N){v:Value}{a:AV}(hv:bQ ρ m v a):Sat N w0 m0 pl { σ with tm:=(d,a)::σ.tm } ρ m (act.put (some d) v) w:=by
 refine⟨h.sM,by simp[Act.put,h.sz],fun t a' k=>?_,h.bx,h.eA,h.mem,h.eQ,h.fM,h.keep,h.base,h.qJ,h.par⟩;unfold AS.t at k;rcases Nat.decEq t d with dA|rfl
 .rw[jJ dA]at k;obtain⟨u,k1,k2⟩:=h.tm t a' k;exact⟨u,by show(act.tmps.setIfInBounds d v)[t]?=some u;rw[Array.getElem?_setIfInBounds_ne (fun e=>dA e.symm)];exact k1,k2⟩
 .rw[mX]at k;cases k;exact⟨v,by show(act.tmps.setIfInBounds t v)[t]?=some v;rw[Array.getElem?_setIfInBounds_self_of_lt (by rw[h.sz];exact hd)],hv⟩
theorem Sat.ext (h:Sat N w0 m0 pl σ ρ m act w)(hx:Ext w w'):Sat N w0 m0 pl σ ρ m act w':=by
 have hq:∀s b,σ.b s=some b->∀k,fL ρ w' s b k↔fL ρ w s b k:=fun s b k i=>(h.bx s b k).dS (fun r=>hx.block _ ((h.bx s b k).lt r))
 exact⟨let ⟨ds,h1,h0,h2⟩:=h.sM;⟨ds,h1,h0,fun D hD=>⟨(h2 D hD).1,by rw[hx.block _ (qL.1 (h2 D hD).2).1];exact(h2 D hD).2⟩⟩,h.sz,h.tm,fun s b k=>(h.bx s b k).more (Le.refl _) (fun i r=>hx.block _ ((h.bx s b k).G8 r)),
  fun s s' b b' i k k' r r'=>h.eA s s' b b' i k k' ((hq s b k i).1 r) ((hq s' b' k' i).1 r'),h.mem.trans hx.le,fun s b i k r=>h.eQ s b i k ((hq s b k i).1 r),fun s b i k r=>h.fM s b i k ((hq s b k i).1 r),h.keep.trans (cY.Fx hx pl),h.base,h.qJ,h.par⟩
end
def AV.bG (d:Nat)(a:AV):AV:=if a.has d=true then .any else a
def aJ.bG (d:Nat):aJ->aJ
 |.cells bU=>.cells (bU.map (AV.bG d))
 |.loop C ps nt tm st=>.loop C ps nt (tm.map fun p=>(p.1,p.2.bG d)) st
 |b=>b
def AS.bG (d:Nat)(σ:AS):AS:=⟨σ.tm.map fun p=>(p.1,p.2.bG d),(σ.bx.filter fun p=>!p.1.fP d).map fun p=>(p.1,p.2.bG d)⟩
def AS.drop (s:Site)(σ:AS):AS:=⟨σ.tm,σ.bx.filter fun p=>!decide (p.1=s)⟩
def AS.set (s:Site)(b:aJ)(σ:AS):AS:=⟨σ.tm,(s,b)::σ.bx⟩
def AS.put (d:Nat)(a:AV)(σ:AS):AS:=⟨(d,a)::σ.tm,σ.bx⟩
def AS.add (s:Site)(b:aJ)(σ:AS):AS:=⟨σ.tm,(s,b)::σ.bx⟩
theorem AV.Gb (d:Nat)(a:AV):(a.bG d).has d=false:=by
 unfold AV.bG;split
 .rfl
 .rename_i h;simpa using h
theorem AV.Yu (d:Nat):∀l:List AV,AV.rC d (l.map (AV.bG d))=false
 |[]=>rfl
 |a::r=>by simp[AV.rC,AV.Gb,AV.Yu d r]
theorem aJ.Gb (d:Nat)(b:aJ):(b.bG d).has d=false:=by
 cases b with
 |cells bU=>exact AV.Yu d bU
 |arr e n xs=>rfl
 |map es=>rfl
 |loop C ps nt tm st=>
  show AV.rC d ((tm.map fun p=>(p.1,p.2.bG d)).map (·.2))=false;rw[List.map_map]
  have:((fun p:Nat×AV=>p.2)∘fun p:Nat×AV=>(p.1,p.2.bG d))=AV.bG d∘(fun p:Nat×AV=>p.2):=rfl
  rw[this,<-List.map_map];exact AV.Yu d _
 |ext E=>rfl
theorem UG {α β γ:Type}[BEq α][LawfulBEq α](f:β->γ)(k:α):∀l:List (α×β),(l.map fun p=>(p.1,f p.2)).lookup k=(l.lookup k).map f
 |[]=>rfl
 |(a,b)::r=>by
  by_cases h:k=a
  .subst h;simp[List.lookup]
  .rw[iS,jJ h,jJ h];exact UG f k r
theorem UP {α β:Type}[BEq α][LawfulBEq α](q:α->Bool)(k:α):∀l:List (α×β),(l.filter fun p=>q p.1).lookup k=if q k=true then l.lookup k else none
 |[]=>by simp
 |(a,b)::r=>by
  rw[xT];by_cases h:k=a
  .subst h;cases hq:q k
   .simp only[Bool.false_eq_true,if_false];rw[UP q k r];simp[hq]
   .simp[List.lookup]
  .cases hq:q a
   .simp only[Bool.false_eq_true,if_false];rw[UP q k r,jJ h]
   .simp only[if_true];rw[jJ h,jJ h];exact UP q k r
theorem AS.Lu (d:Nat)(σ:AS)(k:Nat):(σ.bG d).t k=(σ.t k).map (AV.bG d):=UG _ _ _
theorem AS.OQ (d:Nat)(σ:AS)(s:Site):(σ.bG d).b s=if s.fP d=true then none else(σ.b s).map (aJ.bG d):=by
 show((σ.bx.filter fun p=>!p.1.fP d).map fun p=>(p.1,p.2.bG d)).lookup s=_;rw[UG (aJ.bG d) s,show List.lookup s (List.filter (fun p=>!p.1.fP d) σ.bx)=_ from UP (fun s=>!s.fP d) s σ.bx];cases s.fP d<;>simp[AS.b]
theorem AS.KC (s:Site)(σ:AS)(s':Site):(σ.drop s).b s'=if s'=s then none else σ.b s':=by
 show(σ.bx.filter fun p=>!decide (p.1=s)).lookup s'=_;rw[show List.lookup s' (List.filter (fun p=>!decide (p.1=s)) σ.bx)=_ from UP (fun x=>!decide (x=s)) s' σ.bx];by_cases h:s'=s<;>simp[h,AS.b]
theorem AS.TR (s:Site)(b:aJ)(σ:AS)(s':Site):(σ.add s b).b s'=if s'=s then some b else σ.b s':=by
 show((s,b)::σ.bx).lookup s'=_;by_cases h:s'=s
 .subst h;rw[mX,if_pos rfl]
 .rw[jJ h,if_neg h];rfl
theorem AS.XA (s:Site)(b:aJ)(σ:AS)(s':Site):(σ.set s b).b s'=if s'=s then some b else σ.b s':=AS.TR s b σ s'
theorem AS.ZxU (d:Nat)(a:AV)(σ:AS)(k:Nat):(σ.put d a).t k=if k=d then some a else σ.t k:=by
 show((d,a)::σ.tm).lookup k=_;by_cases h:k=d
 .subst h;rw[mX,if_pos rfl]
 .rw[jJ h,if_neg h];rfl
structure rG (d:Nat)(σ:AS):Prop where
 t:∀k a,σ.t k=some a->a.has d=false
 b:∀s b,σ.b s=some b->s.fP d=false/\b.has d=false
theorem rG.bG (d:Nat)(σ:AS):rG d (σ.bG d):=by
 refine⟨fun k a h=>?_,fun s b h=>?_⟩
 .rw[AS.Lu]at h;obtain⟨c,_,rfl⟩:=eB.1 h;exact AV.Gb d c
 .rw[AS.OQ]at h;split at h
  .cases h
  .rename_i hs;obtain⟨c,_,rfl⟩:=eB.1 h;exact⟨by simpa using hs,aJ.Gb d c⟩
section
variable {N:Nat}{w0:World}{m0:Env w0}{pl:List Nat}{σ:AS}{ρ:Site->Loc}{m:Mem}{act:Act}{w w':World}
theorem ZpK {d:Nat}{v:Value}{a:AV}(h:bQ ρ m v a):bQ ρ m v (a.bG d):=by
 unfold AV.bG;split
 .exact .any v
 .exact h
theorem kT.bG {s:Site}{b:aJ}(d:Nat)(h:kT ρ m w s b):kT ρ m w s (b.bG d):=
 h.gen (AV.bG d) (by cases b<;>rfl) (Le.refl m) rfl (fun v a hv _=>ZpK hv) (fun _ _=>rfl)
theorem Zoc {w:World}{l:Loc}{b:aJ}{d:Nat}:ins w l (b.bG d)=ins w l b:=by
 cases b with
 |_=>rfl
theorem KR {s:Site}{b:aJ}{d k:Nat}:fL ρ w s (b.bG d) k↔fL ρ w s b k:=by unfold fL;rw[Zoc]
theorem Sat.bG (h:Sat N w0 m0 pl σ ρ m act w)(d:Nat):Sat N w0 m0 pl (σ.bG d) ρ m act w:=by
 have hb:∀s b,(σ.bG d).b s=some b->∃b',σ.b s=some b'/\b=b'.bG d:=fun s b k=>by
  rw[AS.OQ]at k;split at k
  .cases k
  .obtain⟨b',k1,rfl⟩:=eB.1 k;exact⟨b',k1,rfl⟩
 refine⟨h.sM,h.sz,fun t a k=>?_,fun s b k=>?_,fun s s' b b' i k k' r r'=>?_,h.mem,fun s b i k r=>?_,fun s b i k r=>?_,h.keep,h.base,h.qJ,h.par⟩
 .rw[AS.Lu]at k;obtain⟨c,k1,rfl⟩:=eB.1 k;obtain⟨v,k2,k3⟩:=h.tm t c k1;refine⟨v,k2,?_⟩;unfold AV.bG;split
  .exact .any v
  .exact k3
 .obtain⟨b',k1,rfl⟩:=hb s b k;exact(h.bx s b' k1).bG d
 .obtain⟨c,k1,rfl⟩:=hb s b k;obtain⟨c',C9,rfl⟩:=hb s' b' k';exact h.eA s s' c c' i k1 C9 (KR.1 r) (KR.1 r')
 .obtain⟨c,k1,rfl⟩:=hb s b k;exact h.eQ s c i k1 (KR.1 r)
 .obtain⟨c,k1,rfl⟩:=hb s b k;exact h.fM s c i k1 (KR.1 r)
theorem Sat.drop (h:Sat N w0 m0 pl σ ρ m act w)(s:Site):Sat N w0 m0 pl (σ.drop s) ρ m act w:=
 h.Zyb (fun t a k=>.inl k) (fun s' b k=>by
  rw[AS.KC]at k;split at k
  .cases k
  .exact k)
def iQ (ρ:Site->Loc)(s:Site)(l:Loc):Site->Loc:=fun s'=>if s'=s then l else ρ s'
theorem S0 (ρ:Site->Loc)(s:Site)(l:Loc):iQ ρ s l s=l:=by simp[iQ]
theorem BD (ρ:Site->Loc){s s':Site}(l:Loc)(h:s'≠s):iQ ρ s l s'=ρ s':=by simp[iQ,h]
theorem Mx (ρ:Site->Loc)(d j:Nat)(l:Loc):∀s,s.fP d=false->iQ ρ (.loc d j) l s=ρ s:=fun s hs=>BD ρ l (fun e=>by subst e;simp[Site.fP]at hs)
def aJ.plain:aJ->Bool
 |.ext _=>false
 |_=>true
theorem FD {s:Site}{b:aJ}{k:Nat}(hb:b.plain=true)(h:fL ρ w s b k):(ρ s).real=true/\(ρ s).b=k:=by
 rcases h with h|h
 .exact h
 .cases b with
  |ext E=>cases hb
  |_=>cases h
theorem Zfw {w:World}{l:Loc}{b:aJ}(hb:b.plain=true)(k:Nat):k∉ins w l b:=fun h=>by
 cases b with
 |ext E=>cases hb
 |_=>cases h
theorem Np {s:Site}{b:aJ}{k:Nat}(hb:∀k,k∉ins w (ρ s) b)(h:fL ρ w s b k):(ρ s).real=true/\(ρ s).b=k:=h.elim id fun h=>absurd h (hb k)
theorem Sat.Zyf (h:Sat N w0 m0 pl σ ρ m act w){d j:Nat}(hn:rG d σ){l:Loc}{box:aJ}(hb:kT (iQ ρ (.loc d j) l) m w (.loc d j) box)
  (hi:l.real=true->∀s b,σ.b s=some b->¬fL ρ w s b l.b) (ho:l.real=true->∀o,m l.b o=none) (hw:l.real=true->w0.heap.size<=l.b\/l.b∈pl) (mJ:∀k,k∉ins w (iQ ρ (.loc d j) l (.loc d j)) box):
  Sat N w0 m0 pl (σ.add (.loc d j) box) (iQ ρ (.loc d j) l) m act w:=by
 have dA:∀s b,σ.b s=some b->s≠.loc d j:=fun s b k e=>by
  subst e
  have:=(hn.b _ b k).1
  simp[Site.fP]at this
 have K4:=Mx ρ d j l;have hu:=S0 ρ (.loc d j) l;refine⟨h.sM,h.sz,fun t a k=>?_,fun s b k=>?_,fun s s' b b' i k k' r r'=>?_,h.mem,fun s b i k r=>?_,fun s b i k r=>?_,h.keep,h.base,h.qJ,fun i=>(BD ρ l (by simp)).trans (h.par i)⟩
 .obtain⟨v,k1,k2⟩:=h.tm t a k;exact⟨v,k1,k2.mono (Le.refl m) K4 (hn.t t a k)⟩
 .rw[AS.TR]at k;split at k
  .rename_i e;subst e;cases k;exact hb
  .exact(h.bx s b k).stay (Le.refl m) K4 (hn.b s b k).1 (hn.b s b k).2 (fun _ _=>rfl)
 .rw[AS.TR]at k k';split at k<;>split at k'
  .rename_i e1 e2;rw[e1,e2]
  .rename_i e1 e2;subst e1;cases k;obtain⟨q1,q2⟩:=Np mJ r;rw[hu]at q1 q2;rw[R7 (BD ρ l e2)]at r';exact absurd (by rw[q2];exact r') (hi q1 s' b' k')
  .rename_i e1 e2;subst e2;cases k';obtain⟨q1,q2⟩:=Np mJ r';rw[hu]at q1 q2;rw[R7 (BD ρ l e1)]at r;exact absurd (by rw[q2];exact r) (hi q1 s b k)
  .rename_i e1 e2;rw[R7 (BD ρ l e1)]at r;rw[R7 (BD ρ l e2)]at r';exact h.eA s s' b b' i k k' r r'
 .rw[AS.TR]at k;split at k
  .rename_i e;subst e;cases k;obtain⟨q1,q2⟩:=Np mJ r;rw[hu]at q1 q2;subst q2;exact ho q1
  .rename_i e;rw[R7 (BD ρ l e)]at r;exact h.eQ s b i k r
 .rw[AS.TR]at k;split at k
  .rename_i e;subst e;cases k;obtain⟨q1,q2⟩:=Np mJ r;rw[hu]at q1 q2;subst q2;exact hw q1
  .rename_i e;rw[R7 (BD ρ l e)]at r;exact h.fM s b i k r
theorem Sat.add (h:Sat N w0 m0 pl σ ρ m act w){d j:Nat}(hn:rG d σ){l:Loc}{box:aJ}(hb:kT (iQ ρ (.loc d j) l) m w (.loc d j) box)
  (hi:l.real=true->∀s b,σ.b s=some b->¬fL ρ w s b l.b) (ho:l.real=true->∀o,m l.b o=none) (hw:l.real=true->w0.heap.size<=l.b\/l.b∈pl) (mJ:box.plain=true:=by rfl):
  Sat N w0 m0 pl (σ.add (.loc d j) box) (iQ ρ (.loc d j) l) m act w:=h.Zyf hn hb hi ho hw (Zfw mJ)
theorem Sat.Ga (h:Sat N w0 m0 pl σ ρ m act w){k:Nat}(hk:w.heap.size<=k)(o:Nat):m k o=none:=by
 cases hm:m k o with
 |none=>rfl
 |some v=>have:=BJ (h.mem k o v hm);omega
theorem Sat.lt (h:Sat N w0 m0 pl σ ρ m act w){s:Site}{b:aJ}(hb:σ.b s=some b)(hr:(ρ s).real=true):(ρ s).b<w.heap.size:=(h.bx s b hb).lt hr
theorem Sat.G8 (h:Sat N w0 m0 pl σ ρ m act w){s:Site}{b:aJ}(hb:σ.b s=some b){k:Nat}(hr:fL ρ w s b k):k<w.heap.size:=(h.bx s b hb).G8 hr
theorem Sat.Zyc (h:Sat N w0 m0 pl σ ρ m act w)(d j:Nat)(hn:rG d σ)(cs:Array Value)(T:TypeId)(cap:Nat){box:aJ}
  (hb:kT (iQ ρ (.loc d j) ⟨w.heap.size,0,cap,true⟩) m (w.alloc (.cells cs T)) (.loc d j) box) (mJ:∀k,k∉ins (w.alloc (.cells cs T)) (iQ ρ (.loc d j) ⟨w.heap.size,0,cap,true⟩ (.loc d j)) box):
  Sat N w0 m0 pl (σ.add (.loc d j) box) (iQ ρ (.loc d j) ⟨w.heap.size,0,cap,true⟩) m act (w.alloc (.cells cs T)):=
 (h.ext (Ext.al w _)).Zyf hn hb (fun _ s b k r=>by
  have hx:Ext w (w.alloc (.cells cs T)):=Ext.al w _
  have:=h.G8 k (((h.bx s b k).dS (fun r=>hx.block _ (h.lt k r))).1 r)
  simp at this) (fun _ o=>h.Ga (fH _) o) (fun _=>.inl h.keep.size) mJ
theorem Sat.new (h:Sat N w0 m0 pl σ ρ m act w)(d j:Nat)(hn:rG d σ)(cs:Array Value)(T:TypeId)(cap:Nat){box:aJ}
  (hb:kT (iQ ρ (.loc d j) ⟨w.heap.size,0,cap,true⟩) m (w.alloc (.cells cs T)) (.loc d j) box) (mJ:box.plain=true:=by rfl):
  Sat N w0 m0 pl (σ.add (.loc d j) box) (iQ ρ (.loc d j) ⟨w.heap.size,0,cap,true⟩) m act (w.alloc (.cells cs T)):=h.Zyc d j hn cs T cap hb (Zfw mJ)
theorem Sat.write (h:Sat N w0 m0 pl σ ρ m act w){k:Nat}(hk:∀s b,σ.b s=some b->¬fL ρ w s b k)(hm:∀o,m k o=none)(hp:w0.heap.size<=k\/k∈pl)(qE:w.heap[k]?≠some (.deferred (some []))\/act.defers=[])
  (hx:cY [k] w w'):Sat N w0 m0 pl σ ρ m act w':=by
 have bS:∀s b,σ.b s=some b->∀i,fL ρ w s b i->w'.heap[i]?=w.heap[i]?:=fun s b hs i r=>hx.block _ (h.G8 hs r) (by
  rw[sG];intro e;subst e;exact hk s b hs r)
 have hq:∀s b,σ.b s=some b->∀i,fL ρ w' s b i↔fL ρ w s b i:=fun s b k i=>(h.bx s b k).dS (fun r=>bS s b k _ (xV r))
 refine⟨let ⟨ds,h1,h0,h2⟩:=h.sM;⟨ds,h1,h0,fun D hD=>⟨(h2 D hD).1,by
  obtain⟨k1,k2⟩:=h2 D hD;rw[hx.block D (qL.1 k2).1 (by
   rw[sG];intro e;subst e;rcases qE with qE|qE
   .exact qE k2
   .rw[qE]at h1;obtain⟨d1,d2,rfl,h3⟩:=h1;have h4:=List.append_eq_nil_iff.1 h3.symm;have h5:=List.map_eq_nil_iff.1 (List.append_eq_nil_iff.1 h4.1).1;have h6:=List.map_eq_nil_iff.1 h4.2;subst h5 h6;cases hD)]
  exact k2⟩⟩,h.sz,h.tm,fun s b hs=>(h.bx s b hs).more (Le.refl _) (bS s b hs),fun s s' b b' i k k' r r'=>h.eA s s' b b' i k k' ((hq s b k i).1 r) ((hq s' b' k' i).1 r'),fun b o v hv=>?_,fun s b i k r=>h.eQ s b i k ((hq s b k i).1 r),fun s b i k r=>h.fM s b i k ((hq s b k i).1 r),?_,h.base,h.qJ,h.par⟩
 .have hw:=h.mem b o v hv;have aI:=BJ hw;have dA:b≠k:=fun e=>by subst e;rw[hm o]at hv;cases hv
  exact(World.cell?_of_block (a:=⟨b,o,none⟩) (hx.block b aI (by simpa using dA))).trans hw
 .refine⟨hx.os.trans h.keep.os,hx.tape.trans h.keep.tape,hx.output.trans h.keep.output,lM h.keep.size hx.size,fun i hi hn=>?_⟩;have dA:i≠k:=fun e=>by
   subst e;rcases hp with hp|hp
   .omega
   .exact hn hp
  exact(hx.block i (Nat.lt_of_lt_of_le hi h.keep.size) (by simpa using dA)).trans (h.keep.block i hi hn)
theorem Sat.ZxI (h:Sat N w0 m0 pl σ ρ m act w){s:Site}{b:aJ}(hs:σ.b s=some b)(hr:(ρ s).real=true)(hx:cY [(ρ s).b] w w'){box:aJ}(hb:kT ρ m w' s box)(hq:∀k,k∈ins w' (ρ s) box->k∈ins w (ρ s) b):
  Sat N w0 m0 pl (σ.set s box) ρ m act w':=by
 have hd:Sat N w0 m0 pl (σ.drop s) ρ m act w':=(h.drop s).write (k:=(ρ s).b) (fun s' b' k r=>by
  rw[AS.KC]at k;split at k
  .cases k
  .rename_i dA;exact dA (h.eA s' s b' b _ k hs r (xV hr))) (h.off s b hs hr) (h.own s b hs hr) (.inl ((h.bx s b hs).obj hr)) hx
 have DW:∀k,fL ρ w' s box k->fL ρ w s b k:=fun k r=>r.imp id (hq k)
 have hold:∀s' b',s'≠s->σ.b s'=some b'->∀k,fL ρ w' s' b' k->fL ρ w s' b' k:=fun s' b' dA k i r=>
  ((h.bx s' b' k).dS (fun r'=>hx.block _ (h.lt k r') (by
   rw[sG];exact fun e=>dA (h.inj s' s b' b k hs r' hr e)))).1 r
 refine⟨hd.sM,hd.sz,hd.tm,fun s' b' k=>?_,fun s1 s2 b1 b2 i k1 k2 r1 r2=>?_,hd.mem,fun s' b' i k r=>?_,fun s' b' i k r=>?_,hd.keep,hd.base,hd.qJ,hd.par⟩
 .rw[AS.XA]at k;split at k
  .rename_i e;subst e;cases k;exact hb
  .rename_i dA;exact hd.bx s' b' (by rw[AS.KC,if_neg dA];exact k)
 .have g:∀s' b',(σ.set s box).b s'=some b'->fL ρ w' s' b' i->∃c,σ.b s'=some c/\fL ρ w s' c i:=fun s' b' k r=>by
   rw[AS.XA]at k;split at k
   .rename_i e;subst e;cases k;exact⟨b,hs,DW i r⟩
   .rename_i dA;exact⟨b',k,hold s' b' dA k i r⟩
  obtain⟨c1,g1,r1⟩:=g s1 b1 k1 r1;obtain⟨c2,g2,r2⟩:=g s2 b2 k2 r2;exact h.eA s1 s2 c1 c2 i g1 g2 r1 r2
 .rw[AS.XA]at k;split at k
  .rename_i e;subst e;cases k;exact h.eQ s' b i hs (DW i r)
  .rename_i dA;exact h.eQ s' b' i k (hold s' b' dA k i r)
 .rw[AS.XA]at k;split at k
  .rename_i e;subst e;cases k;exact h.fM s' b i hs (DW i r)
  .rename_i dA;exact h.fM s' b' i k (hold s' b' dA k i r)
theorem Sat.Fy (h:Sat N w0 m0 pl σ ρ m act w){s:Site}{b:aJ}(hs:σ.b s=some b)(hr:(ρ s).real=true)(hx:cY [(ρ s).b] w w'){box:aJ}(hb:kT ρ m w' s box)(mJ:box.plain=true:=by rfl):
  Sat N w0 m0 pl (σ.set s box) ρ m act w':=h.ZxI hs hr hx hb (fun k hk=>by
 cases box with
 |ext E=>cases mJ
 |_=>cases hk)
theorem Sat.Zyd (h:Sat N w0 m0 pl σ ρ m act w){m':Mem}(hm:Le m m')(hw:Le m' w.mem)(ho:∀s b k,σ.b s=some b->fL ρ w s b k->∀o,m' k o=none)(hf:∀b o v,m' b o=some v->m b o=some v\/w0.heap.size<=b\/b∈pl):Sat N w0 m0 pl σ ρ m' act w:=by
 refine⟨h.sM,h.sz,fun t a k=>?_,fun s b k=>?_,h.eA,hw,ho,h.fM,h.keep,h.base.trans hm,fun b o v hv=>by
  rcases hf b o v hv with k|k
  .exact h.qJ b o v k
  .exact .inr k,h.par⟩
 .obtain⟨v,k1,k2⟩:=h.tm t a k;exact⟨v,k1,k2.more hm⟩
 .exact(h.bx s b k).more hm (fun _ _=>rfl)
end
section
variable {P:Program}{w:World}
def eJ (P:Program)(t:TypeId):Option Nat:=(P.info? t).map (·.size)
def sW (P:Program)(t:TypeId):Bool:=match P.underlying t with
 |some (.struct _)|some (.array _ _)=>true
 |_=>false
theorem run_sizeOf {t:TypeId}{n:Nat}(h:eJ P t=some n)(w:World):(sizeOf t).run P w=.ok n w:=by
 unfold eJ at h;cases hx:P.info? t with
 |none=>simp[hx]at h
 |some i=>
  simp[hx]at h;simp[sizeOf,typeInfo,hx,h]
theorem Zfq {t:TypeId}{d:TypeDesc}(h:P.underlying t=some d)(w:World):(isAgg t).run P w=.ok (sW P t) w:=by
 unfold isAgg sW;rw[Sem.run_bind,run_underlying h w];simp only[Result.andThen_ok,h];cases d<;>rfl
theorem Znq {t:TypeId}{d:TypeDesc}(hu:P.underlying t=some d)(hr:sW P t=false){b o:Nat}{v:Value}(hc:w.cell? ⟨b,o,none⟩=some v):
  (Instr.loadAt t (.pointer (some ⟨b,o,none⟩))).run P w=.ok v w:=by
 simp only[Instr.loadAt,Instr.sureAddr,Sem.run_bind,Sem.run_pure,Result.andThen_ok,loadVar,Zfq hu,hr];simp[load,Sem.run,hc]
theorem Znp {t:TypeId}{d:TypeDesc}(hu:P.underlying t=some d)(hr:sW P t=true){b o:Nat}{cs:List Value}(hc:At w.mem b o cs)(hi:eJ P t=some cs.length):
  (Instr.loadAt t (.pointer (some ⟨b,o,none⟩))).run P w=.ok (.agg cs.toArray) w:=by
 refine run_loadAt_mid w b o t cs d (fun j v hv=>hc.get j v hv) hu ?_ hi;unfold sW at hr;rw[hu]at hr;cases d<;>first|rfl|(simp at hr)
theorem Zs1 {t:TypeId}{b o:Nat}{v:Value}{cur:Array Value}{T:TypeId}(hi:eJ P t=some v.cells.size)(hh:w.heap[b]?=some (.cells cur T (0,0)))(hl:o+v.cells.size<=cur.size)(h1:∀u∈v.cells,u.oneCell'=true):
  (Instr.storeAt t (.pointer (some ⟨b,o,none⟩)) v).run P w=.ok () (w.setRow b (cur.toList.take o++v.cells.toList++cur.toList.drop (o+v.cells.size)).toArray):=by
 have hs:=run_storeCells_at P b o T v.cells.toList 0 cur w hh (by simpa using hl) (fun u hu=>h1 u (by simpa using hu));simp only[Nat.add_zero,vC]at hs;simp only[Instr.storeAt,Instr.sureAddr,Sem.run_bind,Sem.run_pure,Result.andThen_ok,storeVar,run_sizeOf hi];simp[hs]
def HT (P:Program)(t f:Nat):Option Nat:=match P.underlying t with
 |some (.struct fs)=>match fs[f]? with
  |some fl=>if(eJ P fl.type).getD 0=0 then none else some fl.offset
  |none=>none
 |_=>none
theorem OV (b o k:Nat):(⟨b,o,none⟩:Addr).add k=⟨b,o+k,none⟩:=Zvq
theorem Rh {t f off:Nat}(h:HT P t f=some off)(b o:Nat):(Instr.fieldAt t (.pointer (some ⟨b,o,none⟩)) f).run P w=.ok (.pointer (some ⟨b,o+off,none⟩)) w:=by
 unfold HT at h;split at h
 .rename_i fs hu;split at h
  .rename_i fl hf;split at h
   .cases h
   .rename_i hz;cases h;cases hs:eJ P fl.type with
    |none=>rw[hs]at hz;simp at hz
    |some n=>
     rw[hs]at hz;simp at hz;simp[Instr.fieldAt,run_underlying hu,hf,Instr.sureAddr,fieldPlace,run_sizeOf hs,hz,OV]
  .cases h
 .cases h
def eI (P:Program)(t:TypeId):Option (TypeId×Nat×Option Nat):=match P.underlying t with
 |some (.slice e)=>(eJ P e).map fun n=>(e,n,none)
 |some (.array l e)=>(eJ P e).map fun n=>(e,n,some l)
 |_=>none
theorem LH {t e n:Nat}(h:eI P t=some (e,n,none)):P.underlying t=some (.slice e)/\eJ P e=some n:=by
 unfold eI at h;split at h
 .rename_i e' hu;cases hs:eJ P e' with
  |none=>rw[hs]at h;simp at h
  |some k=>
   rw[hs]at h;simp only[vB,Option.some.injEq,Prod.mk.injEq]at h;obtain⟨rfl,rfl,_⟩:=h;exact⟨hu,hs⟩
 .rename_i l e' hu;cases hs:eJ P e'<;>rw[hs]at h<;>simp at h
 .cases h
theorem Ik {t e n l:Nat}(h:eI P t=some (e,n,some l)):P.underlying t=some (.array l e)/\eJ P e=some n:=by
 unfold eI at h;split at h
 .rename_i e' hu;cases hs:eJ P e'<;>rw[hs]at h<;>simp at h
 .rename_i l' e' hu;cases hs:eJ P e' with
  |none=>rw[hs]at h;simp at h
  |some k=>
   rw[hs]at h;simp only[vB,Option.some.injEq,Prod.mk.injEq]at h;obtain⟨rfl,rfl,rfl⟩:=h;exact⟨hu,hs⟩
 .cases h
theorem Rf {t e n:Nat}(h:eI P t=some (e,n,none))(b o len cap:Nat)(k:IntKind){i:Int}(h0:0<=i)(h1:i<len):
  (Instr.indexAt t (.slice (some ⟨b,o,none⟩) len cap) (.int k i)).run P w=.ok (.pointer (some ⟨b,o+i.toNat*n,none⟩)) w:=by
 obtain⟨hu,hs⟩:=LH h;simp[Instr.indexAt,run_underlying hu,asIntOf,run_sizeOf hs,h0,h1,OV]
theorem ZpJ {t e n l:Nat}(h:eI P t=some (e,n,some l))(b o:Nat)(k:IntKind){i:Int}(h0:0<=i)(h1:i<l):
  (Instr.indexAt t (.pointer (some ⟨b,o,none⟩)) (.int k i)).run P w=.ok (.pointer (some ⟨b,o+i.toNat*n,none⟩)) w:=by
 obtain⟨hu,hs⟩:=Ik h;simp[Instr.indexAt,run_underlying hu,asIntOf,Instr.sureAddr,run_sizeOf hs,h0,h1,OV]
theorem X2 {t e n:Nat}(h:eI P t=some (e,n,none))(ty:TypeId)(a:Option Addr)(len cap:Nat):(Builtin.len_ #[t] ty #[.slice a len cap]).run P w=.ok (.int .i64 len) w:=by
 obtain⟨hu,hs⟩:=LH h;simp[Builtin.len_,run_underlying hu,goInt]
theorem Znr {t e n l:Nat}(h:eI P t=some (e,n,some l))(ty:TypeId)(v:Value):(Builtin.len_ #[t] ty #[v]).run P w=.ok (.int .i64 l) w:=by
 obtain⟨hu,hs⟩:=Ik h;cases v<;>simp[Builtin.len_,run_underlying hu,goInt]
def gX (P:Program)(t:TypeId):Option Value:=(P.info? t).bind (·.zero)
theorem LF {t:TypeId}{z:Value}(h:gX P t=some z)(w:World):(zeroValue t).run P w=.ok z w:=by
 unfold gX at h;cases hx:P.info? t with
 |none=>simp[hx]at h
 |some i=>
  simp[hx]at h;simp[zeroValue,typeInfo,hx,h]
theorem Zns {t:TypeId}{z:Value}(h:gX P t=some z):(Instr.alloc t true (.tuple #[])).run P w=.ok (.pointer (some ⟨w.heap.size,0,none⟩)) (w.alloc (.cells z.cells t)):=by
 simp[Instr.alloc,LF h,newVar,newRow]
theorem ZY (t:TypeId)(v:Value):(Instr.box t v).run P w=.ok (.pointer (some ⟨w.heap.size,0,none⟩)) (w.alloc (.cells v.cells t)):=by
 simp[Instr.box,newVar,newRow]
end
inductive bB where
 |t (k:Nat)
 |c (x:PV)
 deriving Inhabited
def AS.o (σ:AS):bB->AV
 |.t k=>(σ.t k).getD .any
 |.c x=>.pv x
def nW:Value->Option PV
 |.int k n=>some (.int k n)
 |.bool b=>some (.bool b)
 |.string s=>some (.str s)
 |.pointer none=>some .eX
 |.slice none 0 0=>some (.emp (some true))
 |.nilFunc=>some .dP
 |.map none=>some .cV
 |.nilIface=>some .eY
 |_=>none
def aU:Operand->Option bB
 |.tmp k=>some (.t k)
 |.const v=>(nW v).map .c
 |.func f=>some (.c (.fn f [] []))
 |.global _=>none
theorem Mo {v:Value}{x:PV}(h:nW v=some x)(m:Mem):dH m v x:=by
 unfold nW at h;split at h<;>first|(cases h;constructor)|(cases h)
 .intro _;rfl
 .intro e;cases e
 .intro A e;cases e
def AV.one:AV->Bool
 |.any=>false
 |.pv (.agg _)=>false
 |.pv (.bN _)=>false
 |.agg _=>false
 |.bN _=>false
 |_=>true
theorem bQ.one {ρ:Site->Loc}{m:Mem}{v:Value}{a:AV}(h:bQ ρ m v a)(ha:a.one=true):v.oneCell'=true:=by
 cases h with
 |any=>cases ha
 |pv v x h=>cases h<;>first|rfl|assumption|(simp[AV.one]at ha)
 |_=>first|rfl|(simp[AV.one]at ha)
def eD:List AV->Option (List PV)
 |[]=>some []
 |a::r=>match a,eD r with
  |.pv x,some l=>some (x::l)
  |_,_=>none
def y0 (l:List AV):AV:=match eD l with
 |some xs=>.pv (.agg xs)
 |none=>.agg l
def aR {α:Type}(l:List α)(off:Nat)(c:List α):List α:=l.take off++c++l.drop (off+c.length)
theorem UH:∀{l:List AV} {xs:List PV},eD l=some xs->l=xs.map .pv
 |[],xs,h=>by simp[eD]at h;subst h;rfl
 |a::r,xs,h=>by
  unfold eD at h;split at h
  .rename_i x l h1;cases h;rw[iS,UH h1]
  .cases h
section
variable {N:Nat}{w0:World}{m0:Env w0}{pl:List Nat}{σ:AS}{ρ:Site->Loc}{m:Mem}{act:Act}{w w':World}
def AV.wide:AV->Bool
 |.agg _=>true
 |.pv (.agg _)=>true
 |_=>false
theorem bQ.ZxB {v:Value}{a:AV}(h:bQ ρ m v a)(ha:a≠.any):v.cells.size=a.cells.length/\∀(j:Nat) (d:Value) (c:AV),v.cells[j]?=some d->a.cells[j]?=some c->bQ ρ m d c/\(a.wide=true->d.oneCell'=true):=by
 have single:∀{v:Value} {a:AV},bQ ρ m v a->v.cells=#[v]->a.cells=[a]->a.wide=false->v.cells.size=a.cells.length/\∀(j:Nat) (d:Value) (c:AV),v.cells[j]?=some d->a.cells[j]?=some c->bQ ρ m d c/\(a.wide=true->d.oneCell'=true):=by
  intro v a h h1 h2 h3;rw[h1,h2];refine⟨rfl,fun j d c k1 k2=>?_⟩;cases j with
  |zero=>simp at k1 k2;subst k1 k2;exact⟨h,fun e=>by rw[h3]at e;cases e⟩
  |succ j=>simp at k2
 have h':=h;cases h with
 |any=>exact absurd rfl ha
 |agg vs cs h0 h1 h2=>exact⟨h0,fun j d c k1 k2=>⟨h2 j d c k1 k2,fun _=>h1 d (Array.mem_of_getElem? k1)⟩⟩
 |pv v x hx=>
  cases hx with
  |agg vs cs h0 h1 h2=>
   refine⟨by simp only[AV.cells,Value.cells,fZ];exact h0,fun j d c k1 k2=>?_⟩;simp only[AV.cells,bY]at k2;obtain⟨x,k3,rfl⟩:=eB.1 k2;exact⟨.pv _ _ (h2 j d x k1 k3),fun _=>h1 d (Array.mem_of_getElem? k1)⟩
  |P6 _ hv=>exact single h' (by cases v<;>first|rfl|cases hv) rfl rfl
  |_=>exact single h' rfl rfl rfl
 |_=>exact single h' rfl rfl rfl
theorem Sat.aU (h:Sat N w0 m0 pl σ ρ m act w){x:Operand}{y:bB}(e:Go.Proofs.YthmbecacehfgfabGreatDoor.aU x=some y):bQ ρ m (act.eval x) (σ.o y):=by
 cases x with
 |tmp k=>
  simp[Go.Proofs.YthmbecacehfgfabGreatDoor.aU]at e;subst e;show bQ ρ m (act.tmps.getD k undef) ((σ.t k).getD .any);cases ht:σ.t k with
  |none=>exact .any _
  |some a=>
   obtain⟨v,k1,k2⟩:=h.tm k a ht;rw[Array.getD_eq_getD_getElem?,k1];exact k2
 |const v=>
  simp only[Go.Proofs.YthmbecacehfgfabGreatDoor.aU,eB]at e;obtain⟨x,k1,rfl⟩:=e;exact .pv _ _ (Mo k1 m)
 |func f=>
  simp[Go.Proofs.YthmbecacehfgfabGreatDoor.aU]at e;subst e;exact .pv _ _ (.fn f #[] #[] [] [] rfl rfl (fun j d c k=>by simp at k) (fun j d c k=>by simp at k))
 |global g=>simp[Go.Proofs.YthmbecacehfgfabGreatDoor.aU]at e
theorem Ic {vs:Array Value}{l:List AV}(h0:vs.size=l.length)(h1:∀d∈vs,d.oneCell'=true)(h2:∀(j:Nat) (d:Value) (c:AV),vs[j]?=some d->l[j]?=some c->bQ ρ m d c):bQ ρ m (.agg vs) (y0 l):=by
 unfold y0;split
 .rename_i xs hx;have e:=UH hx;subst e;refine .pv _ _ (.agg vs xs (by simpa using h0) h1 (fun j d c k1 k2=>?_))
  have:=h2 j d (.pv c) k1 (by rw[bY,k2];rfl)
  cases this with
  |pv _ _ h=>exact h
 .exact .agg vs l h0 h1 h2
def PJ (l:List AV):AV:=match eD l with
 |some xs=>.pv (.bN xs)
 |none=>.bN l
def GA (f:FuncId)(fs cs:List AV):AV:=match eD fs,eD cs with
 |some a,some b=>.pv (.fn f a b)
 |_,_=>.fn f fs cs
theorem Zsf {vs:Array Value}{l:List AV}(h0:vs.size=l.length)(h2:∀(j:Nat) (d:Value) (c:AV),vs[j]?=some d->l[j]?=some c->bQ ρ m d c):bQ ρ m (.tuple vs) (PJ l):=by
 unfold PJ;split
 .rename_i xs hx;have e:=UH hx;subst e;refine .pv _ _ (.bN vs xs (by simpa using h0) (fun j d c k1 k2=>?_))
  have:=h2 j d (.pv c) k1 (by rw[bY,k2];rfl)
  cases this with
  |pv _ _ h=>exact h
 .exact .bN vs l h0 h2
theorem Zu6 {f:FuncId}{vf vc:Array Value}{fs cs:List AV}(h0:vf.size=fs.length)(h1:vc.size=cs.length)(h2:∀(j:Nat) (d:Value) (c:AV),vf[j]?=some d->fs[j]?=some c->bQ ρ m d c)
  (h3:∀(j:Nat) (d:Value) (c:AV),vc[j]?=some d->cs[j]?=some c->bQ ρ m d c):bQ ρ m (.func (.func f) vf vc) (GA f fs cs):=by
 unfold GA;split
 .rename_i a b hx hy;have e:=UH hx;have e':=UH hy;subst e e';refine .pv _ _ (.fn f vf vc a b (by simpa using h0) (by simpa using h1) (fun j d c k1 k2=>?_) (fun j d c k1 k2=>?_))
  .have:=h2 j d (.pv c) k1 (by rw[bY,k2];rfl)
   cases this with
   |pv _ _ h=>exact h
  .have:=h3 j d (.pv c) k1 (by rw[bY,k2];rfl)
   cases this with
   |pv _ _ h=>exact h
 .exact .fn f vf vc fs cs h0 h1 h2 h3
def EJ (op:BinOp)(k k':IntKind)(a b:Int):Option PV:=
 match op with
 |.shl=>if b<0 then none else some (.int k (k.wrap (a*2^(min b.toNat k.bits))))
 |.shr=>if b<0 then none else some (.int k (a.fdiv (2^(min b.toNat k.bits))))
 |.add=>if k=k' then some (.int k (k.wrap (a+b)))else none
 |.sub=>if k=k' then some (.int k (k.wrap (a-b)))else none
 |.mul=>if k=k' then some (.int k (k.wrap (a*b)))else none
 |.quo=>if k=k' then(if b=0 then none else some (.int k (k.wrap (a.tdiv b))))else none
 |.rem=>if k=k' then(if b=0 then none else some (.int k (a.tmod b)))else none
 |.eql=>if k=k' then some (.bool (decide (a=b)))else none
 |.neq=>if k=k' then some (.bool (decide (a≠b)))else none
 |.lss=>if k=k' then some (.bool (decide (a<b)))else none
 |.leq=>if k=k' then some (.bool (decide (a<=b)))else none
 |.gtr=>if k=k' then some (.bool (decide (b<a)))else none
 |.geq=>if k=k' then some (.bool (decide (b<=a)))else none
 |.and=>if k=k' then some (.int k (k.wrap (BitVec.ofInt k.bits a&&& BitVec.ofInt k.bits b).toNat))else none
 |.or=>if k=k' then some (.int k (k.wrap (BitVec.ofInt k.bits a||| BitVec.ofInt k.bits b).toNat))else none
 |.xor=>if k=k' then some (.int k (k.wrap (BitVec.ofInt k.bits a ^^^ BitVec.ofInt k.bits b).toNat))else none
 |.andNot=>none
def EK (op:BinOp)(a b:Bool):Option PV:=
 match op with
 |.eql=>some (.bool (a==b))
 |.neq=>some (.bool (a != b))
 |_=>none
theorem ZtV (a b:Int):decide (a=b)=(a==b):=by rw[rB];simp
theorem ZtU (a b:Int):decide (a≠b)=(a != b):=by rw[rB];simp
theorem Zq5 {P:Program}{op:BinOp}{k k':IntKind}{a b:Int}{r:PV}(h:EJ op k k' a b=some r)(t:TypeId)(x y:Operand):
  ∃v,(∀w:World,(do eqGuard op t x y (.int k a) (.int k' b);binOp op t (.int k a) (.int k' b):Sem Value).run P w=.ok v w)/\∀m,dH m v r:=by
 have hg:∀w,(eqGuard op t x y (.int k a) (.int k' b)).run P w=.ok () w:=by
  intro w;unfold eqGuard;cases op<;>simp
 simp only[Sem.run_bind,hg,Result.andThen_ok];unfold EJ at h;cases op<;>simp only at h
 case shl=>
  split at h
  .cases h
  .rename_i hb;cases h
   (refine⟨_,?_,fun m=>.int _ _⟩;intro w;simp[binOp,Op.shift,hb])
 case shr=>
  split at h
  .cases h
  .rename_i hb;cases h
   (refine⟨_,?_,fun m=>.int _ _⟩;intro w;simp[binOp,Op.shift,hb])
 case quo=>
  split at h
  .rename_i hk;subst hk;split at h
   .cases h
   .rename_i hb;cases h
    (refine⟨_,?_,fun m=>.int _ _⟩;intro w;simp[binOp,Op.intDiv,hb])
  .cases h
 case rem=>
  split at h
  .rename_i hk;subst hk;split at h
   .cases h
   .rename_i hb;cases h
    (refine⟨_,?_,fun m=>.int _ _⟩;intro w;simp[binOp,Op.intDiv,hb])
  .cases h
 case andNot=>cases h
 case eql=>
  split at h
  .rename_i hk;subst hk;cases h;exact⟨.bool (a==b),by intro w;simp[binOp,Op.intCmp],fun m=>by rw[ZtV];exact .bool _⟩
  .cases h
 case neq=>
  split at h
  .rename_i hk;subst hk;cases h;exact⟨.bool (a != b),by intro w;simp[binOp,Op.intCmp],fun m=>by rw[ZtU];exact .bool _⟩
  .cases h
 all_goals
  split at h
  .rename_i hk;subst hk;cases h;first
   |(refine⟨_,?_,fun m=>.int _ _⟩;intro w;simp[binOp,Op.intArith];done)
   |(refine⟨_,?_,fun m=>.int _ _⟩;intro w;simp[binOp,Op.intBits];done)
   |(refine⟨_,?_,fun m=>.bool _⟩;intro w;simp[binOp,Op.intCmp];done)
  .cases h
theorem Zq6 {P:Program}{op:BinOp}{a b:Bool}{r:PV}(h:EK op a b=some r)(t:TypeId)(x y:Operand)(ht:P.underlying t=some .bool):
  ∃v,(∀w:World,(do eqGuard op t x y (.bool a) (.bool b);binOp op t (.bool a) (.bool b):Sem Value).run P w=.ok v w)/\∀m,dH m v r:=by
 have hg:∀w,(eqGuard op t x y (.bool a) (.bool b)).run P w=.ok () w:=by
  intro w;unfold eqGuard;cases op<;>simp
 simp only[Sem.run_bind,hg,Result.andThen_ok];unfold EK at h;cases op<;>simp only at h<;>cases h
 ·(refine⟨_,?_,fun m=>.bool _⟩;intro w;simp only[binOp,Sem.run_bind,run_equal_bool w t a b ht,Result.andThen_ok];rfl)
 ·(refine⟨_,?_,fun m=>.bool _⟩;intro w;simp only[binOp,Sem.run_bind,run_equal_bool w t a b ht,Result.andThen_ok];rfl)
end
mutual
def AV.cJ (s:Site)(nb:Nat)(xs:List PV):AV->AV
 |.any=>.any
 |.pv x=>.pv x
 |.ptr s' off=>if s'=s then(if nb=0 then .pv (.ref (xs.drop off))else .any)else .ptr s' off
 |.lG s' n i off=>if s'=s then .any else .lG s' n i off
 |.vec s' n lo len=>if s'=s then(if 0<n/\n=nb/\lo+len<=xs.length then .pv (.aF false n ((xs.drop lo).take len))else .any)else .vec s' n lo len
 |.mp s'=>if s'=s then .any else .mp s'
 |.nQ s'=>if s'=s then .any else .nQ s'
 |.fn f fs cs=>GA f (AV.aY s nb xs fs) (AV.aY s nb xs cs)
 |.agg cs=>y0 (AV.aY s nb xs cs)
 |.bN vs=>PJ (AV.aY s nb xs vs)
def AV.aY (s:Site)(nb:Nat)(xs:List PV):List AV->List AV
 |[]=>[]
 |a::r=>AV.cJ s nb xs a::AV.aY s nb xs r
end
def aJ.cJ (s:Site)(nb:Nat)(xs:List PV):aJ->aJ
 |.cells bU=>.cells (AV.aY s nb xs bU)
 |.loop C ps nt tm st=>.loop C ps nt (tm.map fun p=>(p.1,p.2.cJ s nb xs)) st
 |b=>b
mutual
def AV.dC (q:Site->Bool):AV->Bool
 |.any=>true
 |.pv _=>true
 |.ptr s _=>q s
 |.lG s _ _ _=>q s
 |.vec s _ _ _=>q s
 |.mp s=>q s
 |.nQ s=>q s
 |.fn _ fs cs=>AV.hZ q fs&&AV.hZ q cs
 |.agg cs=>AV.hZ q cs
 |.bN vs=>AV.hZ q vs
def AV.hZ (q:Site->Bool):List AV->Bool
 |[]=>true
 |a::r=>AV.dC q a&&AV.hZ q r
end
def AV.live (q:Site->Bool)(a:AV):AV:=match a.dC q with
 |true=>a
 |false=>.any
def aJ.live (q:Site->Bool):aJ->aJ
 |.cells bU=>.cells (bU.map (AV.live q))
 |.loop C ps nt tm st=>.loop C ps nt (tm.map fun p=>(p.1,p.2.live q)) st
 |b=>b
def AS.tidy (σ:AS):AS:=⟨σ.tm,σ.bx.map fun p=>(p.1,p.2.live fun s=>(σ.b s).isSome)⟩
def AS.cJ (s:Site)(σ:AS):AS:=match σ.b s with
 |none=>σ.tidy
 |some (.arr _ n xs)=>⟨σ.tm.map fun p=>(p.1,p.2.cJ s n xs),(σ.bx.filter fun p=>!decide (p.1=s)).map fun p=>(p.1,p.2.cJ s n xs)⟩
 |some (.cells gG)=>match eD gG with
  |some xs=>⟨σ.tm.map fun p=>(p.1,p.2.cJ s 0 xs),(σ.bx.filter fun p=>!decide (p.1=s)).map fun p=>(p.1,p.2.cJ s 0 xs)⟩
  |none=>σ
 |_=>σ
def AS.KB (a:AV)(σ:AS):AS:=match a with
 |.vec s _ _ _=>σ.cJ s
 |_=>σ
def AS.j7:List AV->AS->AS
 |[],σ=>σ
 |a::r,σ=>AS.j7 r (σ.KB a)
def AS.xD (a:AV)(σ:AS):AS:=match a with
 |.agg cs=>σ.j7 cs
 |a=>σ.KB a
def AS.EU:List bB->AS->AS
 |[],σ=>σ
 |x::r,σ=>AS.EU r (σ.xD (σ.o x))
def AS.tY (σ:AS):List bB->Option (List PV)
 |[]=>some []
 |x::r=>match σ.o x,σ.tY r with
  |.pv x,some l=>some (x::l)
  |_,_=>none
def wQ (σ:AS):List AV->List (Nat×Nat×bB)->Option (List AV)
 |l,[]=>some l
 |l,(off,n,x)::r=>if(σ.o x).cells.length=n/\off+n<=l.length/\((σ.o x).wide=true\/(σ.o x).one=true)then wQ σ (aR l off (σ.o x).cells) r else none
def setAt (x:PV)(off:Nat)(p:PV):PV:=match x with
 |.agg l=>.agg (aR l off p.cells)
 |_=>p
def AS.cont (σ:AS)(a:AV)(n:Nat):Option (List PV):=match a with
 |.pv (.aF _ n' xs)=>if n'=n then some xs else none
 |.pv (.emp _)=>some []
 |.vec s n' lo len=>match σ.b s with
  |some (.arr _ eW xs)=>if n'=n/\eW=n/\lo+len<=xs.length then some ((xs.drop lo).take len)else none
  |_=>none
 |_=>none
inductive QK where
 |sl
 |pt
 |mp
 deriving Inhabited,DecidableEq
def dI:QK->AV->Option Bool
 |.sl,.pv (.emp nl)=>nl
 |.sl,.pv (.aF nn _ xs)=>if nn=true then some false else match xs with
  |[]=>none
  |_::_=>some false
 |.sl,.vec _ _ _ len=>if len=0 then none else some false
 |.pt,.pv .eX=>some true
 |.pt,.pv (.ref _)=>some false
 |.pt,.ptr _ _=>some false
 |.pt,.lG _ _ _ _=>some false
 |.mp,.pv .cV=>some true
 |.mp,.mp _=>some false
 |_,_=>none
def y8:QK->AV->Prop
 |.sl,.pv (.emp _)=>True
 |.sl,.pv (.aF _ _ _)=>True
 |.sl,.vec _ _ _ _=>True
 |_,_=>False
inductive CK where
 |int (k:IntKind)
 |bool
 |str
 deriving DecidableEq,Inhabited
structure KT where
 wide:Bool
 ks:List CK
 deriving DecidableEq,Inhabited
def CK.ok:CK->PV->Bool
 |.int k,.int k' _=>decide (k'=k)
 |.bool,.bool _=>true
 |.str,.str _=>true
 |_,_=>false
def bW:List CK->List PV->Bool
 |[],[]=>true
 |k::ks,x::xs=>k.ok x&&bW ks xs
 |_,_=>false
def KT.ok (t:KT):PV->Bool
 |.agg cs=>t.wide&&bW t.ks cs
 |x=>!t.wide&&bW t.ks [x]
def wR:PV->PV->Bool
 |.int _ a,.int _ b=>a==b
 |.bool a,.bool b=>a==b
 |.str a,.str b=>a.toList==b.toList
 |_,_=>false
def lT:List PV->List PV->Bool
 |[],[]=>true
 |x::xs,y::ys=>wR x y&&lT xs ys
 |_,_=>false
def gV (x y:PV):Bool:=lT x.cells y.cells
def fA (k:PV):List (PV×PV)->Option PV
 |[]=>none
 |(k',v)::r=>match gV k k' with
  |true=>some v
  |false=>fA k r
def mM (k v:PV):List (PV×PV)->List (PV×PV)
 |[]=>[(k,v)]
 |(k',v')::r=>match gV k k' with
  |true=>(k,v)::r
  |false=>(k',v')::mM k v r
def A4 (kt:KT)(es:List (PV×PV)):Bool:=es.all fun p=>kt.ok p.1
def gK (ok:Bool)(v:Option PV)(z:PV):AV:=match ok with
 |true=>.pv (.bN [v.getD z,.bool v.isSome])
 |false=>.pv (v.getD z)
def oM (W:Nat):Nat->List PV->List PV
 |0,_=>[]
 |k+1,xs=>.agg (xs.take W)::oM W k (xs.drop W)
def BT (s:ByteArray)(z:Int):Option UInt8:=if 0<=z then s[z.toNat]? else none
def qN (s:ByteArray):List PV:=s.data.toList.map fun b=>.int .u8 b.toNat
def BC:List PV->Option (List Int)
 |[]=>some []
 |.int .u8 n::r=>(BC r).map (n::·)
 |_=>none
def KJ (ns:List Int):ByteArray:=⟨(ns.map fun n=>UInt8.ofNat n.toNat).toArray⟩
def i6 (T e:TypeId)(l:List UInt8)(q:Loc)(_:Mem)(w:World):Prop:=
 ∃p v,w.heap[q.b]?=some (.cells #[p,v] T (0,0))/\(p=.pointer none\/p=.pointer (some ⟨q.b,0,none⟩))/\
  ((v=.slice none 0 0/\l=[])\/∃g c cur,v=.slice (some ⟨g,0,none⟩) l.length (c+1)/\g≠q.b/\w.heap[g]?=some (.cells cur e (0,0))/\l.length<=c+1/\c+1<=cur.size/\c+1<=maxLen/\∀(i:Nat) (b:UInt8),l[i]?=some b->cur[i]?=some (.int .u8 b.toNat))
def zE (q:Loc)(w:World):List Nat:=match w.heap[q.b]? with
 |some (.cells cs _ _)=>match cs[(1:Nat)]? with
  |some (.slice (some A) _ (_+1))=>[A.block]
  |_=>[]
 |_=>[]
theorem Iw {q:Loc}{w:World}{p:Value}{T:TypeId}{t:Nat×Nat}{g o n c:Nat}(h:w.heap[q.b]?=some (.cells #[p,.slice (some ⟨g,o,none⟩) n (c+1)] T t)):zE q w=[g]:=by
 unfold zE;rw[h];rfl
theorem Zi5 {q:Loc}{w:World}{p:Value}{T:TypeId}{t:Nat×Nat}(h:w.heap[q.b]?=some (.cells #[p,.slice none 0 0] T t)):zE q w=[]:=by
 unfold zE;rw[h];rfl
def EH (T e:TypeId)(l:List UInt8):Jg where
 rd:=i6 T e l
 ins:=zE
 same q w w' h:=by unfold zE;rw[h]
 obj q m w h:=by
  obtain⟨p,v,h1,_⟩:=h;exact⟨_,_,h1⟩
 wE q m w k h hk:=by
  obtain⟨p,v,h1,_,⟨rfl,_⟩|⟨g,c,cur,rfl,_,h3,_⟩⟩:=h
  .rw[Zi5 h1]at hk;cases hk
  .rw[Iw h1]at hk;rw[sG]at hk;subst hk;exact⟨_,_,h3⟩
 more q m m' w w' h _ hb hk:=by
  obtain⟨p,v,h1,h2,⟨rfl,h3⟩|⟨g,c,cur,rfl,h4,h3,h5⟩⟩:=h
  .exact⟨p,_,by rw[hb];exact h1,h2,.inl ⟨rfl,h3⟩⟩
  .have hg:=hk g (by rw[Iw h1];exact List.mem_singleton_self _);exact⟨p,_,by rw[hb];exact h1,h2,.inr ⟨g,c,cur,rfl,h4,by rw[hg];exact h3,h5⟩⟩
inductive W6 where
 |eqv (neg:Bool) (kt:KT) (x y:bB)
 |G7
 |look (kt:KT) (z:PV) (ok:Bool) (x i:bB)
 |iQ (kt:KT) (x i v:bB)
 |CG (x:bB)
 |copy (n:Nat) (x y:bB)
 |clear (n:Nat) (z:PV) (x:bB)
 |FL (n:Nat) (x hi:bB)
 |ZM (n W:Nat) (x hi:bB)
 |rP (x:bB)
 |B3 (x i:bB)
 |VB (x:bB) (lo hi:Option bB)
 |fT (x y:bB)
 |BS (e:TypeId) (x:bB)
 |PK (x:bB)
 |sN (t:TypeId) (x:bB)
 |MJ (neg:Bool) (x:bB)
 |LX (t:TypeId) (z:PV) (x:bB)
 |B8 (x:bB)
 |WU (e:TypeId) (n bytes:Nat) (x y:bB)
 |Fo (T e:TypeId)
 deriving Inhabited
inductive lY where
 |dU (x:bB)
 |pick (c a b:bB)
 |bin (bt:Bool) (op:BinOp) (x y:bB)
 |not (x:bB)
 |neg (x:bB)
 |box (n:Nat) (x:bB)
 |alloc (z:PV)
 |build (z:PV) (ps:List (Nat×Nat×bB))
 |aQ (e n:Nat) (ps:List bB)
 |load (row:Bool) (n:Nat) (x:bB)
 |store (n:Nat) (x y:bB)
 |fa (off:Nat) (x:bB)
 |NX (row:Bool) (off n:Nat) (x:bB)
 |ia (n:Nat) (arr:Option Nat) (x i:bB)
 |len (arr:Option Nat) (x:bB)
 |ext (x:bB) (i:Nat)
 |yK (f:FuncId) (fs cs:List bB)
 |vW (x:bB)
 |jC (mx:Bool) (x y:bB)
 |conv (k:IntKind) (x:bB)
 |app (e n bytes:Nat) (x y:bB)
 |iR (e n bytes:Nat) (x y:bB)
 |VH (e n bytes:Nat) (z:PV) (l c:bB)
 |J4 (n:Nat) (arr:Option Nat) (x:bB) (lo hi mx:Option bB)
 |call (f:bB) (args:List bB)
 |yJ (k:QK) (neg:Bool) (x:bB)
 |x (y:W6)
 |other
 deriving Inhabited
def AS.ob (σ:AS)(x:Option bB)(z:Int):Option Int:=match x with
 |none=>some z
 |some x=>match σ.o x with
  |.pv (.int _ a)=>some a
  |_=>none
def cI (l:W6)(d:Nat)(K:AV->AS->Prop)(σ:AS):Prop:=
 match l with
 |.eqv neg kt x y=>match σ.o x,σ.o y with
  |.pv a,.pv b=>kt.ok a=true/\kt.ok b=true/\K (.pv (.bool (gV a b != neg))) σ
  |_,_=>False
 |.G7=>K (.mp (.loc d 0)) ((σ.bG d).add (.loc d 0) (.map []))
 |.look kt z ok x i=>match σ.o i with
  |.pv k=>kt.ok k=true/\match σ.o x with
   |.mp s=>match σ.b s with
    |some (.map es)=>A4 kt es=true/\K (gK ok (fA k es) z) σ
    |_=>False
   |.pv .cV=>K (gK ok none z) σ
   |_=>False
  |_=>False
 |.iQ kt x i v=>match σ.o i with
  |.pv k=>kt.ok k=true/\match σ.o x with
   |.mp s=>match(σ.xD (σ.o v)).b s,(σ.xD (σ.o v)).o v with
    |some (.map es),.pv val=>A4 kt es=true/\K .any ((σ.xD (σ.o v)).set s (.map (mM k val es)))
    |_,_=>False
   |_=>False
  |_=>False
 |.CG x=>match σ.o x with
  |.mp s=>match σ.b s with
   |some (.map es)=>K (.pv (.int .i64 es.length)) σ
   |_=>False
  |.pv .cV=>K (.pv (.int .i64 0)) σ
  |_=>False
 |.copy n x y=>match σ.cont (σ.o y) n with
  |some ys=>match σ.o x with
   |.pv (.emp _)=>K (.pv (.int .i64 0)) σ
   |.vec s n' lo len=>match σ.b s with
    |some (.arr e eW xs)=>(n'=n/\eW=n/\lo+len<=xs.length)/\K (.pv (.int .i64 (ys.take len).length)) (σ.set s (.arr e n (aR xs lo (ys.take len))))
    |_=>False
   |_=>False
  |none=>False
 |.clear n z x=>match σ.o x with
  |.pv (.emp _)=>K (.pv (.bN [])) σ
  |.vec s n' lo len=>match σ.b s with
   |some (.arr e eW xs)=>(n'=n/\eW=n/\lo+len<=xs.length)/\K (.pv (.bN [])) (σ.set s (.arr e n (aR xs lo (List.replicate len z))))
   |_=>False
  |_=>False
 |.FL n x hi=>match σ.o hi with
  |.pv (.int _ h)=>match σ.o x with
   |.ptr s off=>match σ.b s with
    |some (.cells gG)=>match eD gG with
     |some xs=>(0<=h/\h<=n/\off+n<=xs.length)/\K (.pv (.aF false 1 ((xs.drop off).take h.toNat))) (σ.cJ s)
     |none=>False
    |_=>False
   |.pv (.ref xs)=>(0<=h/\h<=n/\n<=xs.length)/\K (.pv (.aF false 1 (xs.take h.toNat))) σ
   |_=>False
  |_=>False
 |.ZM n W x hi=>match σ.o hi with
  |.pv (.int _ h)=>match σ.o x with
   |.ptr s off=>match σ.b s with
    |some (.cells gG)=>match eD gG with
     |some xs=>(0<=h/\h<=n/\off+n*W<=xs.length)/\K (.pv (.aF false W (oM W h.toNat (xs.drop off)))) (σ.cJ s)
     |none=>False
    |_=>False
   |_=>False
  |_=>False
 |.rP x=>match σ.o x with
  |.pv (.str s)=>K (.pv (.int .i64 s.size)) σ
  |_=>False
 |.B3 x i=>match σ.o x,σ.o i with
  |.pv (.str s),.pv (.int _ z)=>match BT s z with
   |some b=>K (.pv (.int .u8 b.toNat)) σ
   |none=>False
  |_,_=>False
 |.VB x lo hi=>match σ.o x with
  |.pv (.str s)=>match σ.ob lo 0,σ.ob hi s.size with
   |some l,some h=>(0<=l/\l<=h/\h<=s.size)/\K (.pv (.str (s.extract l.toNat h.toNat))) σ
   |_,_=>False
  |_=>False
 |.fT x y=>match σ.o x,σ.o y with
  |.pv (.str a),.pv (.str b)=>a.size+b.size<=9223372036854775807/\K (.pv (.str (a++b))) σ
  |_,_=>False
 |.BS e x=>match σ.o x with
  |.pv (.str s)=>s.size<=1000000/\K (.pv (.aF false 1 (qN s))) σ
  |_=>False
 |.PK x=>match σ.cont (σ.o x) 1 with
  |some xs=>match BC xs with
   |some ns=>K (.pv (.str (KJ ns))) σ
   |none=>False
  |none=>False
 |.sN t x=>match σ.o x with
  |.pv a=>K (.pv (.iface t a)) σ
  |_=>False
 |.MJ neg x=>match σ.o x with
  |.pv .eY=>K (.pv (.bool (!neg))) σ
  |.pv (.iface _ _)=>K (.pv (.bool neg)) σ
  |_=>False
 |.LX t z x=>match σ.o x with
  |.pv .eY=>K (.pv (.bN [z,.bool false])) σ
  |.pv (.iface u a)=>K (.pv (.bN (if u=t then[a,.bool true]else[z,.bool false]))) σ
  |_=>False
 |.B8 _=>False
 |.WU e n bytes x y=>match σ.o y with
  |.pv (.str s0)=>match σ.o x with
   |.pv (.emp _)=>(qN s0).length*bytes<=140737488355328/\(qN s0).length<=9223372036854775807/\K (.vec (.loc d 0) n 0 (qN s0).length) ((σ.bG d).add (.loc d 0) (.arr e n (qN s0)))
   |.vec s n' lo len=>match σ.b s with
    |some (.arr e' eW xs)=>(e'=e/\n'=n/\eW=n/\lo+len=xs.length)/\(len+(qN s0).length)*bytes<=140737488355328/\len+(qN s0).length<=9223372036854775807/\K (.vec (.loc d 0) n 0 (len+(qN s0).length)) (((σ.drop s).bG d).add (.loc d 0) (.arr e n (xs.drop lo++qN s0)))
    |_=>False
   |_=>False
  |_=>False
 |.Fo T e=>K (.ptr (.loc d 0) 0) ((σ.bG d).add (.loc d 0) (.ext (EH T e [])))
def cC (l:lY)(d:Nat)(K:AV->AS->Prop)(σ:AS):Prop:=
 match l with
 |.dU x=>K (σ.o x) σ
 |.pick c a b=>match σ.o c with
  |.pv (.bool t)=>K (if t=true then σ.o a else σ.o b) σ
  |_=>False
 |.bin bt op x y=>match σ.o x,σ.o y with
  |.pv (.int k a),.pv (.int k' b)=>match EJ op k k' a b with
   |some r=>K (.pv r) σ
   |none=>False
  |.pv (.bool a),.pv (.bool b)=>bt=true/\match EK op a b with
   |some r=>K (.pv r) σ
   |none=>False
  |_,_=>False
 |.not x=>match σ.o x with
  |.pv (.bool a)=>K (.pv (.bool (!a))) σ
  |_=>False
 |.yJ k neg x=>match dI k (σ.o x)with
  |some b=>K (.pv (.bool (b != neg))) σ
  |none=>y8 k (σ.o x)/\K (.pv (.bool true)) σ/\K (.pv (.bool false)) σ
 |.x y=>cI y d K σ
 |.neg x=>match σ.o x with
  |.pv (.int k a)=>K (.pv (.int k (k.wrap (0-a)))) σ
  |_=>False
 |.box n x=>((σ.bG d).o x).cells.length=n/\(((σ.bG d).o x).wide=true\/((σ.bG d).o x).one=true)/\K (.ptr (.loc d 0) 0) ((σ.bG d).add (.loc d 0) (.cells ((σ.bG d).o x).cells))
 |.alloc z=>K (.ptr (.loc d 0) 0) ((σ.bG d).add (.loc d 0) (.cells (z.cells.map .pv)))
 |.build z ps=>match wQ σ (z.cells.map .pv) ps with
  |some l=>K (y0 l) σ
  |none=>False
 |.aQ e n ps=>match(σ.EU ps).tY ps with
  |some []=>K (.pv (.emp (some false))) σ
  |some xs=>(∀x∈xs,x.cells.length=n/\((AV.pv x).wide=true\/(AV.pv x).one=true))/\K (.vec (.loc d 0) n 0 xs.length) (((σ.EU ps).bG d).add (.loc d 0) (.arr e n xs))
  |none=>False
 |.load row n x=>match σ.o x with
  |.pv (.ref cs)=>if row=true then n<=cs.length/\K (.pv (.agg (cs.take n))) σ else match cs with
   |c::_=>K (.pv c) σ
   |[]=>False
  |.ptr s off=>match σ.b s with
   |some (.cells bU)=>if row=true then off+n<=bU.length/\K (y0 ((bU.drop off).take n)) σ else match bU[off]? with
    |some a=>K a σ
    |none=>False
   |_=>False
  |.lG s n' i off=>match σ.b s with
   |some (.arr _ eW xs)=>match xs[i]? with
    |some x=>n'=eW/\if row=true then off+n<=x.cells.length/\K (.pv (.agg ((x.cells.drop off).take n))) σ else match x.cells[off]? with
     |some c=>K (.pv c) σ
     |none=>False
    |none=>False
   |_=>False
  |_=>False
 |.store n x y=>match σ.o x with
  |.ptr s off=>match σ.b s with
   |some (.cells bU)=>(σ.o y).cells.length=n/\((σ.o y).wide=true\/(σ.o y).one=true)/\off+n<=bU.length/\K .any (σ.set s (.cells (aR bU off (σ.o y).cells)))
   |_=>False
  |.lG s n' i off=>match(σ.xD (σ.o y)).b s,(σ.xD (σ.o y)).o y with
    |some (.arr e eW xs),.pv p=>match xs[i]? with
     |some x=>n'=eW/\0<n/\p.cells.length=n/\((AV.pv p).wide=true\/(AV.pv p).one=true)/\off+n<=x.cells.length/\K .any ((σ.xD (σ.o y)).set s (.arr e eW (xs.set i (setAt x off p))))
     |none=>False
    |_,_=>False
  |_=>False
 |.fa off x=>match σ.o x with
  |.pv (.ref cs)=>off<=cs.length/\K (.pv (.ref (cs.drop off))) σ
  |.ptr s o=>K (.ptr s (o+off)) σ
  |.lG s n i o=>K (.lG s n i (o+off)) σ
  |_=>False
 |.NX row off n x=>if row=true then off+n<=(σ.o x).cells.length/\(σ.o x).wide=true/\K (y0 (((σ.o x).cells.drop off).take n)) σ else match(σ.o x).cells[off]? with
  |some a=>(σ.o x).wide=true/\K a σ
  |none=>False
 |.ia n arr x i=>match σ.o i with
  |.pv (.int _ z)=>match arr with
   |none=>match σ.o x with
    |.pv (.aF _ n' xs)=>if 0<=z then match xs[z.toNat]? with
      |some y=>n'=n/\K (.pv (.ref y.cells)) σ
      |none=>False
     else False
    |.vec s n' lo len=>n'=n/\0<=z/\z<len/\K (.lG s n (lo+z.toNat) 0) σ
    |_=>False
   |some l=>0<=z/\z<l/\match σ.o x with
    |.pv (.ref cs)=>z.toNat*n<=cs.length/\K (.pv (.ref (cs.drop (z.toNat*n)))) σ
    |.ptr s o=>K (.ptr s (o+z.toNat*n)) σ
    |.lG s n' j o=>K (.lG s n' j (o+z.toNat*n)) σ
    |_=>False
  |_=>False
 |.len arr x=>match arr with
  |some l=>K (.pv (.int .i64 l)) σ
  |none=>match σ.o x with
   |.pv (.aF _ _ xs)=>K (.pv (.int .i64 xs.length)) σ
   |.pv (.emp _)=>K (.pv (.int .i64 0)) σ
   |.vec _ _ _ len=>K (.pv (.int .i64 len)) σ
   |_=>False
 |.ext x i=>match σ.o x with
  |.pv (.bN vs)=>match vs[i]? with
   |some v=>K (.pv v) σ
   |none=>False
  |.bN vs=>match vs[i]? with
   |some v=>K v σ
   |none=>False
  |_=>False
 |.yK f fs cs=>match σ.tY fs,σ.tY cs with
  |some a,some b=>K (.pv (.fn f a b)) σ
  |_,_=>K (.fn f (fs.map σ.o) (cs.map σ.o)) σ
 |.vW x=>match σ.o x with
  |.pv (.ref cs)=>K (.pv (.ref cs)) σ
  |.ptr s o=>K (.ptr s o) σ
  |.lG s n i o=>K (.lG s n i o) σ
  |_=>False
 |.jC mx x y=>match σ.o x,σ.o y with
  |.pv (.int k a),.pv (.int _ b)=>K (.pv (.int k (if mx=true then(if b>a then b else a)else(if b<a then b else a)))) σ
  |_,_=>False
 |.conv k x=>match σ.o x with
  |.pv (.int _ a)=>K (.pv (.int k (k.wrap a))) σ
  |_=>False
 |.app e n bytes x y=>match σ.cont (σ.o y) n with
  |some ys=>match σ.o x with
   |.pv (.emp _)=>ys.length*bytes<=140737488355328/\ys.length<=9223372036854775807/\K (.vec (.loc d 0) n 0 ys.length) ((σ.bG d).add (.loc d 0) (.arr e n ys))
   |.vec s n' lo len=>match σ.b s with
    |some (.arr e' eW xs)=>((e'=e/\n'=n/\eW=n/\lo+len=xs.length)/\(len+ys.length)*bytes<=140737488355328/\len+ys.length<=9223372036854775807/\K (.vec (.loc d 0) n 0 (len+ys.length)) (((σ.drop s).bG d).add (.loc d 0) (.arr e n (xs.drop lo++ys))))\/
      ((e'=e/\n'=n/\eW=n/\lo+len<=xs.length)/\(len+ys.length)*bytes<=140737488355328/\len+ys.length<=9223372036854775807/\K (.vec (.loc d 0) n 0 (len+ys.length)) ((σ.bG d).add (.loc d 0) (.arr e n ((xs.drop lo).take len++ys)))/\K (.vec s n lo (len+ys.length)) (σ.set s (.arr e n (xs.take (lo+len)++ys))))
    |_=>False
   |_=>False
  |none=>False
 |.iR e n bytes x y=>match σ.cont (σ.o y) n with
  |some ys=>match σ.o x with
   |.pv (.emp _)=>ys.length*bytes<=140737488355328/\ys.length<=9223372036854775807/\K (.vec (.loc d 0) n 0 ys.length) ((σ.bG d).add (.loc d 0) (.arr e n ys))
   |_=>False
  |none=>False
 |.VH e n bytes z l c=>match σ.o l,σ.o c with
  |.pv (.int _ a),.pv (.int _ b)=>0<=a/\a<=b/\b<=1000000/\bytes<=1000/\K (.vec (.loc d 0) n 0 a.toNat) ((σ.bG d).add (.loc d 0) (.arr e n (List.replicate a.toNat z)))
  |_,_=>False
 |.J4 n arr x lo hi mx=>match mx with
  |some _=>False
  |none=>match σ.ob lo 0 with
   |some l=>match arr with
    |none=>match σ.o x with
     |.pv (.aF nn n' xs)=>match σ.ob hi xs.length with
      |some h=>0<=l/\l<=h/\h<=xs.length/\n'=n/\K (.pv (.aF nn n ((xs.take h.toNat).drop l.toNat))) σ
      |none=>False
     |.pv (.emp nl)=>match σ.ob hi 0 with
      |some h=>l=0/\h=0/\K (.pv (.emp nl)) σ
      |none=>False
     |.vec s n' AE len=>match σ.ob hi len with
      |some h=>0<=l/\l<=h/\h<=len/\n'=n/\K (.vec s n (AE+l.toNat) (h.toNat-l.toNat)) σ
      |none=>False
     |_=>False
    |some _=>False
   |none=>False
 |_=>False
section
variable {N:Nat}{w0:World}{m0:Env w0}{pl:List Nat}{σ:AS}{ρ:Site->Loc}{m m':Mem}{act:Act}{w w':World}
def Mem.with (m:Mem)(w:World)(l:Loc):Mem:=fun b o=>if l.real=true/\b=l.b then w.cell? ⟨b,o,none⟩else m b o
theorem Mem.Yr {m:Mem}(h:Le m w.mem)(l:Loc):Le m (m.with w l):=fun b o v hv=>by
 unfold Mem.with
 split
 .exact h b o v hv
 .exact hv
theorem Mem.ZxF {m:Mem}(h:Le m w.mem)(l:Loc):Le (m.with w l) w.mem:=fun b o v hv=>by
 unfold Mem.with at hv;split at hv
 .exact hv
 .exact h b o v hv
theorem l8 {cs:Array Value}{k n j:Nat}:((cs.toList.drop k).take n)[j]?=if j<n then cs[k+j]? else none:=by
 rw[mH];split
 .rw[mW,O7]
 .rfl
theorem Iq {cs:Array Value}{k n:Nat}(h:k+n<=cs.size):((cs.toList.drop k).take n).length=n:=by
 rw[gM,uQ,vC];omega
theorem W5 {a c n:Nat}(h:a<c):a*n+n<=c*n:=by
 have:(a+1)*n<=c*n:=I5 _ h
 rw[Nat.add_mul]at this;omega
theorem Zo3 {s:Site}{e n:Nat}{xs:List PV}(hb:kT ρ m w s (.arr e n xs))(hm:Le m m')(nK:(ρ s).real=true->∀o v,w.cell? ⟨(ρ s).b,o,none⟩=some v->m' (ρ s).b o=some v){lo len:Nat}(hl:lo+len<=xs.length){v:Value}(hv:bQ ρ m v (.vec s n lo len)):
  dH m' v (.aF false n ((xs.drop lo).take len)):=by
 have hlen:((xs.drop lo).take len).length=len:=by rw[gM,uQ];omega
 cases hv with
 |nG _ _ _ a h=>
  have e0:((xs.drop lo).take 0)=[]:=by simp
  rw[e0];exact .aF a 0 false n [] (fun _=>[]) (by simp) (by simp) (fun _=>rfl) h (fun e=>(by cases e)) (fun i x hx=>by simp at hx) (fun i x hx=>by simp at hx) (fun i x j d c hx=>by simp at hx)
 |vec _ _ _ _ cap h0 h1 h2=>
  obtain⟨hn,hb|⟨_,cs,k1,k2,k3,k4,k5⟩⟩:=hb
  .rw[hb.1]at h2;cases h2
  have get:∀i x,((xs.drop lo).take len)[i]?=some x->xs[lo+i]?=some x/\i<len:=fun i x hx=>by
   rw[mH]at hx;split at hx
   .rename_i hi;rw[mW]at hx;exact⟨hx,hi⟩
   .cases hx
  have fit:∀i,i<len->(ρ s).o+(lo+i)*n+n<=cs.size:=fun i hi=>by
   have:(lo+i)*n+n<=(ρ s).cap*n:=W5 (by omega)
   omega
  have hh:=dH.aF (m:=m') (some ⟨(ρ s).b,(ρ s).o+lo*n,none⟩) cap false n ((xs.drop lo).take len) (fun i=>(cs.toList.drop ((ρ s).o+(lo+i)*n)).take n) (by rw[hlen];exact h0) (by have:(ρ s).cap<=9223372036854775807:=(by simpa[maxLen]using k4);omega)
   (fun e=>(by cases e)) (fun A hA=>(by cases hA;rfl)) (fun e=>(by cases e)) (fun i x hx=>?_) (fun i x hx=>?_) (fun i x j d c hx hd hc=>?_)
  .rw[hlen]at hh;exact hh
  .obtain⟨g1,g2⟩:=get i x hx;refine⟨_,_,rfl,At.j8 (fun j u hj=>?_)⟩;rw[l8]at hj;split at hj
   .refine nK h2 _ _ ?_;rw[show(ρ s).o+lo*n+i*n+j=(ρ s).o+(lo+i)*n+j by rw[Nat.add_mul];omega];simp[World.cell?,k1,hj]
   .cases hj
  .obtain⟨g1,g2⟩:=get i x hx;refine⟨Iq (fit i g2),(k5 _ _ g1).1,fun d hd=>?_⟩;obtain⟨j,hj⟩:=iO.1 hd;rw[l8]at hj;split at hj
   .rename_i sA;obtain⟨kc,kx⟩:=k5 _ _ g1;have WI:j<x.cells.length:=by omega
    obtain⟨d',q1,q2,_⟩:=kx j _ (bC WI);rw[hj]at q1;cases q1;exact q2
   .cases hj
  .obtain⟨g1,g2⟩:=get i x hx;rw[l8]at hd;split at hd
   .obtain⟨kc,kx⟩:=k5 _ _ g1;obtain⟨d',q1,_,q3⟩:=kx j c hc;rw[hd]at q1;cases q1;exact q3.mono hm
   .cases hd
theorem Hv {s:Site}{nb:Nat}{xs:List PV}:∀{l:List AV} {i:Nat},(AV.aY s nb xs l)[i]?=(l[i]?).map (AV.cJ s nb xs)
 |[],i=>by simp[AV.aY]
 |a::r,0=>by simp[AV.aY]
 |a::r,i+1=>by
  simp only[AV.aY,List.getElem?_cons_succ];exact Hv
theorem Hw {s:Site}{nb:Nat}{xs:List PV}:∀{l:List AV},(AV.aY s nb xs l).length=l.length
 |[]=>rfl
 |a::r=>by simp only[AV.aY,pI,Hw]
theorem bQ.Fu {s:Site}{nb:Nat}{xs:List PV}(hm:Le m m')(Ri:∀v off,bQ ρ m v (.ptr s off)->bQ ρ m' v (if nb=0 then .pv (.ref (xs.drop off))else .any))
  (ZJ:∀v n lo len,bQ ρ m v (.vec s n lo len)->bQ ρ m' v (if 0<n/\n=nb/\lo+len<=xs.length then .pv (.aF false n ((xs.drop lo).take len))else .any)) {v:Value} {a:AV} (h:bQ ρ m v a):bQ ρ m' v (a.cJ s nb xs):=by
 induction h with
 |any v=>exact .any v
 |pv v x h=>exact .pv v x (h.mono hm)
 |ptr s' off=>
  rw[AV.cJ];split
  .rename_i e;subst e;exact Ri _ off (.ptr _ off)
  .exact .ptr s' off
 |lG s' n i off=>
  rw[AV.cJ];split
  .exact .any _
  .exact .lG s' n i off
 |vec s' n lo len cap h0 h1 h2=>
  rw[AV.cJ];split
  .rename_i e;subst e;exact ZJ _ n lo len (.vec _ n lo len cap h0 h1 h2)
  .exact .vec s' n lo len cap h0 h1 h2
 |nG s' n lo a h=>
  rw[AV.cJ];split
  .rename_i e;subst e;exact ZJ _ n lo 0 (.nG _ n lo a h)
  .exact .nG s' n lo a h
 |mp s'=>
  rw[AV.cJ];split
  .exact .any _
  .exact .mp s'
 |nQ s'=>
  rw[AV.cJ];split
  .exact .any _
  .exact .nQ s'
 |fn f vf vc fs cs h0 h1 h2 h3 CN QA=>
  rw[AV.cJ];refine Zu6 (by rw[Hw];exact h0) (by rw[Hw];exact h1) (fun j d c k1 k2=>?_) (fun j d c k1 k2=>?_)
  .rw[Hv]at k2;obtain⟨a,k3,rfl⟩:=eB.1 k2;exact CN j d a k1 k3
  .rw[Hv]at k2;obtain⟨a,k3,rfl⟩:=eB.1 k2;exact QA j d a k1 k3
 |agg vs cs h0 h1 h2 ih=>
  rw[AV.cJ];refine Ic (by rw[Hw];exact h0) h1 (fun j d c k1 k2=>?_);rw[Hv]at k2;obtain⟨a,k3,rfl⟩:=eB.1 k2;exact ih j d a k1 k3
 |bN vs cs h0 h2 ih=>
  rw[AV.cJ];refine Zsf (by rw[Hw];exact h0) (fun j d c k1 k2=>?_);rw[Hv]at k2;obtain⟨a,k3,rfl⟩:=eB.1 k2;exact ih j d a k1 k3
theorem bQ.cJ {s:Site}{e nb:Nat}{xs:List PV}(hb:kT ρ m w s (.arr e nb xs))(hm:Le m m')(nK:(ρ s).real=true->∀o v,w.cell? ⟨(ρ s).b,o,none⟩=some v->m' (ρ s).b o=some v){v:Value}{a:AV}(h:bQ ρ m v a):bQ ρ m' v (a.cJ s nb xs):=by
 have h0:¬nb=0:=by have:=hb.1;omega
 refine bQ.Fu hm (fun v off _=>?_) (fun v n lo len hv=>?_) h
 .rw[if_neg h0];exact .any v
 .split
  .rename_i hc;obtain⟨_,rfl,hl⟩:=hc;exact .pv _ _ (Zo3 hb hm nK hl hv)
  .exact .any v
theorem dH.Ln {v:Value}{x:PV}(h:dH m v x)(hv:v.oneCell'=true):x.cells=[x]:=by
 cases h<;>first|rfl|(simp[Value.oneCell']at hv)
theorem Zgm {s:Site}{gG:List AV}{xs:List PV}(hb:kT ρ m w s (.cells gG))(hx:eD gG=some xs)(hm:Le m m')(nK:∀o v,w.cell? ⟨(ρ s).b,o,none⟩=some v->m' (ρ s).b o=some v):
  ∃ds:List Value,ds.length=xs.length/\At m' (ρ s).b 0 ds/\∀(j:Nat) (d:Value) (c:PV),ds[j]?=some d->xs[j]?=some c->d.oneCell'=true/\dH m' d c:=by
 obtain⟨_,cs,T,k1,k2,k3⟩:=hb;have hu:=UH hx;subst hu;refine⟨cs.toList,by rw[vC,k2,fZ],At.j8 (fun j u hj=>nK _ _ ?_),fun j d c h1 h2=>?_⟩
 .rw[O7]at hj;simp[World.cell?,k1,hj]
 .rw[O7]at h1;have h3:(xs.map AV.pv)[j]?=some (.pv c):=by rw[bY,h2];rfl
  obtain⟨q1,q2⟩:=k3 j d _ h1 h3;refine⟨q1,?_⟩;cases q2 with
  |pv _ _ h=>exact h.mono hm
theorem bQ.Zyg {s:Site}{gG:List AV}{xs:List PV}(hb:kT ρ m w s (.cells gG))(hx:eD gG=some xs)(hm:Le m m')(nK:∀o v,w.cell? ⟨(ρ s).b,o,none⟩=some v->m' (ρ s).b o=some v){v:Value}{a:AV}(h:bQ ρ m v a):bQ ρ m' v (a.cJ s 0 xs):=by
 obtain⟨ds,hl,s9,lK⟩:=Zgm hb hx hm nK;refine bQ.Fu hm (fun v off hv=>?_) (fun v n lo len hv=>?_) h
 .rw[if_pos rfl];cases hv;refine .pv _ _ (.ref (ρ s).b off (xs.drop off) (ds.drop off) (At.j8 (fun j u hj=>?_)) (by simp[hl]) (fun d hd=>?_) (fun j d c h1 h2=>?_))
  .rw[mW]at hj
   have:=s9.get _ _ hj
   rwa [sF]at this
  .obtain⟨j,hj⟩:=iO.1 hd;rw[mW]at hj;have aI:off+j<xs.length:=by rw[<-hl];exact(cD.1 hj).1
   exact(lK _ d _ hj (bC aI)).1
  .rw[mW]at h1 h2;exact(lK _ d c h1 h2).2
 .rw[if_neg (fun e=>by omega)];exact .any v
theorem kT.live (q:Site->Bool){s:Site}{b:aJ}(h:kT ρ m w s b):kT ρ m w s (b.live q):=by
 have hl:∀(v:Value) (a:AV),bQ ρ m v a->bQ ρ m v (a.live q):=fun v a h=>by
  unfold AV.live;split
  .exact h
  .exact .any v
 exact h.gen (AV.live q) (by cases b<;>rfl) (Le.refl m) rfl (fun v a hv _=>hl v a hv) (fun _ _=>rfl)
theorem Zqm {w:World}{l:Loc}{b:aJ}{q:Site->Bool}:ins w l (b.live q)=ins w l b:=by
 cases b with
 |_=>rfl
theorem ZtA {w:World}{l:Loc}{b:aJ}{s:Site}{n:Nat}{xs:List PV}:ins w l (b.cJ s n xs)=ins w l b:=by
 cases b with
 |_=>rfl
theorem Zlk {s:Site}{nb:Nat}{xs:List PV}:∀l:List AV,AV.aY s nb xs l=l.map (AV.cJ s nb xs)
 |[]=>rfl
 |a::r=>by simp only[AV.aY,iS,Zlk r]
theorem Sat.tidy (h:Sat N w0 m0 pl σ ρ m act w):Sat N w0 m0 pl σ.tidy ρ m act w:=by
 have hb:∀s b,σ.tidy.b s=some b->∃b',σ.b s=some b'/\b=b'.live fun s=>(σ.b s).isSome:=fun s b k=>by
  have k':(σ.bx.map fun p=>(p.1,p.2.live fun s=>(σ.b s).isSome)).lookup s=some b:=k;rw[UG (aJ.live fun s=>(σ.b s).isSome) s]at k';obtain⟨b',k1,rfl⟩:=eB.1 k';exact⟨b',k1,rfl⟩
 have hq:∀s b i,fL ρ w s (b.live fun s=>(σ.b s).isSome) i↔fL ρ w s b i:=fun s b i=>by unfold fL;rw[Zqm]
 refine⟨h.sM,h.sz,h.tm,fun s b k=>?_,fun s s' b b' i k k' r r'=>?_,h.mem,fun s b i k r=>?_,fun s b i k r=>?_,h.keep,h.base,h.qJ,h.par⟩
 .obtain⟨b',k1,rfl⟩:=hb s b k;exact(h.bx s b' k1).live _
 .obtain⟨c,k1,rfl⟩:=hb s b k;obtain⟨c',C9,rfl⟩:=hb s' b' k';exact h.eA s s' c c' i k1 C9 ((hq _ _ _).1 r) ((hq _ _ _).1 r')
 .obtain⟨c,k1,rfl⟩:=hb s b k;exact h.eQ s c i k1 ((hq _ _ _).1 r)
 .obtain⟨c,k1,rfl⟩:=hb s b k;exact h.fM s c i k1 ((hq _ _ _).1 r)
theorem Sat.Fu (h:Sat N w0 m0 pl σ ρ m act w)(s:Site){b0:aJ}(hs:σ.b s=some b0)(n:Nat)(xs:List PV)(H:∀v a,bQ ρ m v a->bQ ρ (m.with w (ρ s)) v (a.cJ s n xs)):
  Sat N w0 m0 pl ⟨σ.tm.map fun p=>(p.1,p.2.cJ s n xs),(σ.bx.filter fun p=>!decide (p.1=s)).map fun p=>(p.1,p.2.cJ s n xs)⟩ ρ (m.with w (ρ s)) act w:=by
 have hm:=Mem.Yr h.mem (ρ s);have bq:∀s' b,AS.b ⟨σ.tm.map fun p=>(p.1,p.2.cJ s n xs),(σ.bx.filter fun p=>!decide (p.1=s)).map fun p=>(p.1,p.2.cJ s n xs)⟩ s'=some b->s'≠s/\∃b',σ.b s'=some b'/\b=b'.cJ s n xs:=fun s' b k=>by
  have k':List.lookup s' ((σ.bx.filter fun p=>!decide (p.1=s)).map fun p=>(p.1,p.2.cJ s n xs))=some b:=k;rw[UG (aJ.cJ s n xs) s',show List.lookup s' (σ.bx.filter fun p=>!decide (p.1=s))=_ from UP (fun x=>!decide (x=s)) s' σ.bx]at k';obtain⟨b',k1,rfl⟩:=eB.1 k';split at k1
  .rename_i dA;exact⟨by simpa using dA,b',k1,rfl⟩
  .cases k1
 have hq:∀s' b i,fL ρ w s' (b.cJ s n xs) i↔fL ρ w s' b i:=fun s b i=>by unfold fL;rw[ZtA]
 refine⟨h.sM,h.sz,fun t a k=>?_,fun s' b k=>?_,fun s1 s2 b1 b2 i k1 k2 r1 r2=>?_,Mem.ZxF h.mem _,fun s' b i k r o=>?_,fun s' b i k r=>?_,h.keep,h.base.trans hm,fun b o v hv=>?_,h.par⟩
 .have k':List.lookup t (σ.tm.map fun p=>(p.1,p.2.cJ s n xs))=some a:=k;rw[UG (AV.cJ s n xs) t]at k';obtain⟨a',k1,rfl⟩:=eB.1 k';obtain⟨v,k2,k3⟩:=h.tm t a' k1;exact⟨v,k2,H _ _ k3⟩
 .obtain⟨dA,b',k1,rfl⟩:=bq s' b k;exact(h.bx s' b' k1).gen (AV.cJ s n xs) (by cases b'<;>first|rfl|(show aJ.cells _=_;rw[Zlk])) hm rfl (fun v a hv _=>H v a hv) (fun _ _=>rfl)
 .obtain⟨_,b1',g1,rfl⟩:=bq s1 b1 k1;obtain⟨_,b2',g2,rfl⟩:=bq s2 b2 k2;exact h.eA s1 s2 b1' b2' i g1 g2 ((hq _ _ _).1 r1) ((hq _ _ _).1 r2)
 .obtain⟨dA,b',k1,rfl⟩:=bq s' b k;have r':=(hq _ _ _).1 r;unfold Mem.with
  rw[if_neg (fun e=>dA (h.eA s' s b' _ i k1 hs r' (.inl ⟨e.1,e.2.symm⟩)))];exact h.eQ s' b' i k1 r' o
 .obtain⟨_,b',g1,rfl⟩:=bq s' b k;exact h.fM s' b' i g1 ((hq _ _ _).1 r)
 .unfold Mem.with at hv;split at hv
  .rename_i e;rw[e.2];exact .inr (h.own s _ hs e.1)
  .exact h.qJ b o v hv
theorem Sat.Yl (h:Sat N w0 m0 pl σ ρ m act w){s:Site}{gG:List AV}{xs:List PV}(hs:σ.b s=some (.cells gG))(hx:eD gG=some xs):
  σ.cJ s=⟨σ.tm.map fun p=>(p.1,p.2.cJ s 0 xs),(σ.bx.filter fun p=>!decide (p.1=s)).map fun p=>(p.1,p.2.cJ s 0 xs)⟩/\Sat N w0 m0 pl (σ.cJ s) ρ (m.with w (ρ s)) act w/\Le m (m.with w (ρ s))/\∀o v,w.cell? ⟨(ρ s).b,o,none⟩=some v->m.with w (ρ s) (ρ s).b o=some v:=by
 have hb:=h.bx s _ hs;have hm:=Mem.Yr h.mem (ρ s);have nK:∀o v,w.cell? ⟨(ρ s).b,o,none⟩=some v->m.with w (ρ s) (ρ s).b o=some v:=fun o v hv=>by
  unfold Mem.with;rw[if_pos ⟨hb.1,rfl⟩];exact hv
 have e:σ.cJ s=⟨σ.tm.map fun p=>(p.1,p.2.cJ s 0 xs),(σ.bx.filter fun p=>!decide (p.1=s)).map fun p=>(p.1,p.2.cJ s 0 xs)⟩:=by
  unfold AS.cJ;rw[hs];dsimp only;rw[hx]
 refine⟨e,?_,hm,nK⟩;rw[e];exact h.Fu s hs 0 xs (fun v a hv=>hv.Zyg hb hx hm nK)
theorem Sat.cJ (h:Sat N w0 m0 pl σ ρ m act w)(s:Site):∃m',Le m m'/\Sat N w0 m0 pl (σ.cJ s) ρ m' act w:=by
 cases hs:σ.b s with
 |none=>
  have e:σ.cJ s=σ.tidy:=by unfold AS.cJ;rw[hs]
  rw[e];exact⟨m,Le.refl m,h.tidy⟩
 |some bb=>
  cases bb with
  |arr e n xs=>
   have hb:=h.bx s _ hs;have hm:=Mem.Yr h.mem (ρ s);have nK:(ρ s).real=true->∀o v,w.cell? ⟨(ρ s).b,o,none⟩=some v->m.with w (ρ s) (ρ s).b o=some v:=fun hr o v hv=>by
    unfold Mem.with;rw[if_pos ⟨hr,rfl⟩];exact hv
   have e:σ.cJ s=⟨σ.tm.map fun p=>(p.1,p.2.cJ s n xs),(σ.bx.filter fun p=>!decide (p.1=s)).map fun p=>(p.1,p.2.cJ s n xs)⟩:=by unfold AS.cJ;rw[hs]
   rw[e];exact⟨m.with w (ρ s),hm,h.Fu s hs n xs (fun v a hv=>hv.cJ hb hm nK)⟩
  |cells gG=>
   cases hx:eD gG with
   |some xs=>
    obtain⟨_,h2,h3,_⟩:=h.Yl hs hx;exact⟨_,h3,h2⟩
   |none=>
    have e:σ.cJ s=σ:=by unfold AS.cJ;rw[hs];dsimp only;rw[hx]
    rw[e];exact⟨m,Le.refl m,h⟩
  |map es=>
   have e:σ.cJ s=σ:=by unfold AS.cJ;rw[hs]
   rw[e];exact⟨m,Le.refl m,h⟩
  |loop C ps nt tm st=>
   have e:σ.cJ s=σ:=by unfold AS.cJ;rw[hs]
   rw[e];exact⟨m,Le.refl m,h⟩
  |ext E=>
   have e:σ.cJ s=σ:=by unfold AS.cJ;rw[hs]
   rw[e];exact⟨m,Le.refl m,h⟩
theorem Sat.KB (a:AV)(h:Sat N w0 m0 pl σ ρ m act w):∃m',Le m m'/\Sat N w0 m0 pl (σ.KB a) ρ m' act w:=by
 unfold AS.KB;split
 .exact h.cJ _
 .exact⟨m,Le.refl m,h⟩
theorem Sat.j7:∀(l:List AV) {σ:AS} {m:Mem},Sat N w0 m0 pl σ ρ m act w->∃m',Le m m'/\Sat N w0 m0 pl (σ.j7 l) ρ m' act w
 |[],σ,m,h=>⟨m,Le.refl m,h⟩
 |a::r,σ,m,h=>by
  obtain⟨m1,l1,h1⟩:=h.KB a;obtain⟨m2,l2,h2⟩:=Sat.j7 r h1;exact⟨m2,l1.trans l2,h2⟩
theorem Sat.xD (a:AV)(h:Sat N w0 m0 pl σ ρ m act w):∃m',Le m m'/\Sat N w0 m0 pl (σ.xD a) ρ m' act w:=by
 unfold AS.xD;split
 .exact h.j7 _
 .exact h.KB _
theorem Sat.EU:∀(ps:List bB) {σ:AS} {m:Mem},Sat N w0 m0 pl σ ρ m act w->∃m',Le m m'/\Sat N w0 m0 pl (σ.EU ps) ρ m' act w
 |[],σ,m,h=>⟨m,Le.refl m,h⟩
 |x::r,σ,m,h=>by
  have step:∃m',Le m m'/\Sat N w0 m0 pl (σ.xD (σ.o x)) ρ m' act w:=by
   unfold AS.xD;split
   .exact h.j7 _
   .exact h.KB _
  obtain⟨m1,l1,h1⟩:=step;obtain⟨m2,l2,h2⟩:=Sat.EU r h1;exact⟨m2,l1.trans l2,h2⟩
end
def ZZ (v:Value):Option PV:=match v with
 |.agg cs=>(cs.toList.mapM nW).map .agg
 |v=>nW v
theorem Zy {m:Mem}:∀{l:List Value} {xs:List PV},l.mapM nW=some xs->l.length=xs.length/\∀(j:Nat) (d:Value) (c:PV),l[j]?=some d->xs[j]?=some c->dH m d c
 |[],xs,h=>by simp at h;subst h;exact⟨rfl,fun j d c k=>by simp at k⟩
 |v::r,xs,h=>by
  simp only[List.mapM_cons,Option.bind_eq_bind,Option.pure_def]at h;cases hv:nW v with
  |none=>simp[hv]at h
  |some x=>
   cases hr:r.mapM nW with
   |none=>simp[hv,hr]at h
   |some l=>
    simp[hv,hr]at h;subst h;obtain⟨h1,h2⟩:=Zy (m:=m) hr;refine⟨by simp[h1],fun j d c k1 k2=>?_⟩;cases j with
    |zero=>simp at k1 k2;subst k1 k2;exact Mo hv m
    |succ j=>exact h2 j d c (by simpa using k1) (by simpa using k2)
theorem ZkJ {v:Value}{x:PV}(h:nW v=some x):v.oneCell'=true/\x.cells=[x]:=by
 unfold nW at h;split at h<;>first|(cases h;exact⟨rfl,rfl⟩)|(cases h)
theorem UM {v:Value}{x:PV}(h:ZZ v=some x)(m:Mem):v.cells.size=x.cells.length/\(∀d∈v.cells,d.oneCell'=true)/\∀(j:Nat) (d:Value) (c:PV),v.cells[j]?=some d->x.cells[j]?=some c->dH m d c:=by
 unfold ZZ at h;split at h
 .rename_i cs;obtain⟨xs,k1,rfl⟩:=eB.1 h;obtain⟨k2,k3⟩:=Zy (m:=m) k1;refine⟨by simpa[Value.cells,PV.cells]using k2,fun d hd=>?_,fun j d c h1 h2=>k3 j d c (by simpa[Value.cells]using h1) h2⟩;have JD:d∈cs.toList:=by simpa[Value.cells]using hd
  obtain⟨j,hj⟩:=iO.1 JD;have eV:∀{l:List Value} {xs:List PV},l.mapM nW=some xs->∀d∈l,d.oneCell'=true:=by
   intro l;induction l with
   |nil=>intro xs _ d hd;cases hd
   |cons v r ih=>
    intro xs h d hd;simp only[List.mapM_cons,Option.bind_eq_bind,Option.pure_def]at h;cases hv:nW v with
    |none=>simp[hv]at h
    |some x=>
     cases hr:r.mapM nW with
     |none=>simp[hv,hr]at h
     |some l=>
      rcases jT.1 hd with rfl|hd
      .exact(ZkJ hv).1
      .exact ih hr d hd
  exact eV k1 d JD
 .rename_i dA;obtain⟨k1,k2⟩:=ZkJ h;have hv:v.cells=#[v]:=by cases v<;>first|rfl|(exact(dA _ rfl).elim)
  rw[hv,k2];refine⟨rfl,fun d hd=>by simp at hd;subst hd;exact k1,fun j d c h1 h2=>?_⟩;cases j with
  |zero=>simp at h1 h2;subst h1 h2;exact Mo h m
  |succ j=>simp at h2
def sH (P:Program)(t:TypeId):Option PV:=(gX P t).bind ZZ
def pP:List Operand->Option (List bB)
 |[]=>some []
 |x::r=>match aU x,pP r with
  |some y,some l=>some (y::l)
  |_,_=>none
def Zz (P:Program)(t:TypeId):Option (List (Nat×Nat)):=match P.underlying t with
 |some (.struct fs)=>fs.toList.mapM fun f=>(eJ P f.type).map fun n=>(f.offset,n)
 |some (.array l e)=>(eJ P e).map fun n=>(List.range l).map fun i=>(i*n,n)
 |_=>none
def XO (pl:List (Nat×Nat)):List (Nat×Operand)->Option (List (Nat×Nat×bB))
 |[]=>some []
 |(i,x)::r=>match pl[i]?,aU x,XO pl r with
  |some (o,n),some y,some l=>some ((o,n,y)::l)
  |_,_,_=>none
def uA:Option Operand->Option (Option bB)
 |none=>some none
 |some x=>(aU x).map some
def vX (k:QK)(op:BinOp)(x:bB):lY:=match op with
 |.eql=>.yJ k false x
 |.neq=>.yJ k true x
 |_=>.other
def nE (P:Program):Op->lY
 |.move x=>match aU x with
  |some y=>.dU y
  |none=>.other
 |.assign x=>match aU x with
  |some y=>.dU y
  |none=>.other
 |.pick c a b=>match aU c,aU a,aU b with
  |some c,some a,some b=>.pick c a b
  |_,_,_=>.other
 |.binOp op t x y _=>match aU x,aU y,P.underlying t with
  |some x,some y,some (.int _)=>.bin false op x y
  |some x,some y,some .bool=>.bin true op x y
  |some x,some (.c (.emp (some true))),some (.slice _)=>vX .sl op x
  |some x,some (.c .eX),some (.pointer _)=>vX .pt op x
  |some x,some (.c .cV),some (.map _ _)=>vX .mp op x
  |_,_,_=>.other
 |.unOp .not _ x=>match aU x with
  |some y=>.not y
  |none=>.other
 |.unOp .neg _ x=>match aU x with
  |some y=>.neg y
  |none=>.other
 |.box t x=>match aU x,eJ P t with
  |some y,some n=>.box n y
  |_,_=>.other
 |.alloc t=>match sH P t with
  |some z=>.alloc z
  |none=>.other
 |.build t ps=>match sH P t,Zz P t with
  |some z,some pl=>match XO pl ps.toList with
   |some l=>.build z l
   |none=>.other
  |_,_=>.other
 |.buildSlice t len ps=>match eI P t,pP (ps.toList.map (·.2))with
  |some (e,n,none),some l=>if ps.toList.map (·.1)=List.range len/\0<n/\len*n<=2^24/\(gX P e).isSome=true then .aQ e n l else .other
  |_,_=>.other
 |.load t x=>match aU x,eJ P t,P.underlying t with
  |some y,some n,some _=>.load (sW P t) n y
  |_,_,_=>.other
 |.store t x y=>match aU x,aU y,eJ P t with
  |some x,some y,some n=>.store n x y
  |_,_,_=>.other
 |.fieldAddr t x f=>match aU x,HT P t f with
  |some y,some o=>.fa o y
  |_,_=>.other
 |.indexAddr t x i=>match aU x,aU i,eI P t with
  |some x,some i,some (_,n,a)=>.ia n a x i
  |_,_,_=>.other
 |.extract x i=>match aU x with
  |some y=>.ext y i
  |none=>.other
 |.makeFunc (.func f) fs cs=>match pP fs.toList,pP cs.toList with
  |some a,some b=>.yK f a b
  |_,_=>.other
 |.nilCheck x=>match aU x with
  |some y=>.vW y
  |none=>.other
 |.convert src dst x=>match aU x,P.underlying src,P.underlying dst with
  |some y,some _,some (.int k)=>.conv k y
  |_,_,_=>.other
 |.slice t x lo hi none=>match aU x,eI P t,uA lo,uA hi with
  |some x,some (_,n,none),some lo,some hi=>.J4 n none x lo hi none
  |_,_,_,_=>.other
 |.field t x f=>match aU x,P.underlying t with
  |some y,some (.struct fs)=>match fs[f]? with
   |some fl=>match eJ P fl.type,P.underlying fl.type with
    |some n,some _=>.NX (sW P fl.type) fl.offset n y
    |_,_=>.other
   |none=>.other
  |_,_=>.other
 |.makeSlice t l c=>match eI P t,aU l,aU c with
  |some (e,n,none),some l,some c=>match sH P e,P.info? e with
   |some z,some i=>if 0<n/\z.cells.length=n then .VH e n i.bytes z l c else .other
   |_,_=>.other
  |_,_,_=>.other
 |.call c=>match c.callee with
  |.builtin .len=>match c.args.toList,c.argTypes.toList with
   |[x],[t]=>match aU x,eI P t with
    |some y,some (_,_,a)=>.len a y
    |_,_=>.other
   |_,_=>.other
  |.builtin .append=>match c.args.toList,c.argTypes.toList with
   |[x,y],[t,u]=>match aU x,aU y,eI P t with
    |some x,some y,some (e,n,none)=>match sH P e,P.info? e with
     |some z,some i=>if t=u/\0<n/\z.cells.length=n then .app e n i.bytes x y else .other
     |_,_=>.other
    |_,_,_=>.other
   |_,_=>.other
  |.builtin .min=>match pP c.args.toList with
   |some [x,y]=>.jC false x y
   |_=>.other
  |.builtin .max=>match pP c.args.toList with
   |some [x,y]=>.jC true x y
   |_=>.other
  |.value f=>match aU f,pP c.args.toList with
   |some g,some l=>.call g l
   |_,_=>.other
  |_=>.other
 |_=>.other
section
variable {G:World->Prop}{P:Program}{N:Nat}{w0:World}{m0:Env w0}{pl:List Nat}{σ:AS}{ρ:Site->Loc}{m:Mem}{act:Act}{w:World}{o:Oper}{d:Nat}{K:AV->AS->Prop}
def _root_.Go.Op.vY:Op->Bool
 |.store _ _ _=>false
 |.call _=>false
 |.mapUpdate _ _ _ _=>false
 |.insert _ _ _ _=>false
 |.entryStore _ _ _ _=>false
 |_=>true
def G2 (E:Prop)(P:Program)(N:Nat)(w0:World)(m0:Env w0)(pl:List Nat)(o:Oper)(act:Act)(w:World)(K:AV->AS->Prop):Prop:=
 ∃v w' a LQ bX m',((execOp act.eval o).run P w=.ok (.value v) w'\/((execOp act.eval o).run P w=.ok .skip w'/\v=undef))/\K a LQ/\Sat N w0 m0 pl LQ bX m' act w'/\bQ bX m' v a/\(E->Ext w w')
def oG (P:Program)(N:Nat)(w0:World)(m0:Env w0)(pl:List Nat)(o:Oper)(act:Act)(w:World)(K:AV->AS->Prop):Prop:=G2 (o.op.vY=true) P N w0 m0 pl o act w K
def fW (σ:AS)(ρ:Site->Loc)(m:Mem)(w w':World):Prop:=Le m w'.mem/\∀s b,σ.b s=some b->(ρ s).real=true->w'.heap[(ρ s).b]?=w.heap[(ρ s).b]?
def dB (G:World->Prop)(P:Program)(σ:AS)(ρ:Site->Loc)(m:Mem)(o:Oper)(act:Act)(w:World)(K:AV->AS->Prop):Prop:=
 ∃v a,(∀w',G w'->(execOp act.eval o).run P w'=.ok (.value v) w')/\bQ ρ m v a/\K a σ
theorem dB.pure (_:Sat N w0 m0 pl σ ρ m act w){v:Value}{a:AV}(hr:∀w',G w'->(execOp act.eval o).run P w'=.ok (.value v) w')(hv:bQ ρ m v a)(hK:K a σ):dB G P σ ρ m o act w K:=
 ⟨v,a,hr,hv,hK⟩
theorem fW.refl (h:Sat N w0 m0 pl σ ρ m act w):fW σ ρ m w w:=⟨h.mem,fun _ _ _ _=>rfl⟩
theorem fW.at' {w':World}(h:fW σ ρ m w w'){s:Site}{b:aJ}(hs:σ.b s=some b)(hr:(ρ s).real=true){o:Nat}{ds:List Value}(k:At w.mem (ρ s).b o ds):At w'.mem (ρ s).b o ds:=
 At.j8 (fun j u hj=>(World.cell?_of_block (a:=⟨(ρ s).b,o+j,none⟩) (h.2 s b hs hr)).trans (k.get j u hj))
theorem dB.res (h:dB G P σ ρ m o act w K)(hG:G w)(hS:Sat N w0 m0 pl σ ρ m act w):oG P N w0 m0 pl o act w K:=
 let ⟨v,a,h1,h2,h3⟩:=h;⟨v,w,a,σ,ρ,m,.inl (h1 w hG),h3,hS,h2,fun _=>Ext.tS _⟩
theorem LD:∀{l:List Operand} {ys:List bB},pP l=some ys->l.length=ys.length/\∀(j:Nat) (x:Operand),l[j]?=some x->∃y:bB,ys[j]?=some y/\aU x=some y
 |[],ys,h=>by simp[pP]at h;subst h;exact⟨rfl,fun j x k=>by simp at k⟩
 |a::r,ys,h=>by
  unfold pP at h;split at h
  .rename_i y l h1 h2;cases h;obtain⟨k1,k2⟩:=LD h2;refine⟨by simp[k1],fun j x k=>?_⟩;cases j with
   |zero=>simp at k;subst k;exact⟨y,rfl,h1⟩
   |succ j=>simpa using k2 j x (by simpa using k)
  .cases h
theorem bQ.V7 {v:Value}{k:IntKind}{n:Int}(h:bQ ρ m v (.pv (.int k n))):v=.int k n:=by
 cases h with
 |pv _ _ h=>cases h;rfl
theorem bQ.ON {v:Value}{b:Bool}(h:bQ ρ m v (.pv (.bool b))):v=.bool b:=by
 cases h with
 |pv _ _ h=>cases h;rfl
theorem bQ.nN {v:Value}{x:PV}(h:bQ ρ m v (.pv x)):dH m v x:=by cases h with|pv _ _ h=>exact h
theorem bQ.EW {v:Value}{s:Site}{off:Nat}(h:bQ ρ m v (.ptr s off)):v=.pointer (some ⟨(ρ s).b,off,none⟩):=by cases h;rfl
theorem bQ.Fz {v:Value}{s:Site}{n i off:Nat}(h:bQ ρ m v (.lG s n i off)):v=.pointer (some ⟨(ρ s).b,(ρ s).o+i*n+off,none⟩):=by cases h;rfl
theorem bQ.Fv {v:Value}{cs:List PV}(h:bQ ρ m v (.pv (.ref cs))):∃b o ds,v=.pointer (some ⟨b,o,none⟩)/\At m b o ds/\ds.length=cs.length/\(∀d∈ds,d.oneCell'=true)/\∀(j:Nat) (d:Value) (c:PV),ds[j]?=some d->cs[j]?=some c->dH m d c:=by
 cases h with
 |pv _ _ h=>cases h with
  |ref b o _ ds h0 h1 h2 h3=>exact⟨b,o,ds,rfl,h0,h1,h2,h3⟩
theorem bQ.ZxG {v:Value}{vs:List AV}(h:bQ ρ m v (.bN vs)):∃us,v=.tuple us/\us.size=vs.length/\∀(j:Nat) (d:Value) (c:AV),us[j]?=some d->vs[j]?=some c->bQ ρ m d c:=by
 cases h with
 |bN us _ h0 h2=>exact⟨us,rfl,h0,h2⟩
theorem bQ.Zxa {v:Value}{vs:List PV}(h:bQ ρ m v (.pv (.bN vs))):∃us,v=.tuple us/\us.size=vs.length/\∀(j:Nat) (d:Value) (c:PV),us[j]?=some d->vs[j]?=some c->dH m d c:=by
 cases h with
 |pv _ _ h=>cases h with
  |bN us _ h0 h2=>exact⟨us,rfl,h0,h2⟩
theorem Mv {x:Operand}{y:bB}(he:aU x=some y)(ho:o.op=.move x\/o.op=.assign x)(h:cC (.dU y) d K σ)(hS:Sat N w0 m0 pl σ ρ m act w):dB G P σ ρ m o act w K:=by
 refine .pure hS (v:=act.eval x) ?_ (hS.aU he) h;rcases ho with ho|ho<;>· (intro w' bS;unfold execOp;simp only[ho];rfl)
theorem Zks {c a b:Operand}{c' a' b':bB}(hc:aU c=some c')(ha:aU a=some a')(hb:aU b=some b')(ho:o.op=.pick c a b)(h:cC (.pick c' a' b') d K σ)(hS:Sat N w0 m0 pl σ ρ m act w):dB G P σ ρ m o act w K:=by
 simp only[cC]at h;split at h
 .rename_i t ht;have h1:=(hS.aU hc);rw[ht]at h1;have e:=h1.ON;refine .pure hS (v:=if t=true then act.eval a else act.eval b) ?_ ?_ h
  .intro w' bS;unfold execOp;simp only[ho,e];simp[asBool]
  .cases t
   .exact hS.aU hb
   .exact hS.aU ha
 .exact h.elim
theorem Mu {bt:Bool}{op:BinOp}{t u:TypeId}{x y:Operand}{x' y':bB}(hx:aU x=some x')(hy:aU y=some y')(ho:o.op=.binOp op t x y u)(h:cC (.bin bt op x' y') d K σ)(hS:Sat N w0 m0 pl σ ρ m act w)
  (Dn:bt=true->P.underlying t=some .bool):dB G P σ ρ m o act w K:=by
 simp only[cC]at h;have h1:=hS.aU hx;have h2:=hS.aU hy;split at h
 .rename_i k a k' b e1 e2;rw[e1]at h1;rw[e2]at h2;split at h
  .rename_i r hr;obtain⟨v,k1,k2⟩:=Zq5 (P:=P) hr t x y;refine .pure hS (v:=v) ?_ (.pv _ _ (k2 m)) h;intro w' bS;unfold execOp;simp only[ho,h1.V7,h2.V7];simp only[Sem.run_bind]at k1 ⊢;rw[k1];rfl
  .exact h.elim
 .rename_i a b e1 e2;rw[e1]at h1;rw[e2]at h2;obtain⟨hbt,h⟩:=h;split at h
  .rename_i r hr;obtain⟨v,k1,k2⟩:=Zq6 (P:=P) hr t x y (Dn hbt);refine .pure hS (v:=v) ?_ (.pv _ _ (k2 m)) h;intro w' bS;unfold execOp;simp only[ho,h1.ON,h2.ON];simp only[Sem.run_bind]at k1 ⊢;rw[k1];rfl
  .exact h.elim
 .exact h.elim
def MI (P:Program)(t:TypeId):QK->Prop
 |.sl=>∃e,P.underlying t=some (.slice e)
 |.pt=>∃e,P.underlying t=some (.pointer e)
 |.mp=>∃k e,P.underlying t=some (.map k e)
def GN:QK->Value
 |.sl=>.slice none 0 0
 |.pt=>.pointer none
 |.mp=>.map none
theorem Ztd {P:Program}{t:TypeId}{k:QK}(ht:MI P t k){v:Value}{a:AV}(hv:bQ ρ m v a)(ha:(∃b,dI k a=some b)\/y8 k a):∃b,(∀w:World,(Op.equal t v (GN k)).run P w=.ok b w)/\(∀b',dI k a=some b'->b'=b):=by
 cases k with
 |sl=>
  obtain⟨e,he⟩:=ht;have hs:∃A l c,v=.slice A l c:=by
   cases hv with
   |pv v x h=>cases h<;>first|exact⟨_,_,_,rfl⟩|(simp[dI,y8]at ha)
   |vec=>exact⟨_,_,_,rfl⟩
   |nG=>exact⟨_,_,_,rfl⟩
   |_=>simp[dI,y8]at ha
  obtain⟨A,l,c,rfl⟩:=hs;refine⟨A.isNone,fun w=>run_equal_slice_nil w t e A l c he,fun b' hb=>?_⟩;clear ha;cases hv with
  |pv _ x h=>cases h with
   |emp _ nl h0 h1 h2=>
    simp only[dI]at hb;subst hb;cases b' with
    |true=>rw[h0 rfl];rfl
    |false=>cases A with
     |none=>exact absurd rfl (h1 rfl)
     |some A=>rfl
   |aF _ cap nn n xs ds h0 h1 h2 h3 h4 h5 h6 h7=>
    simp only[dI]at hb;split at hb
    .rename_i hn;cases hb;cases A with
     |none=>exact absurd rfl (h4 hn)
     |some A=>rfl
    .split at hb
     .cases hb
     .cases hb;obtain⟨b,o,e1,_⟩:=h5 0 _ rfl;subst e1;rfl
   |P6=>simp[dI]at hb
  |vec s n lo len cap h0 h1 h2=>
   simp only[dI]at hb;split at hb
   .cases hb
   .cases hb;rfl
  |nG s n lo a h=>
   simp[dI]at hb
  |_=>simp[dI]at hb
 |pt=>
  obtain⟨e,he⟩:=ht;have hp:P.underlying t=some (.pointer (P.pointee t)):=by simp[Program.pointee,he]
  have hs:∃A,v=.pointer A:=by
   cases hv with
   |pv v x h=>cases h<;>first|exact⟨_,rfl⟩|(simp[dI,y8]at ha)
   |ptr=>exact⟨_,rfl⟩
   |lG=>exact⟨_,rfl⟩
   |_=>simp[dI,y8]at ha
  obtain⟨A,rfl⟩:=hs;refine⟨A.isNone,fun w=>run_equal_pointer_nil w t A hp,fun b' hb=>?_⟩;clear ha;cases hv with
  |pv _ x h=>cases h<;>simp[dI]at hb<;>subst hb<;>rfl
  |ptr=>simp[dI]at hb;subst hb;rfl
  |lG=>simp[dI]at hb;subst hb;rfl
  |_=>simp[dI]at hb
 |mp=>
  obtain⟨k,e,he⟩:=ht;have hs:∃A,v=.map A:=by
   cases hv with
   |pv v x h=>cases h<;>first|exact⟨_,rfl⟩|(simp[dI,y8]at ha)
   |mp=>exact⟨_,rfl⟩
   |_=>simp[dI,y8]at ha
  obtain⟨A,rfl⟩:=hs;refine⟨A.isNone,fun w=>run_equal_map_nil w t k e A he,fun b' hb=>?_⟩;clear ha;cases hv with
  |pv _ x h=>cases h<;>simp[dI]at hb<;>subst hb<;>rfl
  |mp=>simp[dI]at hb;subst hb;rfl
  |_=>simp[dI]at hb
theorem YE {k:QK}{op:BinOp}{t u:TypeId}{x y:Operand}{x':bB}(hx:aU x=some x')(hy:act.eval y=GN k)(ht:MI P t k)(ho:o.op=.binOp op t x y u)(h:cC (vX k op x') d K σ)(hS:Sat N w0 m0 pl σ ρ m act w):dB G P σ ρ m o act w K:=by
 have h1:=hS.aU hx;have hg:∀w,(eqGuard op t x y (act.eval x) (GN k)).run P w=.ok () w:=by
  intro w;unfold eqGuard;cases k<;>cases op<;>cases act.eval x<;>rfl
 have main:∀neg,cC (.yJ k neg x') d K σ->(op=.eql/\neg=false\/op=.neq/\neg=true)->dB G P σ ρ m o act w K:=fun neg h hop=>by
  simp only[cC]at h;obtain⟨b,tE,nS⟩:=Ztd (P:=P) (k:=k) ht h1 (by
   split at h
   .rename_i b hb;exact .inl ⟨b,hb⟩
   .exact .inr h.1)
  have hK:K (.pv (.bool (b != neg))) σ:=by
   split at h
   .rename_i b' hb;rw[<-nS b' hb];exact h
   .cases b<;>cases neg<;>first|exact h.2.1|exact h.2.2
  refine .pure hS (v:=.bool (b != neg)) ?_ (.pv _ _ (.bool _)) hK;intro w' bS;unfold execOp;simp only[ho,hy];rcases hop with⟨rfl,rfl⟩|⟨rfl,rfl⟩
  .cases k<;>simp[binOp,GN]<;>simp_all [GN]
  .cases k<;>simp[hg,binOp,tE,GN]<;>simp_all [GN,binOp]
 unfold vX at h;split at h
 .exact main false h (.inl ⟨rfl,rfl⟩)
 .exact main true h (.inr ⟨rfl,rfl⟩)
 .exact h.elim
theorem ZmR {t:TypeId}{x:Operand}{x':bB}(hx:aU x=some x')(ho:o.op=.unOp .not t x)(h:cC (.not x') d K σ)(hS:Sat N w0 m0 pl σ ρ m act w):dB G P σ ρ m o act w K:=by
 simp only[cC]at h;split at h
 .rename_i a e;have h1:=hS.aU hx;rw[e]at h1;refine .pure hS (v:=.bool (!a)) ?_ (.pv _ _ (.bool _)) h;intro w' bS;unfold execOp;simp only[ho,h1.ON];rfl
 .exact h.elim
theorem ZmS {t:TypeId}{x:Operand}{x':bB}(hx:aU x=some x')(ho:o.op=.unOp .neg t x)(h:cC (.neg x') d K σ)(hS:Sat N w0 m0 pl σ ρ m act w):dB G P σ ρ m o act w K:=by
 simp only[cC]at h;split at h
 .rename_i k a e;have h1:=hS.aU hx;rw[e]at h1;refine .pure hS (v:=.int k (k.wrap (0-a))) ?_ (.pv _ _ (.int _ _)) h;intro w' bS;unfold execOp;simp only[ho,h1.V7];rfl
 .exact h.elim
theorem Zkv {src dst:TypeId}{e:TypeDesc}{k:IntKind}{x:Operand}{x':bB}(hx:aU x=some x')(hs:P.underlying src=some e)(hd:P.underlying dst=some (.int k))(ho:o.op=.convert src dst x)(h:cC (.conv k x') d K σ)(hS:Sat N w0 m0 pl σ ρ m act w):dB G P σ ρ m o act w K:=by
 simp only[cC]at h;split at h
 .rename_i k' a e';have h1:=hS.aU hx;rw[e']at h1;refine .pure hS (v:=.int k (k.wrap a)) ?_ (.pv _ _ (.int _ _)) h;intro w' bS;unfold execOp;simp only[ho,h1.V7];simp[convert,run_underlying hs,run_underlying hd,Conv.intToInt]
 .exact h.elim
theorem ZmW {x:Operand}{i:Nat}{x':bB}(hx:aU x=some x')(ho:o.op=.extract x i)(h:cC (.ext x' i) d K σ)(hS:Sat N w0 m0 pl σ ρ m act w):dB G P σ ρ m o act w K:=by
 simp only[cC]at h;have h1:=hS.aU hx;have key:∀(vs:Array Value) (a:AV),act.eval x=.tuple vs->(∃v,vs[i]?=some v/\bQ ρ m v a)->K a σ->dB G P σ ρ m o act w K:=by
  intro vs a e ⟨v,k1,k2⟩ hK;refine .pure hS (v:=v) ?_ k2 hK;intro w' bS;unfold execOp;simp only[ho,e];simp[Instr.extract,k1]
 split at h
 .rename_i vs e;rw[e]at h1;obtain⟨us,hX,h0,h2⟩:=h1.Zxa;split at h
  .rename_i v hv;have aI:i<us.size:=by rw[h0];exact(cD.1 hv).1
   exact key us (.pv v) hX ⟨us[i],vA aI,.pv _ _ (h2 i _ _ (vA aI) hv)⟩ h
  .exact h.elim
 .rename_i vs e;rw[e]at h1;obtain⟨us,hX,h0,h2⟩:=h1.ZxG;split at h
  .rename_i v hv;have aI:i<us.size:=by rw[h0];exact(cD.1 hv).1
   exact key us v hX ⟨us[i],vA aI,h2 i _ _ (vA aI) hv⟩ h
  .exact h.elim
 .exact h.elim
theorem Zkt {x:Operand}{x':bB}(hx:aU x=some x')(ho:o.op=.nilCheck x)(h:cC (.vW x') d K σ)(hS:Sat N w0 m0 pl σ ρ m act w):dB G P σ ρ m o act w K:=by
 simp only[cC]at h;have h1:=hS.aU hx;have key:∀(A:Addr) (a:AV),act.eval x=.pointer (some A)->bQ ρ m (act.eval x) a->K a σ->dB G P σ ρ m o act w K:=by
  intro A a e k2 hK;refine .pure hS (v:=act.eval x) ?_ k2 hK;intro w' bS;unfold execOp;simp only[ho,e];rfl
 split at h
 .rename_i cs e;rw[e]at h1;obtain⟨b,o,ds,hX,_⟩:=h1.Fv;exact key _ _ hX h1 h
 .rename_i s off e;rw[e]at h1;exact key _ _ h1.EW h1 h
 .rename_i s n i off e;rw[e]at h1;exact key _ _ h1.Fz h1 h
 .exact h.elim
theorem Pv {mx:Bool}{c:Call}{x y:Operand}{x' y':bB}(hx:aU x=some x')(hy:aU y=some y')(hc:c.callee=.builtin (if mx=true then .max else .min))(ha:c.args.toList=[x,y])(ho:o.op=.call c)(h:cC (.jC mx x' y') d K σ)(hS:Sat N w0 m0 pl σ ρ m act w):dB G P σ ρ m o act w K:=by
 simp only[cC]at h;have h1:=hS.aU hx;have h2:=hS.aU hy;have fY:c.args=#[x,y]:=xS.1 (by simpa using ha);split at h
 .rename_i k a k' b e1 e2;rw[e1]at h1;rw[e2]at h2;refine .pure hS (v:=.int k (if mx=true then(if b>a then b else a)else(if b<a then b else a))) ?_ (.pv _ _ (.int _ _)) h;intro w' bS;unfold execOp;simp only[ho];cases mx
  .simp[resolve,hc,fY,invoke,builtin,Builtin.min_,h1.V7,h2.V7,Builtin.min2]
  .simp[resolve,hc,fY,invoke,builtin,Builtin.max_,h1.V7,h2.V7,Builtin.max2]
 .exact h.elim
end
section
variable {G:World->Prop}{P:Program}{N:Nat}{w0:World}{m0:Env w0}{pl:List Nat}{σ:AS}{ρ:Site->Loc}{m:Mem}{act:Act}{w:World}{o:Oper}{d:Nat}{K:AV->AS->Prop}
theorem PA {v:Value}{a:AV}(h:bQ ρ m v a)(hw:a.wide=true\/a.one=true):v.cells.size=a.cells.length/\(∀u∈v.cells,u.oneCell'=true)/\∀(j:Nat) (d:Value) (c:AV),v.cells[j]?=some d->a.cells[j]?=some c->bQ ρ m d c:=by
 have dA:a≠.any:=fun e=>by subst e;rcases hw with h|h<;>cases h
 obtain⟨h1,h2⟩:=h.ZxB dA;refine⟨h1,fun u hu=>?_,fun j d c k1 k2=>(h2 j d c k1 k2).1⟩;obtain⟨j,hj,rfl⟩:=Array.mem_iff_getElem.1 hu;have b8:j<a.cells.length:=by omega
 obtain⟨k1,k2⟩:=h2 j _ _ (vA hj) (bC b8);rcases hw with hw|hw
 .exact k2 hw
 .refine k1.one ?_
  have:a.cells=[a]:=by
   cases a with
   |agg cs=>cases hw
   |pv x=>cases x<;>first|rfl|cases hw
   |_=>rfl
  have Kt:j=0:=by rw[this]at b8;simp at b8;exact b8
  subst Kt;simp only[this,List.getElem_cons_zero];exact hw
theorem oG.Zxc (h:Sat N w0 m0 pl σ ρ m act w){cs:Array Value}{T:TypeId}{bU:List AV}(h0:cs.size=bU.length)(h1:∀u∈cs,u.oneCell'=true)(h2:∀(j:Nat) (d:Value) (c:AV),cs[j]?=some d->bU[j]?=some c->bQ ρ m d c)
  (hn:rG d σ) (has:AV.rC d bU=false) (hr:(execOp act.eval o).run P w=.ok (.value (.pointer (some ⟨w.heap.size,0,none⟩))) (w.alloc (.cells cs T))) (hK:K (.ptr (.loc d 0) 0) (σ.add (.loc d 0) (.cells bU))):oG P N w0 m0 pl o act w K:=by
 have hu:=S0 ρ (.loc d 0) ⟨w.heap.size,0,0,true⟩;refine⟨_,_,_,_,_,_,.inl hr,hK,h.new d 0 hn cs T 0 ?_,?_,fun _=>Ext.al _ _⟩
 .refine⟨by rw[hu],cs,T,by rw[hu];exact heap_alloc_new w _,h0,fun i c a k1 k2=>⟨h1 c (Array.mem_of_getElem? k1),?_⟩⟩;exact(h2 i c a k1 k2).mono (Le.refl m) (Mx ρ d 0 _) (AV.OO has k2)
 .have:=bQ.ptr (ρ:=iQ ρ (.loc d 0) ⟨w.heap.size,0,0,true⟩) (m:=m) (.loc d 0) 0
  rw[hu]at this;exact this
theorem ZjG {d:Nat}:∀{l:List AV},(∀a∈l,a.has d=false)->AV.rC d l=false
 |[],_=>rfl
 |a::r,h=>by
  rw[AV.rC,h a (by simp),ZjG (fun b hb=>h b (by simp[hb]))];rfl
theorem ZoL {d:Nat}{a:AV}(h:a.has d=false):AV.rC d a.cells=false:=by
 cases a with
 |agg cs=>exact h
 |pv x=>
  cases x with
  |agg cs=>exact ZjG (fun a ha=>by obtain⟨c,_,rfl⟩:=iN.1 ha;rfl)
  |_=>rfl
 |_=>simp only[AV.cells,AV.rC,h,Bool.or_false]
theorem Al {d:Nat}(hn:rG d σ)(x:bB):(σ.o x).has d=false:=by
 cases x with
 |t k=>
  show((σ.t k).getD .any).has d=false;cases ht:σ.t k with
  |none=>rfl
  |some a=>exact hn.t k a ht
 |c x=>rfl
theorem Zsz {t n:Nat}{x:Operand}{x':bB}(hx:aU x=some x')(hs:eJ P t=some n)(ho:o.op=.box t x)(h:cC (.box n x') d K σ)(hS:Sat N w0 m0 pl σ ρ m act w):oG P N w0 m0 pl o act w K:=by
 obtain⟨h1,h2,h3⟩:=h;have hP:=hS.bG d;obtain⟨k1,k2,k3⟩:=PA (hP.aU hx) h2;refine oG.Zxc hP k1 k2 k3 (rG.bG d σ) (ZoL (Al (rG.bG d σ) x')) ?_ h3 (T:=t);unfold execOp;simp only[ho,Sem.run_bind,ZY,Result.andThen_ok];rfl
theorem ZmY {t:Nat}{z:PV}(hz:sH P t=some z)(ho:o.op=.alloc t)(h:cC (.alloc z) d K σ)(hS:Sat N w0 m0 pl σ ρ m act w):oG P N w0 m0 pl o act w K:=by
 unfold sH at hz;cases hv:gX P t with
 |none=>simp[hv]at hz
 |some v=>
  simp only[hv,Option.bind_some]at hz;obtain⟨k1,k2,k3⟩:=UM hz m;refine oG.Zxc (hS.bG d) (cs:=v.cells) (T:=t) (bU:=z.cells.map .pv) (by simpa using k1) k2 (fun j dd c q1 q2=>?_) (rG.bG d σ) (ZjG (fun a ha=>by obtain⟨c,_,rfl⟩:=iN.1 ha;rfl)) ?_ h
  .rw[bY]at q2;obtain⟨x,q3,rfl⟩:=eB.1 q2;exact .pv _ _ (k3 j dd x q1 q3)
  .unfold execOp;simp only[ho,Sem.run_bind,Zns hv,Result.andThen_ok];rfl
theorem ZrB {t f off:Nat}{x:Operand}{x':bB}(hx:aU x=some x')(hf:HT P t f=some off)(ho:o.op=.fieldAddr t x f)(h:cC (.fa off x') d K σ)(hS:Sat N w0 m0 pl σ ρ m act w):dB G P σ ρ m o act w K:=by
 simp only[cC]at h;have h1:=hS.aU hx;have key:∀(b q:Nat) (a:AV),act.eval x=.pointer (some ⟨b,q,none⟩)->bQ ρ m (.pointer (some ⟨b,q+off,none⟩)) a->K a σ->dB G P σ ρ m o act w K:=by
  intro b q a e k2 hK;refine .pure hS ?_ k2 hK;intro w' bS;unfold execOp;simp only[ho,e,Sem.run_bind,Rh hf,Result.andThen_ok];rfl
 split at h
 .rename_i cs e;rw[e]at h1;obtain⟨b,q,ds,hX,k1,k2,k3,k4⟩:=h1.Fv;refine key b q _ hX ?_ h.2;refine .pv _ _ (.ref b (q+off) (cs.drop off) (ds.drop off) (At.j8 (fun j u hj=>?_)) (by simp[k2]) (fun u hu=>k3 u (List.mem_of_mem_drop hu)) (fun j u c q1 q2=>?_))
  .rw[mW]at hj
   have:=k1.get _ u hj
   rwa [show q+off+j=q+(off+j) by omega]
  .rw[mW]at q1 q2;exact k4 _ u c q1 q2
 .rename_i s q e;rw[e]at h1;exact key _ q _ h1.EW (.ptr s (q+off)) h
 .rename_i s n i q e;rw[e]at h1;refine key _ _ _ h1.Fz ?_ h
  have:=bQ.lG (ρ:=ρ) (m:=m) s n i (q+off)
  rwa [show(ρ s).o+i*n+(q+off)=(ρ s).o+i*n+q+off by omega]at this
 .exact h.elim
theorem Ix {s:Site}{bU:List AV}(hb:kT ρ m w s (.cells bU)){off n:Nat}(hl:off+n<=bU.length):
  ∃ds:List Value,ds.length=n/\At w.mem (ρ s).b off ds/\(∀u∈ds,u.oneCell'=true)/\∀(j:Nat) (d:Value) (c:AV),ds[j]?=some d->((bU.drop off).take n)[j]?=some c->bQ ρ m d c:=by
 obtain⟨h0,cs,T,h1,h2,h3⟩:=hb;refine⟨(cs.toList.drop off).take n,Iq (by omega),At.j8 (fun j u hj=>?_),fun u hu=>?_,fun j u c k1 k2=>?_⟩
 .rw[l8]at hj;split at hj
  .show w.cell? _=_;simp[World.cell?,h1,hj]
  .cases hj
 .obtain⟨j,hj⟩:=iO.1 hu;rw[l8]at hj;split at hj
  .rename_i sA;exact(h3 _ u _ hj (bC (by omega))).1
  .cases hj
 .rw[l8]at k1;rw[mH]at k2;split at k1
  .rename_i sA;rw[if_pos sA,mW]at k2;exact(h3 _ u c k1 k2).2
  .cases k1
theorem Zku {t n:Nat}{dd:TypeDesc}{x:Operand}{x':bB}(hx:aU x=some x')(hs:eJ P t=some n)(hu:P.underlying t=some dd)(ho:o.op=.load t x)(h:cC (.load (sW P t) n x') d K σ)(hS:Sat N w0 m0 pl σ ρ m act w):dB (fW σ ρ m w) P σ ρ m o act w K:=by
 simp only[cC]at h;have h1:=hS.aU hx;have row:∀(b q:Nat) (ds:List Value) (a:AV),sW P t=true->act.eval x=.pointer (some ⟨b,q,none⟩)->(∀w',fW σ ρ m w w'->At w'.mem b q ds)->ds.length=n->bQ ρ m (.agg ds.toArray) a->K a σ->dB (fW σ ρ m w) P σ ρ m o act w K:=by
  intro b q ds a hr e k1 k2 k3 hK;refine .pure hS ?_ k3 hK;intro w' bS;unfold execOp;simp only[ho,e,Sem.run_bind,Znp hu hr (k1 w' bS) (by rw[hs,k2]),Result.andThen_ok];rfl
 have one:∀(b q:Nat) (v:Value) (a:AV),sW P t=false->act.eval x=.pointer (some ⟨b,q,none⟩)->(∀w',fW σ ρ m w w'->w'.cell? ⟨b,q,none⟩=some v)->bQ ρ m v a->K a σ->dB (fW σ ρ m w) P σ ρ m o act w K:=by
  intro b q v a hr e k1 k3 hK;refine .pure hS ?_ k3 hK;intro w' bS;unfold execOp;simp only[ho,e,Sem.run_bind,Znq hu hr (k1 w' bS),Result.andThen_ok];rfl
 split at h
 .rename_i cs e;rw[e]at h1;obtain⟨b,q,ds,hX,k1,k2,k3,k4⟩:=h1.Fv;split at h
  .rename_i hr;obtain⟨hn,hK⟩:=h;refine row b q (ds.take n) _ hr hX (fun w' bS=>At.j8 (fun j u hj=>?_)) (by rw[gM];omega) (.pv _ _ (.agg _ _ (by simp;omega) (fun u hu=>k3 u (List.mem_of_mem_take (by simpa using hu))) (fun j u c q1 q2=>?_))) hK
   .rw[mH]at hj;split at hj
    .exact bS.1 _ _ _ (k1.get j u hj)
    .cases hj
   .have o7:(ds.take n)[j]?=some u:=by simpa using q1
    rw[mH]at o7 q2;split at o7
    .rename_i sA;rw[if_pos sA]at q2;exact k4 j u c o7 q2
    .cases o7
  .rename_i hr;split at h
   .rename_i c iM;cases ds with
    |nil=>simp at k2
    |cons v ds'=>exact one b q v _ (by simpa using hr) hX (fun w' bS=>bS.1 _ _ _ k1.1) (.pv _ _ (k4 0 v c rfl rfl)) h
   .exact h.elim
 .rename_i s off e;rw[e]at h1;split at h
  .rename_i bU hb;have hB:=hS.bx s _ hb;split at h
   .rename_i hr;obtain⟨hl,hK⟩:=h;obtain⟨ds,k1,k2,k3,k4⟩:=Ix hB hl;refine row _ off ds _ hr h1.EW (fun w' bS=>bS.at' hb hB.1 k2) k1 (Ic (by simp[k1,gM,uQ];omega) (fun u hu=>k3 u (by simpa using hu)) (fun j u c q1 q2=>k4 j u c (by simpa using q1) q2)) hK
   .rename_i hr;split at h
    .rename_i a ha;have aI:=(cD.1 ha).1;obtain⟨ds,k1,k2,k3,k4⟩:=Ix hB (off:=off) (n:=1) (by omega)
     match ds,k1 with
     |[v],_=>exact one _ off v _ (by simpa using hr) h1.EW (fun w' bS=>(bS.at' hb hB.1 k2).1) (k4 0 v a rfl (by rw[mH,if_pos (by omega),mW];exact ha)) h
    .exact h.elim
  .exact h.elim
 .rename_i s n' i off e;rw[e]at h1;split at h
  .rename_i ee eW xs hb;have hB:=hS.bx s _ hb;split at h
   .rename_i y hy;obtain⟨rfl,h⟩:=h;obtain⟨xN,hB|⟨FR,cs,g1,g2,g3,g4,g5⟩⟩:=hB
    .rw[hB.2.1]at hy;simp at hy
    obtain⟨g6,g7⟩:=g5 i y hy;have hX:=h1.Fz;have Xk:∀j c,y.cells[j]?=some c->∃u,w.cell? ⟨(ρ s).b,(ρ s).o+i*n'+j,none⟩=some u/\u.oneCell'=true/\dH m u c:=fun j c hc=>by
     obtain⟨u,q1,q2,q3⟩:=g7 j c hc;exact⟨u,by simp[World.cell?,g1,q1],q2,q3⟩
    split at h
    .rename_i hr;obtain⟨hl,hK⟩:=h;have dF:(ρ s).o+i*n'+off+n<=cs.size:=by
      have:i*n'+n'<=(ρ s).cap*n':=W5 (by have:=(cD.1 hy).1;omega)
      omega
     have hlen:=Iq dF;have Ek:∀(j:Nat) (u:Value),((cs.toList.drop ((ρ s).o+i*n'+off)).take n)[j]?=some u->j<n/\∃c,y.cells[off+j]?=some c/\u.oneCell'=true/\dH m u c:=fun j u hj=>by
      rw[l8]at hj;split at hj
      .rename_i sA;have aI:off+j<y.cells.length:=by omega
       obtain⟨u',q1,q2,q3⟩:=g7 (off+j) _ (bC aI);rw[show(ρ s).o+i*n'+(off+j)=(ρ s).o+i*n'+off+j by omega,hj]at q1;cases q1;exact⟨sA,_,bC aI,q2,q3⟩
      .cases hj
     refine row _ _ ((cs.toList.drop ((ρ s).o+i*n'+off)).take n) _ hr hX (fun w' bS=>bS.at' hb FR (At.j8 (fun j u hj=>?_))) hlen (.pv _ _ (.agg _ _ (by simp only[zC];rw[hlen,gM,uQ];omega) (fun u hu=>?_) (fun j u c q1 q2=>?_))) hK
     .rw[l8]at hj;split at hj
      .show w.cell? _=_;simp[World.cell?,g1,hj]
      .cases hj
     .obtain⟨j,hj⟩:=iO.1 (show u∈(cs.toList.drop ((ρ s).o+i*n'+off)).take n by simpa using hu);obtain⟨_,c,_,q2,_⟩:=Ek j u hj;exact q2
     .obtain⟨sA,c',q3,_,q4⟩:=Ek j u (by simpa using q1);rw[mH,if_pos sA,mW]at q2;rw[q2]at q3;cases q3;exact q4
    .rename_i hr;split at h
     .rename_i c hc;obtain⟨u,q1,_,q3⟩:=Xk off c hc;exact one _ _ u _ (by simpa using hr) hX (fun w' bS=>(World.cell?_of_block (a:=⟨(ρ s).b,(ρ s).o+i*n'+off,none⟩) (bS.2 s _ hb FR)).trans q1) (.pv _ _ q3) h
     .exact h.elim
   .exact h.elim
  .exact h.elim
 .exact h.elim
end
section
variable {P:Program}{N:Nat}{w0:World}{m0:Env w0}{pl:List Nat}{σ:AS}{ρ:Site->Loc}{m:Mem}{act:Act}{w:World}{o:Oper}{d:Nat}{K:AV->AS->Prop}
theorem cY.setRow (w:World)(b:Nat)(cs:Array Value):cY [b] w (w.setRow b cs):=by
 refine⟨rfl,rfl,rfl,by simp[World.setRow],fun k _ hn=>?_⟩;exact setRow_other w b k cs (by simpa using hn)
theorem A5 {α:Type}{l c:List α}{off:Nat}(h:off+c.length<=l.length)(i:Nat):(aR l off c)[i]?=if i<off then l[i]? else if i<off+c.length then c[i-off]? else l[i]?:=by
 unfold aR;rw[zB,zB];simp only[gF,gM];rw[show min off l.length=off by omega];by_cases h1:i<off
 .have h3:i<off+c.length:=by omega
  simp only[h1,h3,if_true,mH]
 .by_cases h2:i<off+c.length
  .simp only[h1,h2,if_true,if_false]
  .simp only[h1,h2,if_false,mW];congr 1;omega
theorem W0 {α:Type}{l c:List α}{off:Nat}(h:off+c.length<=l.length):(aR l off c).length=l.length:=by
 unfold aR
 simp;omega
theorem ZmP {t n:Nat}{x y:Operand}{x' y':bB}(hx:aU x=some x')(hy:aU y=some y')(hs:eJ P t=some n)(ho:o.op=.store t x y)(h:cC (.store n x' y') d K σ)(hS:Sat N w0 m0 pl σ ρ m act w):oG P N w0 m0 pl o act w K:=by
 simp only[cC]at h;have h1:=hS.aU hx;have h2:=hS.aU hy;have run:∀(b q:Nat) (cur:Array Value) (T:TypeId),act.eval x=.pointer (some ⟨b,q,none⟩)->w.heap[b]?=some (.cells cur T (0,0))->(act.eval y).cells.size=n->q+n<=cur.size->(∀u∈(act.eval y).cells,u.oneCell'=true)->
   (execOp act.eval o).run P w=.ok .skip (w.setRow b (aR cur.toList q (act.eval y).cells.toList).toArray):=by
  intro b q cur T e hh hn hl h1;unfold execOp;simp only[ho,e,Sem.run_bind];rw[Zs1 (by rw[hs,hn]) hh (by rw[hn];exact hl) h1];simp only[Result.andThen_ok,Sem.run_pure,aR,vC]
 split at h
 .rename_i s off e;rw[e]at h1;split at h
  .rename_i bU hb;obtain⟨c1,c2,c3,hK⟩:=h;obtain⟨k1,k2,k3⟩:=PA h2 c2;obtain⟨hr,cs,T,g1,g2,g3⟩:=hS.bx s _ hb;have hq:off+(act.eval y).cells.toList.length<=cs.toList.length:=by rw[vC,vC];omega
   refine⟨undef,_,.any,_,ρ,m,.inr ⟨run _ off cs T h1.EW g1 (by omega) (by omega) k2,rfl⟩,hK,?_,.any _,fun hm=>by rw[ho]at hm;cases hm⟩;refine hS.Fy hb hr (cY.setRow w _ _) ⟨hr,_,T,setRow_heap w _ cs _ T _ g1,?_,fun i c a q1 q2=>?_⟩
   .rw[zC,W0 hq,W0 (by omega)];simpa using g2
   .have o7:(aR cs.toList off (act.eval y).cells.toList)[i]?=some c:=by simpa using q1
    rw[A5 hq]at o7;rw[A5 (by omega)]at q2;rw[show(act.eval y).cells.toList.length=(σ.o y').cells.length by simp[k1]]at o7;split at o7
    .rename_i hi;rw[if_pos hi]at q2;exact g3 i c a (by simpa using o7) q2
    .rename_i hi;rw[if_neg hi]at q2;split at o7
     .rename_i N5;rw[if_pos N5]at q2;have q3:(act.eval y).cells[i-off]?=some c:=by simpa using o7
      exact⟨k2 c (Array.mem_of_getElem? q3),k3 _ c a q3 q2⟩
     .rename_i N5;rw[if_neg N5]at q2;exact g3 i c a (by simpa using o7) q2
  .exact h.elim
 .rename_i s n' i off e;rw[e]at h1;obtain⟨m2,nK,nA⟩:=Sat.xD (σ.o y') hS;replace h2:=nA.aU hy;generalize σ.xD (σ.o y')=σ2 at h h2 nA;split at h
  .rename_i ee eW xs p hb H2;split at h
   .rename_i z hz;obtain⟨rfl,c0,c1,c2,c3,hK⟩:=h;rw[H2]at h2;obtain⟨k1,k2,k3⟩:=PA h2 c2;have mJ:(AV.pv p).cells.length=p.cells.length:=by cases p<;>simp[AV.cells,PV.cells]
    have hpg:∀j:Nat,(AV.pv p).cells[j]?=(p.cells[j]?).map AV.pv:=fun j=>by
     cases p<;>simp only[AV.cells,PV.cells,bY]<;>cases j<;>rfl
    obtain⟨xN,hB|⟨hr,cs,g1,g2,g3,g4,g5⟩⟩:=nA.bx s _ hb
    .rw[hB.2.1]at hz;simp at hz
    obtain⟨g6,g7⟩:=g5 i z hz;have Vh:i<xs.length:=(cD.1 hz).1;have gB:i*n'+n'<=(ρ s).cap*n':=W5 (by omega);have dF:(ρ s).o+i*n'+off+n<=cs.size:=by omega
    have hX:=h1.Fz;have P9:(act.eval y).cells.size=n:=by omega
    have hvl:(act.eval y).cells.toList.length=n:=by rw[vC];exact P9
    have II:(ρ s).o+i*n'+off+(act.eval y).cells.toList.length<=cs.toList.length:=by rw[hvl,vC];exact dF
    refine⟨undef,_,.any,_,ρ,m2,.inr ⟨run _ ((ρ s).o+i*n'+off) cs ee hX g1 P9 dF k2,rfl⟩,hK,?_,.any _,fun hm=>by rw[ho]at hm;cases hm⟩;have jQ:(setAt z off p).cells=aR z.cells off p.cells:=by
     unfold setAt;split
     .rfl
     .rename_i dA;have X9:z.cells=[z]:=by cases z<;>first|rfl|(exact(dA _ rfl).elim)
      rw[X9]at c3 ⊢;simp only[List.length_singleton]at c3;have FT:n=1/\off=0\/n=0:=by omega
      rcases FT with⟨e1,e2⟩|e0
      .subst e2;simp[aR,c1,e1]
      .omega
    refine nA.Fy hb hr (cY.setRow w _ _) ⟨xN,.inr ⟨hr,_,setRow_heap w _ cs _ ee _ g1,?_,by rw[List.length_set];exact g3,g4,fun k x hk=>?_⟩⟩
    .rw[zC,W0 II];simpa using g2
    .have JM:∀q u,((aR cs.toList ((ρ s).o+i*n'+off) (act.eval y).cells.toList).toArray)[q]?=some u↔(if q<(ρ s).o+i*n'+off then cs[q]? else if q<(ρ s).o+i*n'+off+n then(act.eval y).cells[q-((ρ s).o+i*n'+off)]? else cs[q]?)=some u:=fun q u=>by
      rw[I4,A5 II,hvl];simp only[O7]
     rcases Nat.decEq k i with dA|rfl
     .rw[List.getElem?_set_ne (fun e=>dA e.symm)]at hk;obtain⟨q1,q2⟩:=g5 k x hk;refine⟨q1,fun j c hj=>?_⟩;obtain⟨u,r1,r2,r3⟩:=q2 j c hj;have sA:j<n':=by have:=(cD.1 hj).1;omega
      refine⟨u,(JM _ u).2 ?_,r2,r3⟩;rcases Nat.lt_or_gt_of_ne dA with AK|AK
      .have:=W5 (n:=n') AK
       rw[if_pos (by omega)];exact r1
      .have:=W5 (n:=n') AK
       rw[if_neg (by omega),if_neg (by omega)];exact r1
     .rw[O6 Vh]at hk;cases hk;refine⟨by rw[jQ,W0 (by omega)];exact g6,fun j c hj=>?_⟩;rw[jQ,A5 (by omega)]at hj;split at hj
      .rename_i hjo;obtain⟨u,r1,r2,r3⟩:=g7 j c hj;exact⟨u,(JM _ u).2 (by rw[if_pos (by omega)];exact r1),r2,r3⟩
      .rename_i hjo;split at hj
       .rename_i Va;have xP:j-off<(act.eval y).cells.size:=by omega
        refine⟨(act.eval y).cells[j-off],(JM _ _).2 ?_,k2 _ (Array.getElem_mem xP),?_⟩
        .rw[if_neg (by omega),if_pos (by omega),show(ρ s).o+k*n'+j-((ρ s).o+k*n'+off)=j-off by omega];exact vA xP
        .have:=k3 (j-off) _ (.pv c) (vA xP) (by rw[hpg,hj];rfl)
         exact this.nN
       .rename_i Va;obtain⟨u,r1,r2,r3⟩:=g7 j c hj;have sA:j<n':=by have:=(cD.1 hj).1;omega
        exact⟨u,(JM _ u).2 (by rw[if_neg (by omega),if_neg (by omega)];exact r1),r2,r3⟩
   .exact h.elim
  .exact h.elim
 .exact h.elim
end
section
variable {G:World->Prop}{P:Program}{N:Nat}{w0:World}{m0:Env w0}{pl:List Nat}{σ:AS}{ρ:Site->Loc}{m:Mem}{act:Act}{w:World}{o:Oper}{d:Nat}{K:AV->AS->Prop}
theorem bQ.Ls {v:Value}{nn:Bool}{n:Nat}{xs:List PV}(h:bQ ρ m v (.pv (.aF nn n xs))):∃(a:Option Addr) (cap:Nat) (ds:Nat->List Value),v=.slice a xs.length cap/\xs.length<=cap/\cap<=9223372036854775807/\(a=none->cap=0)/\(∀A,a=some A->KI A)/\
  (∀(i:Nat) (x:PV),xs[i]?=some x->∃b o,a=some ⟨b,o,none⟩/\At m b (o+i*n) (ds i))/\(∀(i:Nat) (x:PV),xs[i]?=some x->(ds i).length=n/\x.cells.length=n/\∀d∈ds i,d.oneCell'=true)/\
  (∀(i:Nat) (x:PV) (j:Nat) (d:Value) (c:PV),xs[i]?=some x->(ds i)[j]?=some d->x.cells[j]?=some c->dH m d c):=by
 cases h.nN with
 |aF a cap _ _ _ ds h0 h1 h2 h3 h4 h5 h6 h7=>exact⟨a,cap,ds,rfl,h0,h1,h2,h3,h5,h6,h7⟩
theorem bQ.ZxX {v:Value}{n:Nat}{xs:List PV}(h:bQ ρ m v (.pv (.aF true n xs))){a:Option Addr}{len cap:Nat}(hv:v=.slice a len cap):a≠none:=by
 cases h.nN with
 |aF a' JS _ _ _ ds h0 h1 h2 h3 h4 h5 h6 h7=>cases hv;exact h4 rfl
theorem bQ.EX {v:Value}{s:Site}{n lo len:Nat}(h:bQ ρ m v (.vec s n lo len)):(∃cap,v=.slice (some ⟨(ρ s).b,(ρ s).o+lo*n,none⟩) len cap/\len<=cap/\lo+cap<=(ρ s).cap/\(ρ s).real=true)\/(∃a,v=.slice a 0 0/\len=0/\∀A,a=some A->KI A):=by
 cases h with
 |vec _ _ _ _ cap h0 h1 h2=>exact .inl ⟨cap,rfl,h0,h1,h2⟩
 |nG _ _ _ a h=>exact .inr ⟨a,rfl,rfl,h⟩
theorem bQ.XD {v:Value}{nl:Option Bool}(h:bQ ρ m v (.pv (.emp nl))):∃a,v=.slice a 0 0/\(∀A,a=some A->KI A):=by
 cases h.nN with
 |emp a _ h0 h1 h2=>exact⟨a,rfl,h2⟩
theorem ZrA {t n:Nat}{arr:Option Nat}{e:Nat}{x i:Operand}{x' i':bB}(hx:aU x=some x')(hi:aU i=some i')(he:eI P t=some (e,n,arr))(ho:o.op=.indexAddr t x i)(h:cC (.ia n arr x' i') d K σ)(hS:Sat N w0 m0 pl σ ρ m act w):dB G P σ ρ m o act w K:=by
 simp only[cC]at h;have h1:=hS.aU hx;have h2:=hS.aU hi;split at h
 .rename_i k z ez;rw[ez]at h2;have hz:=h2.V7;split at h
  ·
   have sl:∀(b q len cap:Nat) (a:AV),act.eval x=.slice (some ⟨b,q,none⟩) len cap->0<=z->z<len->bQ ρ m (.pointer (some ⟨b,q+z.toNat*n,none⟩)) a->K a σ->dB G P σ ρ m o act w K:=by
    intro b q len cap a e0 z0 z1 k2 hK;refine .pure hS ?_ k2 hK;intro w' bS;unfold execOp;simp only[ho,e0,hz,Sem.run_bind,Rf he b q len cap k z0 z1,Result.andThen_ok];rfl
   split at h
   .rename_i nn n' xs ex;rw[ex]at h1;obtain⟨a,cap,ds,hv,l0,l1,l2,l3,l5,l6,l7⟩:=h1.Ls;split at h
    .rename_i z0;split at h
     .rename_i y hy;obtain⟨rfl,hK⟩:=h;obtain⟨b,q,rfl,k1⟩:=l5 _ y hy;obtain⟨k2,k3,k4⟩:=l6 _ y hy;have aI:=(cD.1 hy).1;exact sl b q _ cap _ hv z0 (by omega) (.pv _ _ (.ref b (q+z.toNat*n') y.cells _ k1 (by rw[k2,k3]) k4 (fun j u c q1 q2=>l7 _ y j u c hy q1 q2))) hK
     .exact h.elim
    .exact h.elim
   .rename_i s n' lo len ex;rw[ex]at h1;obtain⟨rfl,z0,z1,hK⟩:=h;rcases h1.EX with⟨cap,hv,c0,c1,c2⟩|⟨a,hv,c0,_⟩
    .refine sl _ _ _ cap _ hv z0 z1 ?_ hK
     have:=bQ.lG (ρ:=ρ) (m:=m) s n' (lo+z.toNat) 0
     rwa [show(ρ s).o+(lo+z.toNat)*n'+0=(ρ s).o+lo*n'+z.toNat*n' by rw[Nat.add_mul];omega]at this
    .omega
   .exact h.elim
  .rename_i l;obtain⟨z0,z1,h⟩:=h;have ar:∀(b q:Nat) (a:AV),act.eval x=.pointer (some ⟨b,q,none⟩)->bQ ρ m (.pointer (some ⟨b,q+z.toNat*n,none⟩)) a->K a σ->dB G P σ ρ m o act w K:=by
    intro b q a e0 k2 hK;refine .pure hS ?_ k2 hK;intro w' bS;unfold execOp;simp only[ho,e0,hz,Sem.run_bind,ZpJ he b q k z0 z1,Result.andThen_ok];rfl
   split at h
   .rename_i cs ex;rw[ex]at h1;obtain⟨b,q,ds,hX,k1,k2,k3,k4⟩:=h1.Fv;refine ar b q _ hX ?_ h.2;refine .pv _ _ (.ref b (q+z.toNat*n) (cs.drop (z.toNat*n)) (ds.drop (z.toNat*n)) (At.j8 (fun j u hj=>?_)) (by simp[k2]) (fun u hu=>k3 u (List.mem_of_mem_drop hu)) (fun j u c q1 q2=>?_))
    .rw[mW]at hj
     have:=k1.get _ u hj
     rwa [show q+z.toNat*n+j=q+(z.toNat*n+j) by omega]
    .rw[mW]at q1 q2;exact k4 _ u c q1 q2
   .rename_i s q ex;rw[ex]at h1;exact ar _ q _ h1.EW (.ptr s (q+z.toNat*n)) h
   .rename_i s n' j q ex;rw[ex]at h1;refine ar _ _ _ h1.Fz ?_ h
    have:=bQ.lG (ρ:=ρ) (m:=m) s n' j (q+z.toNat*n)
    rwa [show(ρ s).o+j*n'+(q+z.toNat*n)=(ρ s).o+j*n'+q+z.toNat*n by omega]at this
   .exact h.elim
 .exact h.elim
theorem ZmU {t n:Nat}{arr:Option Nat}{e:Nat}{c:Call}{x:Operand}{x':bB}(hx:aU x=some x')(he:eI P t=some (e,n,arr))(hc:c.callee=.builtin .len)(ha:c.args.toList=[x])(ht:c.argTypes.toList=[t])(ho:o.op=.call c)(h:cC (.len arr x') d K σ)(hS:Sat N w0 m0 pl σ ρ m act w):dB G P σ ρ m o act w K:=by
 simp only[cC]at h;have h1:=hS.aU hx;have fY:c.args=#[x]:=xS.1 (by simpa using ha);have sZ:c.argTypes=#[t]:=xS.1 (by simpa using ht);have go:∀(L:Nat),(∀w:World,(Builtin.len_ #[t] o.type #[act.eval x]).run P w=.ok (.int .i64 L) w)->K (.pv (.int .i64 L)) σ->dB G P σ ρ m o act w K:=by
  intro L k hK;refine .pure hS ?_ (.pv _ _ (.int _ _)) hK;intro w' bS;unfold execOp;simp only[ho];simp[resolve,hc,fY,sZ,invoke,builtin,k]
 split at h
 .rename_i l;exact go l (fun w=>Znr he _ _) h
 .split at h
  .rename_i ex;rw[ex]at h1;obtain⟨a,cap,ds,hv,_⟩:=h1.Ls;exact go _ (by intro w;rw[hv];exact X2 he _ _ _ _) h
  .rename_i ex;rw[ex]at h1;obtain⟨a,hv,_⟩:=h1.XD;exact go 0 (by intro w;rw[hv];exact X2 he _ _ _ _) h
  .rename_i s n' lo len ex;rw[ex]at h1;rcases h1.EX with⟨cap,hv,c0,c1,c2⟩|⟨a,hv,c0,_⟩
   .exact go _ (by intro w;rw[hv];exact X2 he _ _ _ _) h
   .subst c0;exact go 0 (by intro w;rw[hv];exact X2 he _ _ _ _) h
  .exact h.elim
theorem TZ:∀{ps:List bB} {xs:List PV},σ.tY ps=some xs->ps.length=xs.length/\∀(j:Nat) (y:bB),ps[j]?=some y->∃x,xs[j]?=some x/\σ.o y=.pv x
 |[],xs,h=>by simp[AS.tY]at h;subst h;exact⟨rfl,fun j x k=>by simp at k⟩
 |a::r,xs,h=>by
  unfold AS.tY at h;split at h
  .rename_i x l h1 h2;cases h;obtain⟨k1,k2⟩:=TZ h2;refine⟨by simp[k1],fun j y k=>?_⟩;cases j with
   |zero=>simp at k;subst k;exact⟨x,rfl,h1⟩
   |succ j=>simpa using k2 j y (by simpa using k)
  .cases h
theorem ZmT {f:FuncId}{fs cs:Array Operand}{tP iM:List bB}(hf:pP fs.toList=some tP)(hc:pP cs.toList=some iM)(ho:o.op=.makeFunc (.func f) fs cs)(h:cC (.yK f tP iM) d K σ)(hS:Sat N w0 m0 pl σ ρ m act w):dB G P σ ρ m o act w K:=by
 simp only[cC]at h;obtain⟨f1,f2⟩:=LD hf;obtain⟨c1,c2⟩:=LD hc;have hr:∀w',G w'->(execOp act.eval o).run P w'=.ok (.value (.func (.func f) (fs.map act.eval) (cs.map act.eval))) w':=by
  intro w' bS;unfold execOp;simp only[ho];rfl
 have kO:∀(l:Array Operand) (l':List bB),(∀(j:Nat) (x:Operand),l.toList[j]?=some x->∃y:bB,l'[j]?=some y/\aU x=some y)->∀(j:Nat) (u:Value),(l.map act.eval)[j]?=some u->∃y:bB,l'[j]?=some y/\bQ ρ m u (σ.o y):=by
  intro l l' hl j u hu;rw[Array.getElem?_map]at hu;obtain⟨x,k1,rfl⟩:=eB.1 hu;obtain⟨y,k2,k3⟩:=hl j x (by simpa using k1);exact⟨y,k2,hS.aU k3⟩
 split at h
 .rename_i a b ea eb;obtain⟨a1,a2⟩:=TZ ea;obtain⟨b1,b2⟩:=TZ eb;refine .pure hS hr (.pv _ _ (.fn f _ _ a b (by simp;simpa using f1.trans a1) (by simp;simpa using c1.trans b1) (fun j u c q1 q2=>?_) (fun j u c q1 q2=>?_))) h
  .obtain⟨y,k1,k2⟩:=kO fs tP f2 j u q1;obtain⟨x,k3,k4⟩:=a2 j y k1;rw[q2]at k3;cases k3;rw[k4]at k2;exact k2.nN
  .obtain⟨y,k1,k2⟩:=kO cs iM c2 j u q1;obtain⟨x,k3,k4⟩:=b2 j y k1;rw[q2]at k3;cases k3;rw[k4]at k2;exact k2.nN
 .refine .pure hS hr (.fn f _ _ _ _ (by simp;simpa using f1) (by simp;simpa using c1) (fun j u c q1 q2=>?_) (fun j u c q1 q2=>?_)) h
  .obtain⟨y,k1,k2⟩:=kO fs tP f2 j u q1;rw[bY,k1]at q2;cases q2;exact k2
  .obtain⟨y,k1,k2⟩:=kO cs iM c2 j u q1;rw[bY,k1]at q2;cases q2;exact k2
theorem Zoo {place:Nat->Option (Nat×Nat)}{MG:List (Nat×Nat)}(mJ:∀(i:Nat) (p:Nat×Nat),MG[i]?=some p->place i=some p):∀(ps:List (Nat×Operand)) (qs:List (Nat×Nat×bB)) (cells:Array Value) (l l':List AV),XO MG ps=some qs->wQ σ l qs=some l'->Sat N w0 m0 pl σ ρ m act w->
  cells.size=l.length->(∀u∈cells,u.oneCell'=true)->(∀(j:Nat) (u:Value) (c:AV),cells[j]?=some u->l[j]?=some c->bQ ρ m u c)->
  ∃r,Instr.fill place cells (ps.map fun p=>(p.1,act.eval p.2))=some r/\r.size=l'.length/\(∀u∈r,u.oneCell'=true)/\∀(j:Nat) (u:Value) (c:AV),r[j]?=some u->l'[j]?=some c->bQ ρ m u c
 |[],qs,cells,l,l',hq,hl,hS,h0,h1,h2=>by
  simp[XO]at hq;subst hq;simp[wQ]at hl;subst hl;exact⟨cells,rfl,h0,h1,h2⟩
 |(i,x)::r,qs,cells,l,l',hq,hl,hS,h0,h1,h2=>by
  unfold XO at hq;split at hq
  .rename_i off n y l0 e1 e2 e3;cases hq;unfold wQ at hl;split at hl
   .rename_i hc;obtain⟨c1,c2,c3⟩:=hc;obtain⟨k1,k2,k3⟩:=PA (hS.aU e2) c3;obtain⟨g1,g2⟩:=Great.foldl_set off (act.eval x).cells.toList 0 cells;have tN:((act.eval x).cells.zipIdx.foldl (fun cs (p:Value×Nat)=>cs.setIfInBounds (off+p.2) p.1) cells)=(((act.eval x).cells.toList.zipIdx 0).foldl (fun cs (p:Value×Nat)=>cs.setIfInBounds (off+p.2) p.1) cells):=by
     rw[<-Array.foldl_toList,Array.toList_zipIdx]
    generalize hC:(((act.eval x).cells.toList.zipIdx 0).foldl (fun cs (p:Value×Nat)=>cs.setIfInBounds (off+p.2) p.1) cells)=C at *;have gC:∀j,C[j]?=if off<=j/\j<off+n then(act.eval x).cells[j-off]? else cells[j]?:=fun j=>by
     rw[g2 j,vC,k1,c1,Nat.add_zero,O7];by_cases hj:off<=j/\j<off+n
     .rw[if_pos hj,if_pos ⟨hj.1,hj.2,by omega⟩]
     .rw[if_neg hj,if_neg (fun e=>hj ⟨e.1,e.2.1⟩)]
    obtain⟨r',q1,q2,q3,q4⟩:=Zoo mJ r l0 C _ l' e3 hl hS (by rw[W0 (by omega)];omega) (fun u hu=>by
     obtain⟨j,hj⟩:=Array.mem_iff_getElem?.1 hu;rw[gC j]at hj;split at hj
     .exact k2 u (Array.mem_of_getElem? hj)
     .exact h1 u (Array.mem_of_getElem? hj)) (fun j u c a1 a2=>by
     rw[gC j]at a1;rw[A5 (by omega)]at a2;split at a1
     .rename_i hj;rw[if_neg (by omega),if_pos (by omega)]at a2;exact k3 _ u c a1 a2
     .rename_i hj;by_cases DH:j<off
      .rw[if_pos DH]at a2;exact h2 j u c a1 a2
      .rw[if_neg DH,if_neg (by omega)]at a2;exact h2 j u c a1 a2)
    refine⟨r',?_,q2,q3,q4⟩;rw[iS];unfold Instr.fill;simp only[mJ _ _ e1];rw[if_neg (by simp;omega),tN];exact q1
   .cases hl
  .cases hq
end
section
variable {G:World->Prop}{P:Program}{N:Nat}{w0:World}{m0:Env w0}{pl:List Nat}{σ:AS}{ρ:Site->Loc}{m:Mem}{act:Act}{w:World}{o:Oper}{d:Nat}{K:AV->AS->Prop}
theorem Ii {t:TypeId}{z:Value}(h:gX P t=some z):∃i,P.info? t=some i/\i.zero=some z:=by
 unfold gX at h;cases hx:P.info? t with
 |none=>simp[hx]at h
 |some i=>exact⟨i,rfl,by simpa[hx]using h⟩
theorem Ie {t:TypeId}{n:Nat}(h:eJ P t=some n):∃i,P.info? t=some i/\i.size=n:=by
 unfold eJ at h;cases hx:P.info? t with
 |none=>simp[hx]at h
 |some i=>exact⟨i,rfl,by simpa[hx]using h⟩
theorem Zii {t:Nat}{ps:Array (Nat×Operand)}{z:PV}{MG:List (Nat×Nat)}{qs:List (Nat×Nat×bB)}(hz:sH P t=some z)(hp:Zz P t=some MG)(hq:XO MG ps.toList=some qs)(ho:o.op=.build t ps)(h:cC (.build z qs) d K σ)(hS:Sat N w0 m0 pl σ ρ m act w):dB G P σ ρ m o act w K:=by
 simp only[cC]at h;split at h
 .rename_i l hl;unfold sH at hz;cases hv:gX P t with
  |none=>simp[hv]at hz
  |some v=>
   simp only[hv,Option.bind_some]at hz;obtain⟨k1,k2,k3⟩:=UM hz m;obtain⟨it,hi1,N5⟩:=Ii hv;have fin:∀place:Nat->Option (Nat×Nat),(∀(i:Nat) (p:Nat×Nat),MG[i]?=some p->place i=some p)->(∀r,Instr.fill place v.cells (ps.toList.map fun p=>(p.1,act.eval p.2))=some r->P.built t (ps.map fun(i,x)=>(i,act.eval x)).toList=some r)->dB G P σ ρ m o act w K:=by
    intro place mJ hb;obtain⟨r,q1,q2,q3,q4⟩:=Zoo mJ ps.toList qs v.cells _ l hq hl hS (by simpa using k1) k2 (fun j u c a1 a2=>by
     rw[bY]at a2;obtain⟨x,a3,rfl⟩:=eB.1 a2;exact .pv _ _ (k3 j u x a1 a3))
    refine .pure hS (v:=.agg r) ?_ (Ic q2 q3 q4) h;intro w' bS;unfold execOp;simp only[ho,Sem.run_bind];rw[run_build w' t _ r (hb r q1)];rfl
   unfold Zz at hp;split at hp
   .rename_i fs hu;have MY:fs.toList.mapM (fun f=>(P.info? f.type).map fun i=>(f.offset,i.size))=some MG:=by
     rw[<-hp];congr 1;funext f;unfold eJ;cases P.info? f.type<;>rfl
    refine fin (MG.toArray[·]?) (fun i p e=>by simpa using e) (fun r hr=>?_);unfold Program.built;simp only[hi1,hu,N5,MY,Array.toList_map];exact hr
   .rename_i l' e hu;cases hs:eJ P e with
    |none=>simp[hs]at hp
    |some n=>
     simp only[hs,vB,Option.some.injEq]at hp;obtain⟨ie,IX,DJ⟩:=Ie hs;refine fin (fun i=>some (i*n,n)) (fun i p e=>?_) (fun r hr=>?_)
     .rw[<-hp,bY]at e;obtain⟨j,e1,rfl⟩:=eB.1 e
      have:j=i:=by
       rw[List.getElem?_range]at e1
       .cases e1;rfl
       .have:=(cD.1 e1).1;simpa using this
      rw[this]
     .unfold Program.built;simp only[hi1,hu,N5,IX,DJ,Array.toList_map];exact hr
   .cases hp
 .exact h.elim
theorem ZmV {t f:Nat}{fs:Array Field}{fl:Field}{n:Nat}{x:Operand}{x':bB}(hx:aU x=some x')(hu:P.underlying t=some (.struct fs))(hf:fs[f]?=some fl)(hs:eJ P fl.type=some n)(CU:(P.underlying fl.type).isSome=true)(ho:o.op=.field t x f)(h:cC (.NX (sW P fl.type) fl.offset n x') d K σ)(hS:Sat N w0 m0 pl σ ρ m act w):dB G P σ ρ m o act w K:=by
 obtain⟨dd,hd⟩:=Option.isSome_iff_exists.1 CU;simp only[cC]at h;have h1:=hS.aU hx;have wide:(σ.o x').wide=true->∃vs,act.eval x=.agg vs:=by
  intro hw;generalize σ.o x'=a at h1 hw;generalize act.eval x=v at h1;cases h1 with
  |agg vs=>exact⟨vs,rfl⟩
  |pv v x h2=>cases h2 with
   |agg vs=>exact⟨vs,rfl⟩
   |_=>cases hw
  |_=>cases hw
 have run:∀vs,act.eval x=.agg vs->∀v,(∀w:World,(part fl.type vs fl.offset).run P w=.ok v w)->∀w',G w'->(execOp act.eval o).run P w'=.ok (.value v) w':=by
  intro vs e v k;intro w' bS;unfold execOp;simp only[ho,e,Sem.run_bind];simp[Instr.field,run_underlying hu,hf,asAgg,k]
 split at h
 .rename_i hr;obtain⟨c1,c2,hK⟩:=h;obtain⟨vs,hv⟩:=wide c2;obtain⟨k1,k2,k3⟩:=PA h1 (.inl c2);rw[hv]at k1 k2 k3;have fI:(vs.extract fl.offset (fl.offset+n)).size=n:=by simp[Value.cells]at k1;simp;omega
  have kO:∀j,(vs.extract fl.offset (fl.offset+n))[j]?=if j<n then vs[fl.offset+j]? else none:=fun j=>by
   rw[Array.getElem?_extract];simp only[Value.cells]at k1;by_cases hj:j<n
   .rw[if_pos (by omega),if_pos hj]
   .rw[if_neg (by omega),if_neg hj]
  refine .pure hS (v:=.agg (vs.extract fl.offset (fl.offset+n))) (run vs hv _ ?_) (Ic (by rw[fI,gM,uQ];omega) (fun u Bl=>?_) (fun j u c q1 q2=>?_)) hK
  .intro w;simp only[part,Sem.run_bind,Zfq hd,Result.andThen_ok,hr,if_true,run_sizeOf hs];rfl
  .obtain⟨j,hj⟩:=Array.mem_iff_getElem?.1 Bl;rw[kO]at hj;split at hj
   .exact k2 u (Array.mem_of_getElem? hj)
   .cases hj
  .rw[kO]at q1;rw[mH]at q2;split at q1
   .rename_i hj;rw[if_pos hj,mW]at q2;exact k3 _ u c q1 q2
   .cases q1
 .rename_i hr;split at h
  .rename_i a ha;obtain⟨c2,hK⟩:=h;obtain⟨vs,hv⟩:=wide c2;obtain⟨k1,k2,k3⟩:=PA h1 (.inl c2);rw[hv]at k1 k2 k3;have aI:fl.offset<vs.size:=by
    have:=(cD.1 ha).1
    simp[Value.cells]at k1;omega
   refine .pure hS (v:=vs[fl.offset]) (run vs hv _ ?_) (k3 _ _ a (vA aI) ha) hK;intro w;simp only[part,Sem.run_bind,Zfq hd,Result.andThen_ok,hr,if_false,Bool.false_eq_true];simp[vA aI]
  .exact h.elim
theorem Zk3 {s s':Site}{b b':aJ}(h:(σ.set s b).b s'=some b'):(s'=s/\b'=b)\/(s'≠s/\σ.b s'=some b'):=by
 rw[AS.XA]at h;split at h
 .rename_i e;cases h;exact .inl ⟨e,rfl⟩
 .rename_i e;exact .inr ⟨e,h⟩
theorem Sat.ZxV (h:Sat N w0 m0 pl σ ρ m act w){s:Site}{b box:aJ}(hs:σ.b s=some b)(hb:kT ρ m w s box)(hq:∀k,fL ρ w s box k->fL ρ w s b k):Sat N w0 m0 pl (σ.set s box) ρ m act w:=by
 have g:∀s' b' k,(σ.set s box).b s'=some b'->fL ρ w s' b' k->∃c,σ.b s'=some c/\fL ρ w s' c k:=fun s' b' k h1 h2=>by
  rcases Zk3 h1 with⟨rfl,rfl⟩|⟨_,h1⟩
  .exact⟨b,hs,hq k h2⟩
  .exact⟨b',h1,h2⟩
 refine⟨h.sM,h.sz,h.tm,fun s' b' k=>?_,fun s1 s2 b1 b2 k k1 k2 r1 r2=>?_,h.mem,fun s' b' k k1 r1=>?_,fun s' b' k k1 r1=>?_,h.keep,h.base,h.qJ,h.par⟩
 .rcases Zk3 k with⟨rfl,rfl⟩|⟨_,k⟩
  .exact hb
  .exact h.bx s' b' k
 .obtain⟨c1,g1,q1⟩:=g s1 b1 k k1 r1;obtain⟨c2,g2,q2⟩:=g s2 b2 k k2 r2;exact h.eA s1 s2 c1 c2 k g1 g2 q1 q2
 .obtain⟨c1,g1,q1⟩:=g s' b' k k1 r1;exact h.eQ s' c1 k g1 q1
 .obtain⟨c1,g1,q1⟩:=g s' b' k k1 r1;exact h.fM s' c1 k g1 q1
theorem ZlS {t e n len:Nat}{ps:Array (Nat×Operand)}{qs:List bB}(he:eI P t=some (e,n,none))(hq:pP (ps.toList.map (·.2))=some qs)(hi:ps.toList.map (·.1)=List.range len)(hn:0<n)(Z4:len*n<=2^24)(hz:(gX P e).isSome=true)(ho:o.op=.buildSlice t len ps)(h:cC (.aQ e n qs) d K σ)(hS:Sat N w0 m0 pl σ ρ m act w):oG P N w0 m0 pl o act w K:=by
 simp only[cC]at h;obtain⟨hu,hs⟩:=LH he;obtain⟨ie,IX,DJ⟩:=Ie hs;obtain⟨z,hz⟩:=Option.isSome_iff_exists.1 hz;obtain⟨i2,X9,P8⟩:=Ii hz;rw[IX]at X9;cases X9;obtain⟨q1,q2⟩:=LD hq;rw[fZ]at q1;have hlen:ps.toList.length=len:=by
  have:=congrArg List.length hi
  simpa using this
 obtain⟨m',Q3,hF⟩:=Sat.EU qs hS;split at h
 .rename_i hp;obtain⟨p1,_⟩:=TZ hp;have h0:len=0:=by rw[List.length_nil]at p1;omega
  subst h0;have yM:ps=#[]:=by
   have:ps.toList=[]:=List.eq_nil_of_length_eq_zero hlen
   exact xS.1 (by simpa using this)
  have hr:(execOp act.eval o).run P w=.ok (.value (.slice (some ⟨w.heap.size,0,none⟩) 0 0)) (w.alloc (.cells #[] e)):=by
   unfold execOp;simp only[ho,yM,Sem.run_bind];simp[Instr.buildSlice,run_underlying hu,run_sizeOf hs,Instr.fill,newRow];rw[show Array.map (fun _=>(default:Value)) (Array.range 0)=#[] from Array.eq_empty_of_size_eq_zero (by simp)]
  exact⟨_,_,_,_,ρ,m,.inl hr,h,hS.ext (Ext.al w _),.pv _ _ (.emp _ _ (fun e=>(by cases e)) (fun _=>by simp) (fun A hA=>by cases hA;rfl)),fun _=>Ext.al _ _⟩
 .rename_i xs hp FO;obtain⟨hx,hK⟩:=h;obtain⟨p1,p2⟩:=TZ FO;have Sw:xs.length=len:=by omega
  have oA:∀(j:Nat) (p:Nat×Operand),ps.toList[j]?=some p->p.1=j/\∃x,xs[j]?=some x/\dH m' (act.eval p.2) x:=fun j p hj=>by
   have aI:=(cD.1 hj).1;have h1:(ps.toList.map (·.1))[j]?=some p.1:=by rw[bY,hj];rfl
   rw[hi,List.getElem?_range (by omega)]at h1;obtain⟨y,k1,k2⟩:=q2 j p.2 (by rw[bY,hj];rfl);obtain⟨x,k3,k4⟩:=p2 j y k1;have k5:=hF.aU k2;rw[k4]at k5;exact⟨(Option.some.inj h1).symm,x,k3,k5.nN⟩
  let vs:List Value:=ps.toList.map fun p=>act.eval p.2
  have P9:∀(j:Nat) (v:Value),vs[j]?=some v->∃x,xs[j]?=some x/\dH m' v x:=fun j v hj=>by
   rw[bY]at hj;obtain⟨p,k1,rfl⟩:=eB.1 hj;exact(oA j p k1).2
  have Ca:(ps.map fun(i,x)=>(i,act.eval x)).toList=(vs.zipIdx 0).map fun x=>(x.2,x.1):=by
   apply List.ext_getElem?;intro j;rw[Array.toList_map,bY,bY,List.getElem?_zipIdx,bY];cases hj:ps.toList[j]? with
   |none=>simp
   |some p=>simp[(oA j p hj).1]
  have hvn:∀v∈vs,v.cells.size=n/\(∀u∈v.cells,u.oneCell'=true):=fun v hv=>by
   obtain⟨j,hj⟩:=iO.1 hv;obtain⟨x,k1,k2⟩:=P9 j v hj;obtain⟨k3,k4⟩:=hx x (dL k1);obtain⟨k5,k6,k7⟩:=PA (bQ.pv (ρ:=ρ) v x k2) k4
   have:(AV.pv x).cells.length=x.cells.length:=by cases x<;>simp[AV.cells,PV.cells]
   exact⟨by omega,k6⟩
  have Ck:vs.length=len:=by simp[vs];simpa using hlen
  have IL:¬len*n=0:=by
   intro e;rcases Nat.mul_eq_zero.1 e with e|e
   .rw[e]at Sw
    have:xs=[]:=List.eq_nil_of_length_eq_zero Sw
    exact hp this
   .omega
  obtain⟨r,f1,f2,f3⟩:=Great.fill_dense (s:=n) hn vs 0 ((Array.range (len*n)).map (z.cells[·%z.cells.size]!)) (fun v hv=>(hvn v hv).1) (by simp[Ck]);have f2':r.size=len*n:=by rw[f2];simp
  have hr:(execOp act.eval o).run P w=.ok (.value (.slice (some ⟨w.heap.size,0,none⟩) len len)) (w.alloc (.cells r e)):=by
   unfold execOp;simp only[ho,Sem.run_bind];rw[run_buildSlice w t e len _ r ie z hu IX P8 (by rw[DJ];omega) (by rw[DJ];exact IL) (by rw[DJ,Ca];exact f1)];rfl
  have hP:=hF.bG d;have T6:=S0 ρ (.loc d 0) ⟨w.heap.size,0,len,true⟩;refine⟨_,_,_,_,_,m',.inl hr,hK,hP.new d 0 (rG.bG d _) r e len ?_,?_,fun _=>Ext.al _ _⟩
  .refine⟨hn,.inr ⟨by rw[T6],r,by rw[T6];exact heap_alloc_new w _,by rw[T6];simp[f2'],by rw[T6];simp;omega,by
    rw[T6]
    have:len<=len*n:=Nat.le_mul_of_pos_right _ hn
    simp only[maxLen];omega,fun i x hi=>?_⟩⟩
   obtain⟨k3,k4⟩:=hx x (dL hi);refine⟨k3,fun j c hj=>?_⟩;have sA:j<n:=by have:=(cD.1 hj).1;omega
   have yR:i<len:=by have:=(cD.1 hi).1;omega
   have Vd:i<vs.length:=by omega
   obtain⟨x',k1,k2⟩:=P9 i _ (bC Vd);rw[hi]at k1;cases k1;obtain⟨k5,k6,k7⟩:=PA (bQ.pv (ρ:=ρ) _ x k2) k4;have k8:=(hvn _ (A2 Vd)).1;have Uz:j<vs[i].cells.size:=by omega
   have hdiv:(i*n+j) / n=i:=by rw[Nat.add_comm,Nat.add_mul_div_right _ _ hn,Nat.div_eq_of_lt sA,sF]
   have yP:(i*n+j)%n=j:=by rw[Nat.add_comm,Nat.add_mul_mod_self_right,Nat.mod_eq_of_lt sA]
   refine⟨vs[i].cells[j],?_,k6 _ (Array.getElem_mem Uz),?_⟩
   .rw[T6];have aI:i*n+j<(0+vs.length)*n:=by
     have:=W5 (n:=n) yR
     rw[sF,Ck];omega
    show r[0+i*n+j]?=_;rw[sF,f3,if_pos ⟨by omega,aI⟩,hdiv,yP,Nat.sub_zero,bC Vd,Option.bind_some,vA Uz]
   .have:=k7 j _ (.pv c) (vA Uz) (by
     cases x<;>simp only[AV.cells,PV.cells,bY]at hj ⊢
     all_goals (first|(rw[hj];rfl)|(cases j<;>simp at hj ⊢;exact hj)))
    exact this.nN
  .rw[Sw]
   have:=bQ.vec (ρ:=iQ ρ (.loc d 0) ⟨w.heap.size,0,len,true⟩) (m:=m') (.loc d 0) n 0 len len (fH _) (by rw[T6];simp) (by rw[T6])
   rw[T6]at this;simpa using this
 .exact h.elim
end
structure Flat (m:Mem)(ds:List Value)(n:Nat)(xs:List PV):Prop where
 len:ds.length=xs.length*n
 one:∀u∈ds,u.oneCell'=true
 get:∀(i:Nat) (x:PV),xs[i]?=some x->x.cells.length=n/\∀(j:Nat) (c:PV),x.cells[j]?=some c->∃u,ds[i*n+j]?=some u/\dH m u c
theorem Flat.app {m:Mem}{ds es:List Value}{n:Nat}{xs ys:List PV}(h:Flat m ds n xs)(k:Flat m es n ys):Flat m (ds++es) n (xs++ys):=by
 refine⟨by rw[gF,h.len,k.len,gF,Nat.add_mul],fun u hu=>by
  rcases sS.1 hu with h'|h'
  .exact h.one u h'
  .exact k.one u h',fun i x hi=>?_⟩
 rw[zB]at hi;split at hi
 .rename_i aI;obtain⟨k1,k2⟩:=h.get i x hi;refine⟨k1,fun j c hj=>?_⟩;obtain⟨u,k3,k4⟩:=k2 j c hj;exact⟨u,by rw[List.getElem?_append_left (cD.1 k3).1];exact k3,k4⟩
 .rename_i aI;obtain⟨k1,k2⟩:=k.get _ x hi;refine⟨k1,fun j c hj=>?_⟩;obtain⟨u,k3,k4⟩:=k2 j c hj;have e:i*n=ds.length+(i-xs.length)*n:=by rw[h.len,<-Nat.add_mul];congr 1;omega
  exact⟨u,by rw[List.getElem?_append_right (by omega),show i*n+j-ds.length=(i-xs.length)*n+j by omega];exact k3,k4⟩
theorem Flat.nil (m:Mem)(n:Nat):Flat m [] n []:=⟨by simp,(fun u h=>by cases h),(fun i x h=>by simp at h)⟩
def Jh (m:Mem)(w:World)(v:Value)(n:Nat)(xs:List PV):Prop:=
 ∃(a:Option Addr) (cap:Nat) (ds:List Value),v=.slice a xs.length cap/\Flat m ds n xs/\∀(k:Nat) (u:Value),ds[k]?=some u->∃b o,a=some ⟨b,o,none⟩/\w.cell? ⟨b,o+k,none⟩=some u
section
variable {P:Program}{N:Nat}{w0:World}{m0:Env w0}{pl:List Nat}{σ:AS}{ρ:Site->Loc}{m:Mem}{act:Act}{w:World}{o:Oper}{d:Nat}{K:AV->AS->Prop}
theorem Hz {k n L:Nat}(h:k<L*n)(hn:0<n):k / n<L/\k%n<n/\k / n*n+k%n=k:=by
 refine⟨Nat.div_lt_of_lt_mul (by rw[Nat.mul_comm];exact h),Nat.mod_lt _ hn,?_⟩;rw[Nat.mul_comm];exact Nat.div_add_mod k n
theorem ZqK {v:Value}{nn:Bool}{n:Nat}{xs:List PV}(hn:0<n)(hw:Le m w.mem)(h:bQ ρ m v (.pv (.aF nn n xs))):Jh m w v n xs:=by
 obtain⟨a,cap,ds,hv,l0,l1,l2,l3,l5,l6,l7⟩:=h.Ls;have hL:∀k,k<xs.length*n->∃u,(ds (k / n))[k%n]?=some u:=fun k hk=>by
  obtain⟨h1,h2,h3⟩:=Hz hk hn;obtain⟨k1,_,_⟩:=l6 _ _ (bC h1);exact⟨_,bC (by rw[k1];exact h2)⟩
 have kO:∀k u,((List.range (xs.length*n)).map fun k=>((ds (k / n))[k%n]?).getD undef)[k]?=some u->k<xs.length*n/\(ds (k / n))[k%n]?=some u:=fun k u hk=>by
  rw[bY]at hk;obtain⟨k',k1,k2⟩:=eB.1 hk;have aI:k<xs.length*n:=by have:=(cD.1 k1).1;simpa using this
  rw[List.getElem?_range aI]at k1;cases k1;obtain⟨u',Bl⟩:=hL k aI;rw[Bl]at k2;simp at k2;subst k2;exact⟨aI,Bl⟩
 refine⟨a,cap,(List.range (xs.length*n)).map fun k=>((ds (k / n))[k%n]?).getD undef,hv,⟨by simp,fun u hu=>?_,fun i x hi=>?_⟩,fun k u hk=>?_⟩
 .obtain⟨k,hk⟩:=iO.1 hu;obtain⟨aI,k1⟩:=kO k u hk;obtain⟨h1,_,_⟩:=Hz aI hn;exact(l6 _ _ (bC h1)).2.2 u (dL k1)
 .obtain⟨k1,k2,_⟩:=l6 i x hi;refine⟨k2,fun j c hj=>?_⟩;have sA:j<n:=by have:=(cD.1 hj).1;omega
  have yR:i<xs.length:=(cD.1 hi).1;have aI:i*n+j<xs.length*n:=by have:=W5 (n:=n) yR;omega
  have hdiv:(i*n+j) / n=i:=by rw[Nat.add_comm,Nat.add_mul_div_right _ _ hn,Nat.div_eq_of_lt sA,sF]
  have yP:(i*n+j)%n=j:=by rw[Nat.add_comm,Nat.add_mul_mod_self_right,Nat.mod_eq_of_lt sA]
  have hjd:j<(ds i).length:=by omega
  refine⟨(ds i)[j],?_,l7 i x j _ c hi (bC hjd) hj⟩;rw[bY,List.getElem?_range aI,vB,hdiv,yP,bC hjd];rfl
 .obtain⟨aI,k1⟩:=kO k u hk;obtain⟨h1,h2,h3⟩:=Hz aI hn;obtain⟨b,q,ha,k2⟩:=l5 _ _ (bC h1);refine⟨b,q,ha,?_⟩
  have:=hw _ _ _ (k2.get _ u k1)
  rwa [show q+k / n*n+k%n=q+k by omega]at this
theorem Gs {v:Value}{a:AV}{n:Nat}{xs:List PV}(hn:0<n)(hS:Sat N w0 m0 pl σ ρ m act w)(h:bQ ρ m v a)(hc:σ.cont a n=some xs):Jh m w v n xs:=by
 unfold AS.cont at hc;split at hc
 .split at hc
  .rename_i e;subst e;cases hc;exact ZqK hn hS.mem h
  .cases hc
 .cases hc;obtain⟨a,hv,_⟩:=h.XD;exact⟨a,0,[],hv,Flat.nil m n,fun k u hk=>by simp at hk⟩
 .rename_i s n' lo len;split at hc
  .rename_i e eW ys hb;split at hc
   .rename_i mD;obtain⟨rfl,rfl,hl⟩:=mD;cases hc;have hlen:((ys.drop lo).take len).length=len:=by rw[gM,uQ];omega
    rcases h.EX with⟨cap,hv,c0,c1,c2⟩|⟨a,hv,c0,_⟩
    .obtain⟨xN,hB|⟨hr,cs,g1,g2,g3,g4,g5⟩⟩:=hS.bx s _ hb
     .rw[hB.1]at c2;cases c2
     have dF:(ρ s).o+lo*eW+len*eW<=cs.size:=by
      have:(lo+len)*eW<=(ρ s).cap*eW:=I5 _ (by omega)
      rw[Nat.add_mul]at this;omega
     have el:∀i x,((ys.drop lo).take len)[i]?=some x->i<len/\ys[lo+i]?=some x:=fun i x hx=>by
      rw[mH]at hx;split at hx
      .rename_i hi;rw[mW]at hx;exact⟨hi,hx⟩
      .cases hx
     refine⟨some ⟨(ρ s).b,(ρ s).o+lo*eW,none⟩,cap,(cs.toList.drop ((ρ s).o+lo*eW)).take (len*eW),by rw[hlen];exact hv,⟨by rw[Iq dF,hlen],fun u hu=>?_,fun i x hi=>?_⟩,fun k u hk=>⟨_,_,rfl,?_⟩⟩
     .obtain⟨k,hk⟩:=iO.1 hu;rw[l8]at hk;split at hk
      .rename_i aI;obtain⟨h1,h2,h3⟩:=Hz aI hn;have hly:lo+k / eW<ys.length:=by omega
       obtain⟨q1,q2⟩:=g5 _ _ (bC hly);have Ut:k%eW<(ys[lo+k / eW]).cells.length:=by omega
       obtain⟨u',q3,q4,_⟩:=q2 _ _ (bC Ut);rw[show(ρ s).o+(lo+k / eW)*eW+k%eW=(ρ s).o+lo*eW+k by rw[Nat.add_mul];omega,hk]at q3;cases q3;exact q4
      .cases hk
     .obtain⟨yR,xQ⟩:=el i x hi;obtain⟨q1,q2⟩:=g5 _ x xQ;refine⟨q1,fun j c hj=>?_⟩;obtain⟨u,q3,_,q5⟩:=q2 j c hj;have sA:j<eW:=by have:=(cD.1 hj).1;omega
      have:=W5 (n:=eW) yR
      exact⟨u,by rw[l8,if_pos (by omega)];rw[<-q3];congr 1;rw[Nat.add_mul];omega,q5⟩
     .rw[l8]at hk;split at hk
      .simp[World.cell?,g1,hk]
      .cases hk
    .subst c0;exact⟨a,0,[],by rw[hlen];exact hv,by simpa using Flat.nil m eW,fun k u hk=>by simp at hk⟩
   .cases hc
  .cases hc
 .cases hc
theorem Zf9 {n:Nat}{xs:List PV}{a:Option Addr}{ds:List Value}(hf:Flat m ds n xs)(hc:∀(k:Nat) (u:Value),ds[k]?=some u->∃b o,a=some ⟨b,o,none⟩/\w.cell? ⟨b,o+k,none⟩=some u)(w':World)(hw:∀A,w'.cell? A=w.cell? A)(L:Nat)(hL:L=xs.length)(c cap:Nat):
  (Builtin.firstCells n L (.slice a c cap)).run P w'=.ok ds.toArray w':=by
 subst hL;cases a with
 |none=>
  have:ds=[]:=by
   cases ds with
   |nil=>rfl
   |cons u r=>obtain⟨b,o,e,_⟩:=hc 0 u rfl;cases e
  subst this;rfl
 |some A=>
  by_cases h0:ds=[]
  .subst h0;have hl:=hf.len;simp only[List.length_nil]at hl;simp only[Builtin.firstCells];rw[<-hl];rfl
  .have h1:0<ds.length:=List.length_pos_iff.2 h0;obtain⟨b,q,e,_⟩:=hc 0 _ (bC h1);cases e;refine run_firstCells_some w' n xs.length ⟨b,q,none⟩ c cap ds hf.len (fun j u hj=>?_);obtain⟨b',q',e',k⟩:=hc j u hj;cases e';rw[OV,hw];exact k
theorem ZgA {t ty e:TypeId}{i:TypeInfo}{z:Value}(ht:P.underlying t=some (.slice e))(hi:P.info? e=some i)(hz:i.zero=some z)(ba:Option Addr)(fJ dN:Nat)(a':Option Addr)(k c:Nat)(dW news:List Value)
  (ho:∀w',(∀A,w'.cell? A=w.cell? A)->(Builtin.firstCells i.size fJ (.slice ba fJ dN)).run P w'=.ok dW.toArray w') (hn:∀w',(∀A,w'.cell? A=w.cell? A)->(Builtin.firstCells i.size k (.slice a' k c)).run P w'=.ok news.toArray w')
  (hg:dN<fJ+k) (Ei:((fJ+k:Nat):Int)<=9223372036854775807) (dF:Builtin.nextslicecap (fJ+k) dN*i.bytes<=281474976710656):
  (Builtin.append_ #[t,t] ty #[.slice ba fJ dN,.slice a' k c]).run P w =
   .ok (.slice (some ⟨w.heap.size,0,none⟩) (fJ+k) (grownCap w (fJ+k) dN e)) (w.drew.alloc (.cells ((dW++news).toArray++Builtin.zeroCells z.cells (grownCap w (fJ+k) dN e-(fJ+k))) e)):=by
 have FT:¬(fJ+k<=dN):=by omega
 have SQ:¬(9223372036854775807<((fJ:Int)+(k:Int))):=by omega
 have SR:¬(281474976710656<Builtin.nextslicecap (fJ+k) dN*i.bytes):=by omega
 have f1:=ho w.drew (fun A=>rfl);have f2:=hn w.drew (fun A=>rfl);simp[Builtin.append_,run_underlying ht,sizeOf,typeInfo,zeroValue,hi,hz,Builtin.lenOf,FT,SQ,SR,Question.forced,f1,f2,newRow,grownCap];rw[<-List.append_toArray,Array.append_assoc]
theorem Zgz {t ty e:TypeId}{i:TypeInfo}(ht:P.underlying t=some (.slice e))(hi:P.info? e=some i)(g q fJ dN:Nat)(cur:Array Value)(hg:w.heap[g]?=some (.cells cur e (0,0)))(a':Option Addr)(k c:Nat)(news:List Value)
  (hn:(Builtin.firstCells i.size k (.slice a' k c)).run P w=.ok news.toArray w) (h1:∀u∈news,u.oneCell'=true) (eS:fJ+k<=dN) (dF:q+fJ*i.size+news.length<=cur.size):
  (Builtin.append_ #[t,t] ty #[.slice (some ⟨g,q,none⟩) fJ dN,.slice a' k c]).run P w=.ok (.slice (some ⟨g,q,none⟩) (fJ+k) dN) (w.setRow g (aR cur.toList (q+fJ*i.size) news).toArray):=by
 have bS:=run_storeCells_at P g (q+fJ*i.size) e news 0 cur w hg (by simpa using dF) h1;simp only[Nat.add_zero]at bS;simp[Builtin.append_,run_underlying ht,sizeOf,typeInfo,hi,Builtin.lenOf,eS,hn,OV,bS,aR]
end
section
variable {P:Program}{N:Nat}{w0:World}{m0:Env w0}{pl:List Nat}{σ:AS}{ρ:Site->Loc}{m:Mem}{act:Act}{w:World}{o:Oper}{d:Nat}{K:AV->AS->Prop}
theorem kT.of_flat {ρ:Site->Loc}{s:Site}{e n:Nat}{xs:List PV}{cs:Array Value}{ds:List Value}(hn:0<n)(hr:(ρ s).real=true)(hh:w.heap[(ρ s).b]?=some (.cells cs e (0,0)))(hc:(ρ s).o+(ρ s).cap*n<=cs.size)(hl:xs.length<=(ρ s).cap)(hm:(ρ s).cap<=maxLen)
  (hf:Flat m ds n xs) (hg:∀(k:Nat) (u:Value),ds[k]?=some u->cs[(ρ s).o+k]?=some u):kT ρ m w s (.arr e n xs):=by
 refine⟨hn,.inr ⟨hr,cs,hh,hc,hl,hm,fun i x hi=>?_⟩⟩;obtain⟨k1,k2⟩:=hf.get i x hi;refine⟨k1,fun j c hj=>?_⟩;obtain⟨u,k3,k4⟩:=k2 j c hj;exact⟨u,by rw[Nat.add_assoc];exact hg _ u k3,hf.one u (dL k3),k4⟩
theorem Sat.ZxD (h:Sat N w0 m0 pl σ ρ m act w){W:World}(hx:Ext w W){cs:Array Value}{e n cap:Nat}{xs:List PV}{ds:List Value}(hN:rG d σ)(hn:0<n)(hW:W.heap[w.heap.size]?=some (.cells cs e (0,0)))(hc:cap*n<=cs.size)(hl:xs.length<=cap)(hm:cap<=maxLen)
  (hf:Flat m ds n xs) (hg:∀(k:Nat) (u:Value),ds[k]?=some u->cs[k]?=some u):
  ∃bX,Sat N w0 m0 pl (σ.add (.loc d 0) (.arr e n xs)) bX m act W/\bQ bX m (.slice (some ⟨w.heap.size,0,none⟩) xs.length cap) (.vec (.loc d 0) n 0 xs.length):=by
 have hu:=S0 ρ (.loc d 0) ⟨w.heap.size,0,cap,true⟩;refine⟨iQ ρ (.loc d 0) ⟨w.heap.size,0,cap,true⟩,(h.ext hx).add hN (.of_flat hn (by rw[hu]) (by rw[hu];exact hW) (by rw[hu];simpa using hc) (by rw[hu];exact hl) (by rw[hu];exact hm) hf (by rw[hu];simpa using hg)) (fun _ s b k r=>?_) (fun _ o=>h.Ga (fH _) o) (fun _=>.inl h.keep.size),?_⟩
 .have:=h.G8 k (((h.bx s b k).dS (fun r=>hx.block _ (h.lt k r))).1 r)
  simp at this
 .have:=bQ.vec (ρ:=iQ ρ (.loc d 0) ⟨w.heap.size,0,cap,true⟩) (m:=m) (.loc d 0) n 0 xs.length cap hl (by rw[hu];simp) (by rw[hu])
  rw[hu]at this;simpa using this
theorem Sat.Zx6 (h:Sat N w0 m0 pl σ ρ m act w){e n:Nat}(hN:rG d σ)(hn:0<n){a:Option Addr}(ha:∀A,a=some A->KI A):
  ∃bX,Sat N w0 m0 pl (σ.add (.loc d 0) (.arr e n [])) bX m act w/\bQ bX m (.slice a 0 0) (.vec (.loc d 0) n 0 0):=by
 have hu:=S0 ρ (.loc d 0) ⟨0,0,0,false⟩;refine⟨iQ ρ (.loc d 0) ⟨0,0,0,false⟩,h.add hN ⟨hn,.inl ⟨by rw[hu],rfl,by rw[hu]⟩⟩ (fun e=>by cases e) (fun e=>by cases e) (fun e=>by cases e),.nG _ _ _ _ ha⟩
theorem Zcb (z:Array Value)(n:Nat):(Builtin.zeroCells z n).size=n*z.size:=by simp[Builtin.zeroCells]
theorem Zh5 {t:TypeId}{c:Call}{x y:Operand}(hc:c.callee=.builtin .append)(ha:c.args.toList=[x,y])(ht:c.argTypes.toList=[t,t])(ho:o.op=.call c){v:Value}{w':World}(h:(Builtin.append_ #[t,t] o.type #[act.eval x,act.eval y]).run P w=.ok v w'):
  (execOp act.eval o).run P w=.ok (.value v) w':=by
 have fY:c.args=#[x,y]:=xS.1 (by simpa using ha);have sZ:c.argTypes=#[t,t]:=xS.1 (by simpa using ht);unfold execOp;simp only[ho];simp[resolve,hc,fY,sZ,invoke,builtin,h]
theorem Sat.extend (hS:Sat N w0 m0 pl σ ρ m act w){s:Site}{e n k:Nat}{xs zs:List PV}{ds:List Value}(hb:σ.b s=some (.arr e n xs))(hr:(ρ s).real=true){cs:Array Value}(g1:w.heap[(ρ s).b]?=some (.cells cs e (0,0)))(hf:Flat m ds n zs)(hk:k<=xs.length)(hl:k+zs.length<=(ρ s).cap):
  (ρ s).o+k*n+ds.length<=cs.size/\Sat N w0 m0 pl (σ.set s (.arr e n (xs.take k++zs))) ρ m act (w.setRow (ρ s).b (aR cs.toList ((ρ s).o+k*n) ds).toArray):=by
 obtain⟨hn,hB|⟨_,iM,Em,g2,g3,g4,g5⟩⟩:=hS.bx s _ hb
 .rw[hB.1]at hr;cases hr
 rw[g1]at Em;cases Em;have gP:cs.toList.length=cs.size:=vC;have jX:(xs.take k).length=k:=by rw[gM];omega
 have dF:(ρ s).o+k*n+ds.length<=cs.size:=by
  have h1:(k+zs.length)*n<=(ρ s).cap*n:=I5 _ hl;rw[Nat.add_mul]at h1;rw[hf.len];omega
 refine⟨dF,hS.Fy hb hr (cY.setRow w _ _) ⟨hn,.inr ⟨hr,_,setRow_heap w _ cs _ e _ g1,?_,?_,g4,fun i x hi=>?_⟩⟩⟩
 .rw[zC,W0 (by rw[gP];exact dF),gP];exact g2
 .rw[gF,jX];exact hl
 .rw[zB,jX]at hi;split at hi
  .rename_i qX;rw[mH,if_pos qX]at hi;obtain⟨k1,k2⟩:=g5 i x hi;refine⟨k1,fun j c hj=>?_⟩;obtain⟨d,q1,q2,q3⟩:=k2 j c hj;refine⟨d,?_,q2,q3⟩;have sA:j<n:=by have:=(cD.1 hj).1;omega
   have:=W5 (n:=n) qX
   rw[I4,A5 (by rw[gP];exact dF),if_pos (by omega),O7];exact q1
  .rename_i qX;obtain⟨k1,k2⟩:=hf.get (i-k) x hi;refine⟨k1,fun j c hj=>?_⟩;obtain⟨u,q1,q2⟩:=k2 j c hj;have aI:=(cD.1 q1).1;have e1:i*n=k*n+(i-k)*n:=by rw[<-Nat.add_mul];congr 1;omega
   refine⟨u,?_,hf.one u (dL q1),q2⟩;rw[I4,A5 (by rw[gP];exact dF),if_neg (by omega),if_pos (by omega),<-q1];congr 1;omega
theorem ZlG {e n bytes:Nat}{i:TypeInfo}{zv:Value}{x:Operand}{x':bB}{ys:List PV}{yd:List Value}(hx:aU x=some x')(hb:i.bytes=bytes)(hn:0<n)(fI:i.size=n)(uE:zv.cells.size=n)(D6:Flat m yd n ys)
  (EG:∀(ba:Option Addr) (L dN:Nat) (od:List Value),act.eval x=.slice ba L dN->(∀w',(∀A,w'.cell? A=w.cell? A)->(Builtin.firstCells i.size L (.slice ba L dN)).run P w'=.ok od.toArray w')->dN<L+ys.length->((L+ys.length:Nat):Int)<=9223372036854775807->Builtin.nextslicecap (L+ys.length) dN*i.bytes<=281474976710656->
   (execOp act.eval o).run P w=.ok (.value (.slice (some ⟨w.heap.size,0,none⟩) (L+ys.length) (grownCap w (L+ys.length) dN e))) (w.drew.alloc (.cells ((od++yd).toArray++Builtin.zeroCells zv.cells (grownCap w (L+ys.length) dN e-(L+ys.length))) e)))
  (ER:∀(g q L dN:Nat) (cur:Array Value),act.eval x=.slice (some ⟨g,q,none⟩) L dN->w.heap[g]?=some (.cells cur e (0,0))->L+ys.length<=dN->q+L*i.size+yd.length<=cur.size->(execOp act.eval o).run P w=.ok (.value (.slice (some ⟨g,q,none⟩) (L+ys.length) dN)) (w.setRow g (aR cur.toList (q+L*i.size) yd).toArray))
  (E0:∀ba,act.eval x=.slice ba 0 0->ys=[]->(execOp act.eval o).run P w=.ok (.value (.slice ba 0 0)) w)
  (h:cC (.app e n bytes x' (.c (.aF false n ys))) d K σ) (hS:Sat N w0 m0 pl σ ρ m act w):G2 (∃nl,σ.o x'=.pv (.emp nl)) P N w0 m0 pl o act w K:=by
 have T2:σ.cont (σ.o (.c (.aF false n ys))) n=some ys:=by simp[AS.o,AS.cont]
 simp only[cC,T2]at h;have grow:∀(τ:AS) (ba:Option Addr) (xs:List PV) (dN:Nat) (od:List Value),Sat N w0 m0 pl τ ρ m act w->rG d τ->act.eval x=.slice ba xs.length dN->Flat m od n xs->(∀(k:Nat) (u:Value),od[k]?=some u->∃b o,ba=some ⟨b,o,none⟩/\w.cell? ⟨b,o+k,none⟩=some u)->
   dN<xs.length+ys.length->(xs.length+ys.length)*bytes<=140737488355328->xs.length+ys.length<=9223372036854775807->K (.vec (.loc d 0) n 0 (xs.length+ys.length)) (τ.add (.loc d 0) (.arr e n (xs++ys)))->G2 (∃nl,σ.o x'=.pv (.emp nl)) P N w0 m0 pl o act w K:=by
  intro τ ba xs dN od HY hN qC DC H3 aI Z4 c7 hK;have hmul:(xs.length+ys.length)*i.bytes<=140737488355328:=by rw[hb];exact Z4
  have dG:=EG ba xs.length dN od qC (fun w' hw=>by rw[fI];exact Zf9 DC H3 w' hw _ rfl _ dN) aI (by omega) (growslice_fits aI (by omega));have yT:=grownCap_ge w (xs.length+ys.length) dN e;have sB:=grownCap_le_maxLen w (xs.length+ys.length) dN e (by simp only[maxLen];omega);have hl:=DC.len;have rJ:=D6.len;obtain⟨bX,k1,k2⟩:=HY.ZxD (W:=w.drew.alloc (.cells ((od++yd).toArray++Builtin.zeroCells zv.cells (grownCap w (xs.length+ys.length) dN e-(xs.length+ys.length))) e)) ((Ext.dr w).trans' (Ext.al _ _)) hN hn (heap_alloc_new w.drew _) (cap:=grownCap w (xs.length+ys.length) dN e) (xs:=xs++ys) (ds:=od++yd) (by
    rw[Array.size_append,Zcb,uE,zC,gF,hl,rJ,<-Nat.add_mul,<-Nat.add_mul];exact I5 _ (by omega)) (by rw[gF];exact yT) sB (DC.app D6) (fun k u hk=>by
    rw[Array.getElem?_append,zC,if_pos (cD.1 hk).1,I4];exact hk)
  rw[gF]at k2;exact⟨_,_,_,_,bX,m,.inl dG,hK,k1,k2,fun _=>(Ext.dr w).trans' (Ext.al _ _)⟩
 have Am:∀(τ:AS) (ba:Option Addr),Sat N w0 m0 pl τ ρ m act w->rG d τ->act.eval x=.slice ba 0 0->(∀A,ba=some A->KI A)->ys=[]->K (.vec (.loc d 0) n 0 0) (τ.add (.loc d 0) (.arr e n []))->G2 (∃nl,σ.o x'=.pv (.emp nl)) P N w0 m0 pl o act w K:=by
  intro τ ba HY hN qC jP T2 hK;subst T2;obtain⟨bX,k1,k2⟩:=HY.Zx6 (e:=e) (a:=ba) hN hn jP;exact⟨_,_,_,_,bX,m,.inl (E0 ba qC rfl),hK,k1,k2,fun _=>Ext.tS _⟩
 have empty:∀(τ:AS) (ba:Option Addr),Sat N w0 m0 pl τ ρ m act w->rG d τ->act.eval x=.slice ba 0 0->(∀A,ba=some A->KI A)->ys.length*bytes<=140737488355328->ys.length<=9223372036854775807->K (.vec (.loc d 0) n 0 ys.length) (τ.add (.loc d 0) (.arr e n ys))->G2 (∃nl,σ.o x'=.pv (.emp nl)) P N w0 m0 pl o act w K:=by
  intro τ ba HY hN qC jP Z4 c7 hK;by_cases T2:ys=[]
  .refine Am τ ba HY hN qC jP T2 ?_;subst T2;exact hK
  .have:=List.length_pos_iff.2 T2
   exact grow τ ba [] 0 [] HY hN qC (Flat.nil m n) (fun k u hk=>by simp at hk) (by simpa using this) (by simpa using Z4) (by simpa using c7) (by simpa using hK)
 split at h
 .rename_i nl ex;obtain⟨h1,h2,hK⟩:=h;have tM:=hS.aU hx;rw[ex]at tM;obtain⟨ba,qC,jP⟩:=tM.XD;exact empty (σ.bG d) ba (hS.bG d) (rG.bG d σ) qC jP h1 h2 hK
 .rename_i s n' lo len ex;have tM:=hS.aU hx;split at h
  .rename_i e' eW xs uH;rcases h with⟨⟨rfl,rfl,rfl,lD⟩,Z4,c7,hK⟩|⟨⟨rfl,rfl,rfl,lD⟩,Z4,c7,hK,SM⟩
   case inr=>
    have nL:((xs.drop lo).take len).length=len:=by rw[gM,uQ];omega
    have Vw:σ.cont (.vec s eW lo len) eW=some ((xs.drop lo).take len):=by
     unfold AS.cont;simp only[uH,true_and];rw[if_pos lD]
    rw[ex]at tM;obtain⟨ba,bc,od,qC,DC,H3⟩:=Gs hn hS tM Vw;rcases tM.EX with⟨cap,rY,c0,c1,c2⟩|⟨a,rY,c0,jP⟩
    .rw[qC]at rY;injection rY with q1 q2 q3;subst q1;subst q3;by_cases eS:((xs.drop lo).take len).length+ys.length<=bc
     .obtain⟨xN,hB|⟨hr,cs,g1,g2,g3,g4,g5⟩⟩:=hS.bx s _ uH
      .rw[hB.1]at c2;cases c2
      obtain⟨NH,nA⟩:=hS.extend uH hr g1 D6 lD (by rw[nL]at eS;omega);have rJ:=D6.len;rw[Nat.add_mul,<-Nat.add_assoc]at NH nA;have dG:=ER (ρ s).b ((ρ s).o+lo*eW) ((xs.drop lo).take len).length bc cs qC g1 eS (by rw[fI,nL];exact NH);rw[fI,nL]at dG;exact⟨_,_,_,_,ρ,m,.inl dG,SM,nA,.vec s eW lo (len+ys.length) bc (by rw[<-nL];exact eS) c1 hr,fun hm=>by obtain⟨nl,hm⟩:=hm;rw[ex]at hm;cases hm⟩
     .exact grow _ _ ((xs.drop lo).take len) bc od (hS.bG d) (rG.bG d σ) qC DC H3 (by omega) (by rw[nL];exact Z4) (by rw[nL];exact c7) (by rw[nL];exact hK)
    .subst c0;rw[qC]at rY;have CQ:(xs.drop lo).take 0=[]:=List.take_zero;rw[CQ]at hK;simp only[sF,List.nil_append]at hK;exact empty _ a (hS.bG d) (rG.bG d σ) (by rw[qC,rY]) jP (by simpa using Z4) (by simpa using c7) hK
   have nL:(xs.drop lo).length=len:=by rw[uQ];omega
   have hD:=(hS.drop s).bG d;have hN:=rG.bG d (σ.drop s);have Vw:σ.cont (.vec s eW lo len) eW=some (xs.drop lo):=by
    unfold AS.cont;simp only[uH,true_and];rw[if_pos (by omega),fQ (by omega)]
   rw[ex]at tM;obtain⟨ba,bc,od,qC,DC,H3⟩:=Gs hn hS tM Vw;rcases tM.EX with⟨cap,rY,c0,c1,c2⟩|⟨a,rY,c0,jP⟩
   .rw[qC]at rY;injection rY with q1 q2 q3;subst q1;subst q3;by_cases eS:(xs.drop lo).length+ys.length<=bc
    ·
     obtain⟨xN,hB|⟨hr,cs,g1,g2,g3,g4,g5⟩⟩:=hS.bx s _ uH
     .rw[hB.1]at c2;cases c2
     have hl:=DC.len;rw[nL]at hl;have gP:cs.toList.length=cs.size:=vC;have rJ:=D6.len;have Dh:(ρ s).o+lo*eW+bc*eW<=cs.size:=by
      have:(lo+bc)*eW<=(ρ s).cap*eW:=I5 _ c1
      rw[Nat.add_mul]at this;omega
     have Tk:len*eW+ys.length*eW<=bc*eW:=by rw[<-Nat.add_mul,<-nL];exact I5 _ eS
     have dF:(ρ s).o+lo*eW+(xs.drop lo).length*i.size+yd.length<=cs.size:=by rw[fI,rJ,nL];omega
     have dG:=ER (ρ s).b ((ρ s).o+lo*eW) (xs.drop lo).length bc cs qC g1 eS dF;rw[fI,nL]at dG;have hq:(ρ s).o+lo*eW+len*eW+yd.length<=cs.toList.length:=by rw[gP,rJ];omega
     have hD2:=hD.write (k:=(ρ s).b) (w':=w.setRow (ρ s).b (aR cs.toList ((ρ s).o+lo*eW+len*eW) yd).toArray) (fun s' b' k r=>by
      rw[AS.OQ]at k;split at k
      .cases k
      .obtain⟨b2,k2,rfl⟩:=eB.1 k;rw[AS.KC]at k2;split at k2
       .cases k2
       .rename_i dA;exact dA (hS.eA s' s b2 _ _ k2 uH (KR.1 r) (xV hr))) (hS.off s _ uH hr) (hS.own s _ uH hr) (.inl ((hS.bx s _ uH).obj hr)) (cY.setRow w _ _)
     have CU:=S0 ρ (.loc d 0) ⟨(ρ s).b,(ρ s).o+lo*eW,bc,true⟩;have Uc:∀k u,od[k]?=some u->cs[(ρ s).o+lo*eW+k]?=some u:=fun k u hk=>by
      obtain⟨b,q,e1,e2⟩:=H3 k u hk;cases e1;simpa[World.cell?,g1]using e2
     have b9:=DC.app D6;refine⟨_,_,_,_,iQ ρ (.loc d 0) ⟨(ρ s).b,(ρ s).o+lo*eW,bc,true⟩,m,.inl dG,hK,?_,?_,fun hm=>by obtain⟨nl,hm⟩:=hm;rw[ex]at hm;cases hm⟩
     .refine hD2.add hN (.of_flat hn (by rw[CU]) (by rw[CU];exact setRow_heap w _ cs _ e' _ g1) ?_ (by rw[CU,gF];exact eS) (by rw[CU];show bc<=_;omega) b9 (fun k u hk=>?_)) (fun _ s' b' k r=>?_) (fun _=>hS.off s _ uH hr) (fun _=>hS.own s _ uH hr)
      .rw[CU,zC,W0 hq,gP];exact Dh
      .rw[CU,I4,A5 hq];dsimp only;rw[zB,hl]at hk;split at hk
       .rename_i iC;rw[if_pos (by omega),O7];exact Uc k u hk
       .rename_i iC;have sP:=(cD.1 hk).1;rw[if_neg (by omega),if_pos (by omega),<-hk];congr 1;omega
      .have r':=(hD.bx s' b' k).dS (w':=w.setRow (ρ s).b (aR cs.toList ((ρ s).o+lo*eW+len*eW) yd).toArray) (fun rr=>(cY.setRow w (ρ s).b _).block _ (hD.lt k rr) (by
        rw[sG];intro e;have k':=k;rw[AS.OQ]at k';split at k'
        .cases k'
        .obtain⟨b2,k2,rfl⟩:=eB.1 k';rw[AS.KC]at k2;split at k2
         .cases k2
         .rename_i dA;exact dA (hS.inj s' s b2 _ k2 uH rr hr e))) |>.1 r
       rw[AS.OQ]at k;split at k
       .cases k
       .obtain⟨b2,k2,rfl⟩:=eB.1 k;rw[AS.KC]at k2;split at k2
        .cases k2
        .rename_i dA;exact dA (hS.eA s' s b2 _ _ k2 uH (KR.1 r') (xV hr))
     .have:=bQ.vec (ρ:=iQ ρ (.loc d 0) ⟨(ρ s).b,(ρ s).o+lo*eW,bc,true⟩) (m:=m) (.loc d 0) eW 0 (len+ys.length) bc (by rw[<-nL];exact eS) (by rw[CU];simp) (by rw[CU])
      rw[CU]at this;simpa using this
    .exact grow _ _ (xs.drop lo) bc od hD hN qC DC H3 (by omega) (by rw[nL];exact Z4) (by rw[nL];exact c7) (by rw[nL];exact hK)
   .subst c0;rw[qC]at rY;have CQ:xs.drop lo=[]:=List.eq_nil_of_length_eq_zero nL;rw[CQ]at hK;simp only[sF,List.nil_append]at hK;exact empty _ a hD hN (by rw[qC,rY]) jP (by simpa using Z4) (by simpa using c7) hK
  .exact h.elim
 .exact h.elim
theorem ZmX {t e n bytes:Nat}{i:TypeInfo}{z:PV}{c:Call}{x y:Operand}{x' y':bB}(hx:aU x=some x')(hy:aU y=some y')(he:eI P t=some (e,n,none))(hz:sH P e=some z)(hi:P.info? e=some i)(hb:i.bytes=bytes)(hn:0<n)(QB:z.cells.length=n)
  (hc:c.callee=.builtin .append) (ha:c.args.toList=[x,y]) (ht:c.argTypes.toList=[t,t]) (ho:o.op=.call c) (h:cC (.app e n bytes x' y') d K σ) (hS:Sat N w0 m0 pl σ ρ m act w):G2 (∃nl,σ.o x'=.pv (.emp nl)) P N w0 m0 pl o act w K:=by
 obtain⟨hu,hs⟩:=LH he;obtain⟨i2,N5,fI⟩:=Ie hs;rw[hi]at N5;cases N5;unfold sH at hz;cases hv:gX P e with
 |none=>simp[hv]at hz
 |some zv=>
 simp only[hv,Option.bind_some]at hz;obtain⟨zi,K5,CO⟩:=Ii hv;rw[hi]at K5;cases K5;have uE:zv.cells.size=n:=by have:=(UM hz m).1;omega
 cases QD:σ.cont (σ.o y') n with
 |none=>simp[cC,QD]at h
 |some ys=>
 obtain⟨ya,yc,yd,CP,D6,IA⟩:=Gs hn hS (hS.aU hy) QD;have wF:∀w',(∀A,w'.cell? A=w.cell? A)->(Builtin.firstCells i.size ys.length (.slice ya ys.length yc)).run P w'=.ok yd.toArray w':=fun w' hw=>by
  rw[fI];exact Zf9 D6 IA w' hw _ rfl _ yc
 refine ZlG (e:=e) (d:=d) hx hb hn fI uE D6 (fun ba L dN od qC AH aI Ei hf=>Zh5 hc ha ht ho ?_) (fun g q L dN cur qC g1 hr hf=>Zh5 hc ha ht ho ?_) (fun ba qC T2=>Zh5 hc ha ht ho ?_) ?_ hS
 .rw[qC,CP];exact ZgA hu hi CO ba L dN ya ys.length yc od yd AH wF aI Ei hf
 .rw[qC,CP];exact Zgz hu hi g q L dN cur g1 ya ys.length yc yd (wF w (fun _=>rfl)) D6.one hr hf
 .subst T2;have hf:=wF w (fun _=>rfl);have Kf:yd=[]:=List.eq_nil_of_length_eq_zero (by have:=D6.len;simpa using this);subst Kf;rw[qC,CP];simp only[List.length_nil]at hf ⊢;cases ba<;>simp[Builtin.append_,run_underlying hu,sizeOf,typeInfo,hi,Builtin.lenOf,hf,storeCells]
 .have T2:σ.cont (σ.o (.c (.aF false n ys))) n=some ys:=by simp[AS.o,AS.cont]
  simp only[cC,QD,T2]at h ⊢;exact h
end
section
variable {G:World->Prop}{P:Program}{N:Nat}{w0:World}{m0:Env w0}{pl:List Nat}{σ:AS}{ρ:Site->Loc}{m:Mem}{act:Act}{w:World}{o:Oper}{d:Nat}{K:AV->AS->Prop}
theorem Zsy {t e n bytes:Nat}{i:TypeInfo}{z:PV}{l c:Operand}{l' c':bB}(hl:aU l=some l')(mD:aU c=some c')(he:eI P t=some (e,n,none))(hz:sH P e=some z)(hi:P.info? e=some i)(hb:i.bytes=bytes)(hn:0<n)(QB:z.cells.length=n)
  (ho:o.op=.makeSlice t l c) (h:cC (.VH e n bytes z l' c') d K σ) (hS:Sat N w0 m0 pl σ ρ m act w):oG P N w0 m0 pl o act w K:=by
 simp only[cC]at h;obtain⟨hu,hs⟩:=LH he;obtain⟨i2,N5,fI⟩:=Ie hs;rw[hi]at N5;cases N5;unfold sH at hz;cases hv:gX P e with
 |none=>simp[hv]at hz
 |some zv=>
 simp only[hv,Option.bind_some]at hz;obtain⟨zi,K5,CO⟩:=Ii hv;rw[hi]at K5;cases K5;obtain⟨z1,z2,z3⟩:=UM hz m;have uE:zv.cells.size=n:=by omega
 split at h
 .rename_i kl a kc b el ec;obtain⟨h0,h1,h2,h3,hK⟩:=h;have Ck:=hS.aU hl;have DP:=hS.aU mD;rw[el]at Ck;rw[ec]at DP;have We:(i.bytes:Int)*b<=1000*1000000:=Int.mul_le_mul (by omega) h2 (by omega) (by omega);have dG:=run_make (P:=P) w t e i zv hu hi CO kl kc a b h0 h1 (by omega) (by omega);rw[fI]at dG;have hr:(execOp act.eval o).run P w=.ok (.value (.slice (some ⟨w.heap.size,0,none⟩) a.toNat b.toNat)) (w.alloc (.cells (madeCells zv.cells (b.toNat*n)) e)):=by
   unfold execOp;simp only[ho,Ck.V7,DP.V7,Sem.run_bind,dG,Result.andThen_ok];rfl
  have kO:∀k,k<b.toNat*n->(madeCells zv.cells (b.toNat*n))[k]?=some (zv.cells[k%n]!):=fun k hk=>by
   simp only[madeCells,Array.getElem?_map,Array.getElem?_range,uE];rw[if_pos hk];rfl
  have hle:a.toNat*n<=b.toNat*n:=I5 _ (by omega);have N9:∀j,j<n->∃hj:j<zv.cells.size,zv.cells[j]! = zv.cells[j]:=fun j hj=>⟨by omega,getElem!_pos zv.cells j (by omega)⟩
  obtain⟨bX,k1,k2⟩:=(hS.bG d).ZxD (W:=w.alloc (.cells (madeCells zv.cells (b.toNat*n)) e)) (Ext.al _ _) (rG.bG d σ) hn (heap_alloc_new w _) (cap:=b.toNat) (xs:=List.replicate a.toNat z) (ds:=(List.range (a.toNat*n)).map fun k=>zv.cells[k%n]!) (by simp[madeCells]) (by simp;omega) (by simp only[maxLen];omega)
   ⟨by simp,fun u hu=>by
    obtain⟨k,_,rfl⟩:=iN.1 hu;obtain⟨hj,e1⟩:=N9 (k%n) (Nat.mod_lt _ hn);rw[e1];exact z2 _ (Array.getElem_mem hj),fun i x hx=>by
    rw[List.getElem?_replicate]at hx;split at hx
    .rename_i Vj;cases hx;refine⟨QB,fun j c hj=>?_⟩;have sA:j<n:=by have:=(cD.1 hj).1;omega
     obtain⟨b8,e1⟩:=N9 j sA;have yP:(i*n+j)%n=j:=by rw[Nat.add_comm,Nat.add_mul_mod_self_right,Nat.mod_eq_of_lt sA]
     have:=W5 (n:=n) Vj
     refine⟨zv.cells[j],?_,z3 j _ c (vA b8) hj⟩;rw[bY,List.getElem?_range (by omega),vB,yP,e1]
    .cases hx⟩ (fun k u hk=>by
    rw[bY]at hk;obtain⟨k',e1,rfl⟩:=eB.1 hk;have aI:k<a.toNat*n:=by have:=(cD.1 e1).1;simpa using this
    rw[List.getElem?_range aI]at e1;cases e1;exact kO k (by omega))
  rw[List.length_replicate]at k2;exact⟨_,_,_,_,bX,m,.inl hr,hK,k1,k2,fun _=>Ext.al _ _⟩
 .exact h.elim
theorem XN {x:Option Operand}{x':Option bB}(hx:(x=none/\x'=none)\/∃a a',x=some a/\x'=some a'/\aU a=some a')(hS:Sat N w0 m0 pl σ ρ m act w){z l:Int}(h:σ.ob x' z=some l):(x=none/\l=z)\/∃a k,x=some a/\act.eval a=.int k l:=by
 rcases hx with⟨rfl,rfl⟩|⟨a,a',rfl,rfl,ha⟩
 .simp[AS.ob]at h;exact .inl ⟨rfl,h.symm⟩
 .simp only[AS.ob]at h;split at h
  .rename_i k b e;cases h
   have:=hS.aU ha
   rw[e]at this;exact .inr ⟨a,k,rfl,this.V7⟩
  .cases h
theorem ZmQ {t e n:Nat}{x:Operand}{x':bB}{lo hi:Option Operand}{VJ xQ:Option bB}(hx:aU x=some x')(he:eI P t=some (e,n,none))(lD:(lo=none/\VJ=none)\/∃a a',lo=some a/\VJ=some a'/\aU a=some a')(Cv:(hi=none/\xQ=none)\/∃a a',hi=some a/\xQ=some a'/\aU a=some a')
  (ho:o.op=.slice t x lo hi none) (h:cC (.J4 n none x' VJ xQ none) d K σ) (hS:Sat N w0 m0 pl σ ρ m act w):dB G P σ ρ m o act w K:=by
 simp only[cC]at h;obtain⟨hu,hs⟩:=LH he;have h1:=hS.aU hx;have run:∀(a:Option Addr) (len cap:Nat) (l h:Int),act.eval x=.slice a len cap->((lo=none/\l=0)\/∃b k,lo=some b/\act.eval b=.int k l)->((hi=none/\h=len)\/∃b k,hi=some b/\act.eval b=.int k h)->0<=l->l<=h->h<=len->len<=cap->
   ∀w',G w'->(execOp act.eval o).run P w'=.ok (.value (.slice (if cap=l.toNat then a else a.map (·.add (l.toNat*n))) (h.toNat-l.toNat) (cap-l.toNat))) w':=by
  intro a len cap l h e el eh l0 l1 l2 l3;intro w' bS;unfold execOp;simp only[ho,e,Sem.run_bind];have hh:h<=cap:=by omega
  rcases el with⟨rfl,rfl⟩|⟨b,k,rfl,eb⟩<;>rcases eh with⟨rfl,rfl⟩|⟨b2,k2,rfl,Es⟩
  .simp[Instr.sliceAt,run_underlying hu,Instr.slice,Instr.sliceBounds,run_sizeOf hs]
  .have h0:0<=h:=by omega
   simp[Instr.sliceAt,run_underlying hu,Instr.slice,Instr.sliceBounds,run_sizeOf hs,Es,Instr.sliceBound,asIntOf,hh,h0]
  .have h0:l<=(len:Int):=l1;simp[Instr.sliceAt,run_underlying hu,Instr.slice,Instr.sliceBounds,run_sizeOf hs,eb,Instr.sliceBound,asIntOf,l0,h0]
  .have h0:0<=h:=by omega
   have h4:l<=(h.toNat:Int):=by omega
   simp[Instr.sliceAt,run_underlying hu,Instr.slice,Instr.sliceBounds,run_sizeOf hs,eb,Es,Instr.sliceBound,asIntOf,l0,h0,hh];intro h5;omega
 split at h
 .rename_i l hl;have el:=XN lD hS hl;split at h
  .rename_i nn n' xs ex;rw[ex]at h1;obtain⟨a,cap,ds,hv,q0,q1,q2,q3,q5,q6,q7⟩:=h1.Ls;split at h
   .rename_i hh Cw;obtain⟨l0,l1,l2,rfl,hK⟩:=h;have eh:=XN Cv hS Cw;have hr:=run a xs.length cap l hh hv el eh l0 l1 l2 q0;have hlen:((xs.take hh.toNat).drop l.toNat).length=hh.toNat-l.toNat:=by rw[uQ,gM];omega
    have get:∀i x,((xs.take hh.toNat).drop l.toNat)[i]?=some x->xs[l.toNat+i]?=some x:=fun i x hx=>by
     rw[mW,mH]at hx;split at hx
     .exact hx
     .cases hx
    refine .pure hS hr ?_ hK;rw[<-hlen];refine .pv _ _ (.aF _ _ nn n' _ (fun i=>ds (l.toNat+i)) (by rw[hlen];omega) (by omega) (fun e=>?_) (fun A hA=>?_) (fun e=>?_) (fun i x hx=>?_) (fun i x hx=>q6 _ x (get i x hx)) (fun i x j u c hx=>q7 _ x j u c (get i x hx)))
    .have:a=none:=by
      split at e
      .exact e
      .simpa using e
     have:=q2 this;omega
    .rfl
    .have dA:a≠none:=by
      subst e;exact h1.ZxX hv
     split
     .exact dA
     .cases a with
      |none=>exact absurd rfl dA
      |some B=>simp
    .have rX:=get i x hx;obtain⟨b,q,ha,k1⟩:=q5 _ x rX;have aI:=(cD.1 rX).1;refine⟨b,q+l.toNat*n',?_,?_⟩
     .rw[if_neg (by omega),ha,vB,OV]
     .rwa [show q+l.toNat*n'+i*n'=q+(l.toNat+i)*n' by rw[Nat.add_mul];omega]
   .exact h.elim
  .rename_i nl ex;rw[ex]at h1;split at h
   .rename_i hh Cw;obtain⟨rfl,rfl,hK⟩:=h;obtain⟨a,hv,_⟩:=h1.XD;have eh:=XN Cv hS Cw;have hr:=run a 0 0 0 0 hv el eh (by omega) (by omega) (by omega) (by omega);refine .pure hS hr ?_ hK;simp only[Int.toNat_zero,if_true];rw[hv]at h1;exact h1
   .exact h.elim
  .rename_i s n' AE len ex;rw[ex]at h1;split at h
   .rename_i hh Cw;obtain⟨l0,l1,l2,rfl,hK⟩:=h;have eh:=XN Cv hS Cw;rcases h1.EX with⟨cap,hv,c0,c1,c2⟩|⟨a,hv,c0,jP⟩
    .have hr:=run _ len cap l hh hv el eh l0 l1 l2 c0;refine .pure hS hr ?_ hK;split
     .rename_i hc;have e1:hh.toNat-l.toNat=0:=by omega
      have e2:cap-l.toNat=0:=by omega
      rw[e1,e2];exact .nG _ _ _ _ (fun A hA=>by cases hA;rfl)
     .simp only[vB,OV]
      have:=bQ.vec (ρ:=ρ) (m:=m) s n' (AE+l.toNat) (hh.toNat-l.toNat) (cap-l.toNat) (by omega) (by omega) c2
      rwa [show(ρ s).o+(AE+l.toNat)*n'=(ρ s).o+AE*n'+l.toNat*n' by rw[Nat.add_mul];omega]at this
    .subst c0;have AJ:l=0:=by omega
     have hh0:hh=0:=by omega
     subst AJ hh0;have hr:=run a 0 0 0 0 hv el eh (by omega) (by omega) (by omega) (by omega);refine .pure hS hr ?_ hK;simp only[Int.toNat_zero,if_true];exact .nG _ _ _ _ jP
   .exact h.elim
  .exact h.elim
 .exact h.elim
end
def qO:PV->Value
 |.int k n=>.int k n
 |.bool b=>.bool b
 |.str s=>.string s
 |_=>undef
def lJ (wide:Bool)(l:List PV):Value:=if wide=true then .agg (l.map qO).toArray else qO (l.headD .eX)
theorem ZrI {m:Mem}{v:Value}{x:PV}{k:CK}(hx:k.ok x=true)(h:dH m v x):v=qO x:=by
 cases h<;>cases k<;>first|rfl|(simp[CK.ok]at hx)
theorem Ij:∀{ks:List CK} {cs:List PV},bW ks cs=true->ks.length=cs.length
 |[],[],_=>rfl
 |[],_::_,h=>by simp[bW]at h
 |_::_,[],h=>by simp[bW]at h
 |k::ks,c::cs,h=>by
  simp only[bW,dK]at h;simp[Ij h.2]
theorem Iy:∀{ks:List CK} {cs:List PV} {j:Nat} {c:PV},bW ks cs=true->cs[j]?=some c->∃k:CK,k.ok c=true
 |[],[],j,c,_,h=>by simp at h
 |[],_::_,j,c,h,_=>by simp[bW]at h
 |_::_,[],j,c,h,_=>by simp[bW]at h
 |k::ks,x::cs,j,c,h,hj=>by
  simp only[bW,dK]at h;cases j with
  |zero=>simp at hj;subst hj;exact⟨k,h.1⟩
  |succ j=>exact Iy h.2 (by simpa using hj)
theorem UK:∀{a b:List CK} {cs:List PV},bW (a++b) cs=true->bW a (cs.take a.length)=true/\bW b (cs.drop a.length)=true
 |[],b,cs,h=>by simpa[bW]using h
 |k::a,b,[],h=>by simp[bW]at h
 |k::a,b,c::cs,h=>by
  simp only[List.cons_append,bW,dK]at h;obtain⟨h1,h2⟩:=UK h.2;simp[bW,h.1,h1,h2]
theorem I9 {k:CK}{l:List PV}(h:bW [k] l=true):∃x,l=[x]/\k.ok x=true:=by
 match l with
 |[]=>simp[bW]at h
 |[x]=>simp[bW]at h;exact⟨x,rfl,h⟩
 |_::_::_=>simp[bW]at h
theorem OT {x:PV}(h:CK.bool.ok x=true):∃b,x=.bool b:=by cases x<;>simp[CK.ok]at h;exact⟨_,rfl⟩
theorem OR {k:IntKind}{x:PV}(h:(CK.int k).ok x=true):∃n,x=.int k n:=by cases x<;>simp[CK.ok]at h;subst h;exact⟨_,rfl⟩
theorem GM {x:PV}(h:CK.str.ok x=true):∃s,x=.str s:=by cases x<;>simp[CK.ok]at h;exact⟨_,rfl⟩
theorem ZjP:∀{a b c d:List PV},a.length=b.length->lT (a++c) (b++d)=(lT a b&&lT c d)
 |[],[],c,d,_=>by simp[lT]
 |[],_::_,c,d,h=>by simp at h
 |_::_,[],c,d,h=>by simp at h
 |x::a,y::b,c,d,h=>by
  simp only[List.cons_append,lT];rw[ZjP (by simpa using h),Bool.and_assoc]
theorem Zva {k:CK}{x y:PV}(hx:k.ok x=true)(hy:k.ok y=true)(h:wR x y=true):x=y:=by
 cases k with
 |int k=>obtain⟨a,rfl⟩:=OR hx;obtain⟨b,rfl⟩:=OR hy;simp[wR]at h;rw[h]
 |bool=>obtain⟨a,rfl⟩:=OT hx;obtain⟨b,rfl⟩:=OT hy;simp[wR]at h;rw[h]
 |str=>
  obtain⟨a,rfl⟩:=GM hx;obtain⟨b,rfl⟩:=GM hy;have h':a.toList=b.toList:=by simpa[wR]using h
  rw[ByteArray.toList_eq,ByteArray.toList_eq]at h';obtain⟨x⟩:=a;obtain⟨y⟩:=b;have e:x=y:=xS.1 h';rw[e]
theorem ZrS:∀{ks:List CK} {l l':List PV},bW ks l=true->bW ks l'=true->lT l l'=true->l=l'
 |[],[],[],_,_,_=>rfl
 |[],_::_,_,h,_,_=>by simp[bW]at h
 |[],[],_::_,_,h,_=>by simp[bW]at h
 |_::_,[],_,h,_,_=>by simp[bW]at h
 |_::_,_::_,[],_,h,_=>by simp[bW]at h
 |k::ks,x::l,y::l',h1,h2,h=>by
  simp only[bW,lT,dK]at h1 h2 h;rw[Zva h1.1 h2.1 h.1,ZrS h1.2 h2.2 h.2]
theorem Gl {m:Mem}{v:Value}{x:PV}{kt:KT}(hk:kt.ok x=true)(h:dH m v x):v=lJ kt.wide x.cells/\bW kt.ks x.cells=true:=by
 cases h
 case agg vs cs h0 h1 h2=>
  simp only[KT.ok,dK]at hk;refine⟨?_,hk.2⟩;simp only[lJ,hk.1,if_true,PV.cells];congr 1;refine Array.ext_getElem? (fun j=>?_);rw[show(List.map qO cs).toArray[j]?=(List.map qO cs)[j]? from I4 ..,bY];cases hc:cs[j]? with
  |none=>rw[Array.getElem?_eq_none (by rw[h0];exact List.getElem?_eq_none_iff.1 hc)];rfl
  |some c=>
   have hj:j<vs.size:=by rw[h0];exact(cD.1 hc).1
   obtain⟨k,sP⟩:=Iy hk.2 hc;rw[vA hj,vB,ZrI sP (h2 j _ c (vA hj) hc)]
 all_goals
  simp only[KT.ok,dK,Bool.not_eq_true']at hk;obtain⟨hw,hc⟩:=hk;refine⟨?_,hc⟩;simp only[lJ,hw,Bool.false_eq_true,if_false,PV.cells,List.headD_cons];obtain⟨k,sP⟩:=Iy hc (j:=0) rfl;exact ZrI (m:=m) sP (by first|exact .int _ _|exact .bool _|exact .str _|(cases k<;>simp[CK.ok]at sP))
def TC (g:TypeId->Option KT)(sz:TypeId->Nat):Nat->List Field->Option (List CK)
 |_,[]=>some []
 |o,f::r=>match g f.type,TC g sz (o+sz f.type) r with
  | some kf, some l => if f.offset = o /\ sz f.type = kf.ks.length /\ f.name ≠ "_" then some (kf.ks ++ l) else none
  |_,_=>none
def pV (P:Program):Nat->TypeId->Option KT
 |0,_=>none
 |d+1,t=>match P.underlying t with
  |some .bool=>some ⟨false,[.bool]⟩
  |some (.int k)=>some ⟨false,[.int k]⟩
  |some .string=>some ⟨false,[.str]⟩
  |some (.array n e)=>match pV P d e with
   |some ke=>if P.cellsOf e=ke.ks.length then some ⟨true,(List.replicate n ke.ks).flatten⟩else none
   |none=>none
  |some (.struct fs)=>if P.stoodInHeld t=false then(TC (pV P d) P.cellsOf 0 fs.toList).map (⟨true,·⟩)else none
  |_=>none
section
variable {P:Program}{w:World}
theorem Oq {d:Nat}{t:TypeId}{kt:KT}(h:pV P d t=some kt):∃i,P.info? t=some i:=by
 cases d with
 |zero=>simp[pV]at h
 |succ d=>
  cases hu:P.underlying t with
  |none=>simp[pV,hu]at h
  |some dd=>exact info_of_underlying hu
theorem YK {d:Nat}{e:TypeId}{ke:KT}(hk:pV P d e=some ke)(hs:P.cellsOf e=ke.ks.length){l:List PV}{off:Nat}(hl:bW ke.ks ((l.drop off).take ke.ks.length)=true)(w:World):
  (part e (l.map qO).toArray off).run P w=.ok (lJ ke.wide ((l.drop off).take ke.ks.length)) w:=by
 obtain⟨i,hi⟩:=Oq hk;cases d with
 |zero=>simp[pV]at hk
 |succ d=>
  have plain:∀{k:CK} {dd:TypeDesc},P.underlying e=some dd->ke=⟨false,[k]⟩->(dd=.bool\/dd=.string\/∃q,dd=.int q)->(part e (l.map qO).toArray off).run P w=.ok (lJ ke.wide ((l.drop off).take ke.ks.length)) w:=by
   intro k dd hu e1 JC;subst e1;obtain⟨x,hx,_⟩:=I9 hl;have kO:l[off]?=some x:=by
    have:((l.drop off).take 1)[0]?=some x:=by simp only[List.length_singleton]at hx;rw[hx];rfl
    rw[mH,if_pos (by omega),mW]at this;simpa using this
   have Cz:(l.map qO).toArray[off]?=some (qO x):=by rw[I4,bY,kO];rfl
   rw[hx];rcases JC with rfl|rfl|⟨q,rfl⟩<;>simp[part,isAgg,run_underlying hu,Cz,lJ]<;>simp[kO]
  have wide:ke.wide=true->(∃n e',P.underlying e=some (.array n e'))\/(∃fs,P.underlying e=some (.struct fs))->(part e (l.map qO).toArray off).run P w=.ok (lJ ke.wide ((l.drop off).take ke.ks.length)) w:=by
   intro hw hu;have hv:(l.map qO).toArray.extract off (off+P.cellsOf e)=(((l.drop off).take ke.ks.length).map qO).toArray:=by
    apply xS.1;rw[Array.toList_extract,hs];simp[List.extract,List.map_drop,List.map_take]
   simp only[lJ,hw,if_true];rcases hu with⟨n,e',hu⟩|⟨fs,hu⟩<;>simp only[part,isAgg,Sem.run_bind,run_underlying hu,Result.andThen_ok,Sem.run_pure,if_true,Go.run_sizeOf w hi,hv]
  unfold pV at hk;split at hk
  .rename_i hu;cases hk;exact plain hu rfl (.inl rfl)
  .rename_i k hu;cases hk;exact plain hu rfl (.inr (.inr ⟨k,rfl⟩))
  .rename_i hu;cases hk;exact plain hu rfl (.inr (.inl rfl))
  .rename_i n e' hu;split at hk
   .split at hk
    .cases hk;exact wide rfl (.inl ⟨n,e',hu⟩)
    .cases hk
   .cases hk
  .rename_i fs hu;split at hk
   .obtain⟨ks,_,rfl⟩:=eB.1 hk;exact wide rfl (.inr ⟨fs,hu⟩)
   .cases hk
  .cases hk
theorem Nq {l:List PV}(h:bW [] l=true):l=[]:=by cases l with
 |nil=>rfl
 |cons=>simp[bW]at h
theorem ZeP {d dd:Nat}{e:TypeId}{ke:KT}(hk:pV P d e=some ke)(hs:P.cellsOf e=ke.ks.length)
  (IH:∀l l',bW ke.ks l=true->bW ke.ks l'=true->∀w,(Op.equalIn dd e (lJ ke.wide l) (lJ ke.wide l')).run P w=.ok (lT l l') w) (L L':List PV) (w:World):
  ∀(n i:Nat),bW (List.replicate n ke.ks).flatten (L.drop (i*ke.ks.length))=true->bW (List.replicate n ke.ks).flatten (L'.drop (i*ke.ks.length))=true->
   (Op.eqItems dd e (P.cellsOf e) (L.map qO).toArray (L'.map qO).toArray (List.range' i n)).run P w=.ok (lT (L.drop (i*ke.ks.length)) (L'.drop (i*ke.ks.length))) w
 |0,i,h1,h2=>by
  rw[Nq h1,Nq h2];simp[Op.eqItems,lT]
 |n+1,i,h1,h2=>by
  simp only[List.replicate_succ,List.flatten_cons]at h1 h2;obtain⟨a1,a2⟩:=UK h1;obtain⟨b1,b2⟩:=UK h2;have e1:i*ke.ks.length+ke.ks.length=(i+1)*ke.ks.length:=by rw[Nat.add_mul];omega
  rw[List.drop_drop,e1]at a2 b2;have hr:=ZeP hk hs IH L L' w n (i+1) a2 b2;have la:=Ij a1;have lb:=Ij b1;have jP:lT (L.drop (i*ke.ks.length)) (L'.drop (i*ke.ks.length))=(lT ((L.drop (i*ke.ks.length)).take ke.ks.length) ((L'.drop (i*ke.ks.length)).take ke.ks.length)&&lT (L.drop ((i+1)*ke.ks.length)) (L'.drop ((i+1)*ke.ks.length))):=by
   rw[<-ZjP (by omega)];rw[<-e1,<-List.drop_drop,<-List.drop_drop,List.take_append_drop,List.take_append_drop]
  rw[jP];rw[hs]at hr ⊢;simp only[List.range'_succ,Op.eqItems,Sem.run_bind,YK hk hs a1,YK hk hs b1,IH _ _ a1 b1,Result.andThen_ok];cases lT ((L.drop (i*ke.ks.length)).take ke.ks.length) ((L'.drop (i*ke.ks.length)).take ke.ks.length)
  .simp
  .simpa using hr
theorem ZdL {d dd:Nat}(IH:∀(e:TypeId) (ke:KT),pV P d e=some ke->∀l l',bW ke.ks l=true->bW ke.ks l'=true->∀w,(Op.equalIn dd e (lJ ke.wide l) (lJ ke.wide l')).run P w=.ok (lT l l') w)(L L':List PV)(w:World):
  ∀(fs:List Field) (o:Nat) (ks:List CK),TC (pV P d) P.cellsOf o fs=some ks->bW ks (L.drop o)=true->bW ks (L'.drop o)=true->
   (Op.eqFields dd (L.map qO).toArray (L'.map qO).toArray fs).run P w=.ok (lT (L.drop o) (L'.drop o)) w
 |[],o,ks,h,h1,h2=>by
  simp[TC]at h;subst h;rw[Nq h1,Nq h2];simp[Op.eqFields,lT]
 |f::fs,o,ks,h,h1,h2=>by
  unfold TC at h;split at h
  .rename_i kf l hk FR;split at h
   .rename_i hc;obtain⟨c1,c2,c3⟩:=hc;cases h;obtain⟨a1,a2⟩:=UK h1;obtain⟨b1,b2⟩:=UK h2;rw[List.drop_drop,<-c2]at a2 b2;have hr:=ZdL IH L L' w fs _ l FR a2 b2;have la:=Ij a1;have lb:=Ij b1;have jP:lT (L.drop o) (L'.drop o)=(lT ((L.drop o).take kf.ks.length) ((L'.drop o).take kf.ks.length)&&lT (L.drop (o+P.cellsOf f.type)) (L'.drop (o+P.cellsOf f.type))):=by
     rw[<-ZjP (by omega)];rw[c2,<-List.drop_drop,<-List.drop_drop,List.take_append_drop,List.take_append_drop]
    rw[jP];have p1:=YK hk c2 a1 w;have p2:=YK hk c2 b1 w;rw[<-c1]at p1 p2 a1 b1 ⊢;simp only[Op.eqFields,c3,ne_eq,not_false_eq_true,if_true,Sem.run_bind,p1,p2,IH _ _ hk _ _ a1 b1,Result.andThen_ok];rw[<-c1]at hr;cases lT ((L.drop f.offset).take kf.ks.length) ((L'.drop f.offset).take kf.ks.length)
    .simp
    .simpa using hr
   .cases h
  .cases h
theorem Pu:∀(d:Nat) (t:TypeId) (kt:KT),pV P d t=some kt->∀(e:Nat),d<=e->∀(l l':List PV),bW kt.ks l=true->bW kt.ks l'=true->∀w,(Op.equalIn e t (lJ kt.wide l) (lJ kt.wide l')).run P w=.ok (lT l l') w
 |0,t,kt,h,e,he,l,l',hl,lL,w=>by simp[pV]at h
 |d+1,t,kt,h,e,he,l,l',hl,lL,w=>by
  obtain⟨e',rfl⟩:∃e',e=e'+1:=⟨e-1,by omega⟩;unfold pV at h;split at h
  .rename_i hu;cases h;obtain⟨x,rfl,hx⟩:=I9 hl;obtain⟨y,rfl,hy⟩:=I9 lL;obtain⟨a,rfl⟩:=OT hx;obtain⟨b,rfl⟩:=OT hy
   have:=run_equalIn_bool w e' t a b hu
   simpa[lJ,qO,lT,wR]using this
  .rename_i k hu;cases h;obtain⟨x,rfl,hx⟩:=I9 hl;obtain⟨y,rfl,hy⟩:=I9 lL;obtain⟨a,rfl⟩:=OR hx;obtain⟨b,rfl⟩:=OR hy
   have:=run_equalIn_int w e' t k k a b hu
   simpa[lJ,qO,lT,wR]using this
  .rename_i hu;cases h;obtain⟨x,rfl,hx⟩:=I9 hl;obtain⟨y,rfl,hy⟩:=I9 lL;obtain⟨a,rfl⟩:=GM hx;obtain⟨b,rfl⟩:=GM hy
   have:=run_equalIn_string w e' t a b hu
   simpa[lJ,qO,lT,wR]using this
  .rename_i n e0 hu;split at h
   .rename_i ke hk;split at h
    .rename_i hs;cases h;obtain⟨i,hi⟩:=Oq hk;simp only[lJ,if_true];rw[run_equalIn_array w e' _ _ hu hi,List.range_eq_range']
     have:=ZeP hk hs (Pu d e0 ke hk e' (by omega)) l l' w n 0 (by simpa using hl) (by simpa using lL)
     simpa using this
    .cases h
   .cases h
  .rename_i fs hu;split at h
   .rename_i bS;obtain⟨ks,hf,rfl⟩:=eB.1 h;have Db:P.fieldsOf t=fs:=by simp[Program.fieldsOf,hu]
    simp only[lJ,if_true];rw[run_equalIn_struct w e' t _ _ (by rw[Db];exact hu) bS,Db]
    have:=ZdL (dd:=e') (fun e0 ke hk=>Pu d e0 ke hk e' (by omega)) l l' w fs.toList 0 ks hf (by simpa using hl) (by simpa using lL)
    simpa using this
   .cases h
  .cases h
theorem Zg2 {ks:List CK}:∀(n:Nat) (l:List PV),bW (List.replicate n ks).flatten l=true->∀j,j<n->bW ks ((l.drop (j*ks.length)).take ks.length)=true
 |0,l,h,j,hj=>by omega
 |n+1,l,h,j,hj=>by
  simp only[List.replicate_succ,List.flatten_cons]at h;obtain⟨a1,a2⟩:=UK h;cases j with
  |zero=>simpa using a1
  |succ j=>
   have:=Zg2 n _ a2 j (by omega)
   rwa [List.drop_drop,show ks.length+j*ks.length=(j+1)*ks.length by rw[Nat.add_mul];omega]at this
theorem Zlr (d:Nat)(l:List PV):∀(fs:List Field) (o:Nat) (ks:List CK),TC (pV P d) P.cellsOf o fs=some ks->bW ks (l.drop o)=true->
  ∀ f ∈ fs, ∃ kf, pV P d f.type = some kf /\ P.cellsOf f.type = kf.ks.length /\ f.name ≠ "_" /\ bW kf.ks ((l.drop f.offset).take kf.ks.length) = true
 |[],o,ks,h,h1,f,hf=>by cases hf
 |g::fs,o,ks,h,h1,f,hf=>by
  unfold TC at h;split at h
  .rename_i kf l0 hk FR;split at h
   .rename_i hc;obtain⟨c1,c2,c3⟩:=hc;cases h;obtain⟨a1,a2⟩:=UK h1;rw[List.drop_drop,<-c2]at a2;rcases jT.1 hf with rfl|hf
    .exact⟨kf,hk,c2,c3,by rw[c1];exact a1⟩
    .exact Zlr d l fs _ _ FR a2 f hf
   .cases h
  .cases h
theorem YU (em:Bool):∀(d:Nat) (t:TypeId) (kt:KT),pV P d t=some kt->∀(e:Nat),d<=e->∀(l:List PV),bW kt.ks l=true->∀w,(Instr.checkKey em e t (lJ kt.wide l)).run P w=.ok () w
 |0,t,kt,h,e,he,l,hl,w=>by simp[pV]at h
 |d+1,t,kt,h,e,he,l,hl,w=>by
  obtain⟨e',rfl⟩:∃e',e=e'+1:=⟨e-1,by omega⟩;unfold pV at h;split at h
  .rename_i hu;cases h;obtain⟨x,rfl,hx⟩:=I9 hl;obtain⟨a,rfl⟩:=OT hx;simp[lJ,qO,Instr.checkKey,run_underlying hu]
  .rename_i k hu;cases h;obtain⟨x,rfl,hx⟩:=I9 hl;obtain⟨a,rfl⟩:=OR hx;simp[lJ,qO,Instr.checkKey,run_underlying hu]
  .rename_i hu;cases h;obtain⟨x,rfl,hx⟩:=I9 hl;obtain⟨a,rfl⟩:=GM hx;simp[lJ,qO,Instr.checkKey,run_underlying hu]
  .rename_i n e0 hu;split at h
   .rename_i ke hk;split at h
    .rename_i hs;cases h;obtain⟨i,hi⟩:=Oq hk;simp only[lJ,if_true];rw[Instr.checkKey];simp only[Sem.run_bind,run_underlying hu,Result.andThen_ok];simp only[Std.Legacy.Range.forIn_eq_forIn_range',Std.Legacy.Range.size,Nat.sub_zero,Nat.add_one_sub_one,Nat.div_one];have each:∀j∈List.range' 0 n,bW ke.ks ((l.drop (j*ke.ks.length)).take ke.ks.length)=true:=fun j hj=>by
      rw[List.mem_range'_1]at hj;exact Zg2 n l hl j (by omega)
     generalize List.range' 0 n=is at each;induction is with
     |nil=>simp
     |cons j is ih=>
      have a1:=each j (by simp);have p1:=YK hk hs a1 w;have p2:=YU em d e0 ke hk e' (by omega) _ a1 w;simp only[List.forIn_cons,Sem.run_bind,Go.run_sizeOf w hi,Result.andThen_ok,hs,p1,p2,Sem.run_pure];exact ih (fun y hy=>each y (by simp[hy]))
    .cases h
   .cases h
  .rename_i fs hu;split at h
   .rename_i bS;obtain⟨ks,hf,rfl⟩:=eB.1 h;simp only[lJ,if_true];rw[Instr.checkKey];simp only[Sem.run_bind,run_underlying hu,Result.andThen_ok];rw[<-Array.forIn_toList];have each:=Zlr d l fs.toList 0 ks hf (by simpa using hl);clear hf h;generalize fs.toList=L at each;induction L with
    |nil=>simp
    |cons f L ih=>
     obtain⟨kf,hk,c2,c3,a1⟩:=each f (by simp);have p1:=YK hk c2 a1 w;simp only[List.forIn_cons,Sem.run_bind,c3,ne_eq,not_false_eq_true,if_true,Result.andThen_ok,p1,YU em d f.type kf hk e' (by omega) _ a1 w,Sem.run_pure];exact ih (fun y hy=>each y (by simp[hy]))
   .cases h
  .cases h
end
def pT (P:Program):Op->Option W6
 |.binOp op t x y _=>match aU x,aU y,pV P 20 t with
  |some x,some y,some kt=>if(kt.wide=true/\P.eqGuardType P.depth t=false)\/kt=⟨false,[.str]⟩then match op with
    |.eql=>some (.eqv false kt x y)
    |.neq=>some (.eqv true kt x y)
    |_=>none
   else none
  |_,_,_=>none
 |.makeMap _ none=>some .G7
 |.lookup t x i ok=>match P.underlying t with
  |some (.map k e)=>match aU x,aU i,pV P 20 k,sH P e with
   |some x,some i,some kt,some z=>some (.look kt z ok x i)
   |_,_,_,_=>none
  |_=>none
 |.mapUpdate t x i v=>match P.underlying t with
  |some (.map k _)=>match aU x,aU i,aU v,pV P 20 k with
   |some x,some i,some v,some kt=>some (.iQ kt x i v)
   |_,_,_,_=>none
  |_=>none
 |.insert t x i v=>match P.underlying t with
  |some (.map k _)=>match aU x,aU i,aU v,pV P 20 k with
   |some x,some i,some v,some kt=>some (.iQ kt x i v)
   |_,_,_,_=>none
  |_=>none
 |.call c=>match c.callee with
  |.builtin .len=>match c.args.toList,c.argTypes.toList with
   |[x],[t]=>match aU x,P.underlying t with
    |some y,some (.map _ _)=>some (.CG y)
    |_,_=>none
   |_,_=>none
  |.builtin .copy=>match c.args.toList,c.argTypes.toList with
   |[x,y],[t,_]=>match aU x,aU y,eI P t with
    |some x,some y,some (_,n,none)=>if 0<n then some (.copy n x y)else none
    |_,_,_=>none
   |_,_=>none
  |.builtin .clear=>match c.args.toList,c.argTypes.toList with
   |[x],[t]=>match aU x,eI P t with
    |some x,some (e,n,none)=>match sH P e with
     |some z=>if 0<n/\z.cells.length=n then some (.clear n z x)else none
     |none=>none
    |_,_=>none
   |_,_=>none
  |_=>none
 |.slice t x none (some hi) none=>match aU x,aU hi,eI P t with
  |some x,some hi,some (_,1,some n)=>if 0<n/\n<=1000000 then some (.FL n x hi)else none
  |some x,some hi,some (_,W,some n)=>if 0<n/\n<=1000000 then some (.ZM n W x hi)else none
  |_,_,_=>none
 |.slice t x none none none=>match aU x,eI P t with
  |some x,some (_,1,some n)=>if 0<n/\n<=1000000 then some (.FL n x (.c (.int .i64 n)))else none
  |_,_=>none
 |_=>none
def W6.still:W6->Bool
 |.eqv _ _ _ _=>true
 |.rP _=>true
 |.B3 _ _=>true
 |.VB _ _ _=>true
 |.fT _ _=>true
 |.sN _ _=>true
 |.MJ _ _=>true
 |.LX _ _ _=>true
 |_=>false
def W6.read:W6->Bool
 |.look _ _ _ _ _=>true
 |.CG _=>true
 |_=>false
def jW (k:PV):List (PV×PV)->Option Nat
 |[]=>none
 |(k',_)::r=>match gV k k' with
  |true=>some 0
  |false=>(jW k r).map (·+1)
theorem ZiR (k:PV):∀es:List (PV×PV),fA k es=(jW k es).bind fun j=>(es[j]?).map (·.2)
 |[]=>rfl
 |(k',v)::r=>by
  unfold fA jW;cases gV k k' with
  |true=>rfl
  |false=>
   rw[ZiR k r];cases jW k r<;>simp
theorem ZkK (k v:PV):∀es:List (PV×PV),mM k v es=match jW k es with
  |some j=>es.set j (k,v)
  |none=>es++[(k,v)]
 |[]=>rfl
 |(k',v')::r=>by
  unfold mM jW;cases gV k k' with
  |true=>rfl
  |false=>
   dsimp only;rw[ZkK k v r];cases jW k r<;>simp
theorem ZjD {k:PV}:∀{es:List (PV×PV)} {j:Nat},jW k es=some j->∃p,es[j]?=some p/\gV k p.1=true
 |[],j,h=>by simp[jW]at h
 |(k',v)::r,j,h=>by
  unfold jW at h;cases he:gV k k' with
  |true=>rw[he]at h;cases h;exact⟨_,rfl,he⟩
  |false=>
   rw[he]at h;obtain⟨j',h1,rfl⟩:=eB.1 h;obtain⟨p,h2,h3⟩:=ZjD h1;exact⟨p,by simpa using h2,h3⟩
def sJ (kt:KT):List MapEntry->List (PV×PV)->Prop
 |[],[]=>True
 |e::r,p::q=>(e.key=lJ kt.wide p.1.cells/\bW kt.ks p.1.cells=true)/\sJ kt r q
 |_,_=>False
theorem sJ.of {m:Mem}{kt:KT}:∀{fE:List MapEntry} {es:List (PV×PV)},fE.length=es.length->(∀(i:Nat) (e:MapEntry) (p:PV×PV),fE[i]?=some e->es[i]?=some p->dH m e.key p.1/\dH m e.val p.2)->A4 kt es=true->sJ kt fE es
 |[],[],_,_,_=>trivial
 |[],_::_,h,_,_=>by simp at h
 |_::_,[],h,_,_=>by simp at h
 |e::r,p::q,h,h1,h2=>by
  simp only[A4,List.all_cons,dK]at h2;exact⟨Gl h2.1 (h1 0 e p rfl rfl).1,sJ.of (by simpa using h) (fun i e' p' k1 k2=>h1 (i+1) e' p' (by simpa using k1) (by simpa using k2)) h2.2⟩
theorem sJ.get {kt:KT}:∀{fE:List MapEntry} {es:List (PV×PV)} {j:Nat} {p:PV×PV},sJ kt fE es->es[j]?=some p->∃e,fE[j]?=some e/\e.key=lJ kt.wide p.1.cells/\bW kt.ks p.1.cells=true
 |[],[],j,p,_,h=>by simp at h
 |[],_::_,j,p,h,_=>h.elim
 |_::_,[],j,p,h,_=>h.elim
 |e::r,p'::q,j,p,h,hj=>by
  cases j with
  |zero=>simp at hj;subst hj;exact⟨e,rfl,h.1⟩
  |succ j=>
   obtain⟨e',k1,k2⟩:=sJ.get (j:=j) h.2 (by simpa using hj);exact⟨e',by simpa using k1,k2⟩
section
variable {P:Program}{w:World}
theorem ZkA {t:TypeId}{kt:KT}(hk:pV P 20 t=some kt){k:PV}(hl:bW kt.ks k.cells=true)(w:World):∀(fE:List MapEntry) (es:List (PV×PV)) (i:Nat),sJ kt fE es->
  (Instr.findAsking t (lJ kt.wide k.cells) fE i).run P w=.ok ((jW k es).bind fun j=>(fE[j]?).map fun e=>(i+j,e.val)) w
 |[],[],i,_=>by simp[Instr.findAsking,jW]
 |[],_::_,i,h=>h.elim
 |_::_,[],i,h=>h.elim
 |e::fE,p::es,i,h=>by
  obtain⟨⟨h1,h2⟩,h3⟩:=h;have hr:=Pu (w:=w) 20 t kt hk 10000 (by omega) k.cells p.1.cells hl h2;have ih:=ZkA hk hl w fE es (i+1) h3;simp only[Instr.findAsking,Sem.run_bind,h1,Op.equal,Op.maxDepth,hr,Result.andThen_ok];obtain⟨pk,pv⟩:=p;unfold jW gV;cases lT k.cells pk.cells with
  |true=>simp
  |false=>
   simp only[Bool.false_eq_true,if_false,ih];congr 1;cases jW k es with
   |none=>rfl
   |some j=>
    simp only[vB,Option.bind_some,List.getElem?_cons_succ];rw[show i+1+j=i+(j+1) by omega]
theorem ZnS {d:Nat}{t:TypeId}{kt:KT}(hk:pV P d t=some kt)(hw:kt.wide=false){dd:TypeDesc}(hu:P.underlying t=some dd){l l':List PV}(h1:bW kt.ks l=true)(h2:bW kt.ks l'=true):
  Instr.sameNow dd (lJ kt.wide l) (lJ kt.wide l')=some (lT l l'):=by
 cases d with
 |zero=>simp[pV]at hk
 |succ d=>
  unfold pV at hk;rw[hu]at hk;cases dd
  case bool=>
   cases hk;obtain⟨x,rfl,hx⟩:=I9 h1;obtain⟨y,rfl,hy⟩:=I9 h2;obtain⟨a,rfl⟩:=OT hx;obtain⟨b,rfl⟩:=OT hy;simp[lJ,qO,Instr.sameNow,lT,wR]
  case int q=>
   cases hk;obtain⟨x,rfl,hx⟩:=I9 h1;obtain⟨y,rfl,hy⟩:=I9 h2;obtain⟨a,rfl⟩:=OR hx;obtain⟨b,rfl⟩:=OR hy;simp[lJ,qO,Instr.sameNow,lT,wR]
  case string=>
   cases hk;obtain⟨x,rfl,hx⟩:=I9 h1;obtain⟨y,rfl,hy⟩:=I9 h2;obtain⟨a,rfl⟩:=GM hx;obtain⟨b,rfl⟩:=GM hy;simp[lJ,qO,Instr.sameNow,lT,wR,beq_toListBytes]
  case array n e=>
   simp only at hk;split at hk
   .split at hk
    .cases hk;cases hw
    .cases hk
   .cases hk
  case struct fs=>
   simp only at hk;split at hk
   .obtain⟨ks,_,rfl⟩:=eB.1 hk;cases hw
   .cases hk
  all_goals (cases hk)
theorem Zd7 {t:TypeId}{kt:KT}(hk:pV P 20 t=some kt)(hw:kt.wide=false){dd:TypeDesc}(hu:P.underlying t=some dd){k:PV}(hl:bW kt.ks k.cells=true):∀(fE:List MapEntry) (es:List (PV×PV)) (i:Nat),sJ kt fE es->
  Instr.findNow dd (lJ kt.wide k.cells) fE i=some ((jW k es).bind fun j=>(fE[j]?).map fun e=>(i+j,e.val))
 |[],[],i,_=>by simp[Instr.findNow,jW]
 |[],_::_,i,h=>h.elim
 |_::_,[],i,h=>h.elim
 |e::fE,p::es,i,h=>by
  obtain⟨⟨h1,h2⟩,h3⟩:=h;have ih:=Zd7 hk hw hu hl fE es (i+1) h3;simp only[Instr.findNow,h1,ZnS hk hw hu hl h2];obtain⟨pk,pv⟩:=p;unfold jW gV;cases lT k.cells pk.cells with
  |true=>simp
  |false=>
   simp only[ih];congr 1;cases jW k es with
   |none=>rfl
   |some j=>
    simp only[vB,Option.bind_some,List.getElem?_cons_succ];rw[show i+1+j=i+(j+1) by omega]
theorem Zhl {t:TypeId}{kt:KT}(hk:pV P 20 t=some kt){k:PV}(hl:bW kt.ks k.cells=true)(w:World){fE:List MapEntry}{es:List (PV×PV)}(h:sJ kt fE es):
  (Instr.findKey t (lJ kt.wide k.cells) fE).run P w=.ok ((jW k es).bind fun j=>(fE[j]?).map fun e=>(j,e.val)) w:=by
 obtain⟨i,hi⟩:=Oq hk;cases hu:P.underlying t with
 |none=>rw[pV,hu]at hk;cases hk
 |some dd=>
  cases hw:kt.wide with
  |false=>
   have:=Zd7 hk hw hu hl fE es 0 h
   rw[hw]at this;simp only[Instr.findKey,Sem.run_bind,run_underlying hu,Result.andThen_ok,this,sF,Sem.run_pure]
  |true=>
   have ha:=ZkA hk hl w fE es 0 h;rw[hw]at ha;simp only[sF]at ha;simp only[Instr.findKey,Sem.run_bind,run_underlying hu,Result.andThen_ok];cases fE with
   |nil=>
    cases es with
    |nil=>simp[Instr.findNow,jW]
    |cons=>exact h.elim
   |cons e r=>
    have hn:Instr.findNow dd (lJ true k.cells) (e::r) 0=none:=by
     simp only[Instr.findNow,lJ,if_true];cases dd<;>rfl
    rw[hn];exact ha
theorem ZeO {k:CK}{x:PV}(h:k.ok x=true)(n:Nat):Instr.sameBits n (qO x) (qO x)=true:=by
 cases k with
 |int k=>obtain⟨a,rfl⟩:=OR h;simp[qO,Instr.sameBits]
 |bool=>obtain⟨a,rfl⟩:=OT h;simp[qO,Instr.sameBits]
 |str=>obtain⟨a,rfl⟩:=GM h;simp[qO,Instr.sameBits,beq_toListBytes]
theorem ZlV {kt:KT}{x:PV}(hx:kt.ok x=true)(w:World):(Instr.keyThatStays (lJ kt.wide x.cells) (lJ kt.wide x.cells)).run P w=.ok (lJ kt.wide x.cells) w:=by
 have hs:Instr.sameBits 10000 (lJ kt.wide x.cells) (lJ kt.wide x.cells)=true:=by
  cases hw:kt.wide with
  |true=>
   have eV:bW kt.ks x.cells=true:=by
    cases x<;>simp_all [KT.ok,PV.cells]
   simp only[lJ,if_true,Instr.sameBits,zC,BEq.rfl,Bool.true_and,rM,List.zip_map',iN];intro q hq;obtain⟨c,hc,rfl⟩:=hq;obtain⟨j,hj⟩:=iO.1 hc;obtain⟨k,hk⟩:=Iy eV hj;exact ZeO hk _
  |false=>
   have eV:∃k:CK,k.ok (x.cells.headD .eX)=true:=by
    have:bW kt.ks [x]=true/\x.cells=[x]:=by cases x<;>simp_all [KT.ok,PV.cells]
    rw[this.2];exact Iy this.1 (j:=0) rfl
   obtain⟨k,hk⟩:=eV;exact ZeO hk _
 simp[Instr.keyThatStays,hs]
end
section
variable {P:Program}{N:Nat}{w0:World}{m0:Env w0}{pl:List Nat}{σ:AS}{ρ:Site->Loc}{m:Mem}{act:Act}{w:World}{o:Oper}{d:Nat}{K:AV->AS->Prop}
theorem Zir (w:World)(l:Nat)(o:Obj):cY [l] w (w.putObj l o):=⟨rfl,rfl,rfl,by simp,fun k hk hn=>World.putObj_heap_other (by simpa using hn)⟩
theorem bQ.Yj {v:Value}{s:Site}(h:bQ ρ m v (.mp s)):v=.map (some (ρ s).b):=by cases h;rfl
theorem bQ.ZwL {v:Value}(h:bQ ρ m v (.pv .cV)):v=.map none:=by
 cases h with
 |pv _ _ h=>cases h;rfl
theorem Zor {G:World->Prop}{op:BinOp}{t u:TypeId}{x y:Operand}{x' y':bB}{kt:KT}{neg:Bool}(hx:aU x=some x')(hy:aU y=some y')(hk:pV P 20 t=some kt)(hc:(kt.wide=true/\P.eqGuardType P.depth t=false)\/kt=⟨false,[.str]⟩)
  (hop:op=.eql/\neg=false\/op=.neq/\neg=true) (ho:o.op=.binOp op t x y u) (h:cI (.eqv neg kt x' y') d K σ) (hS:Sat N w0 m0 pl σ ρ m act w):dB G P σ ρ m o act w K:=by
 simp only[cI]at h;have h1:=hS.aU hx;have h2:=hS.aU hy;split at h
 .rename_i a b ea eb;obtain⟨ha,hb,hK⟩:=h;rw[ea]at h1;rw[eb]at h2;obtain⟨v1,c1⟩:=Gl ha h1.nN;obtain⟨v2,c2⟩:=Gl hb h2.nN;refine .pure hS (v:=.bool (gV a b != neg)) ?_ (.pv _ _ (.bool _)) hK;intro w' _;unfold execOp;simp only[ho,v1,v2];rcases hc with⟨hw,hg⟩|hc
  .have he:=Pu (w:=w') 20 t kt hk 10000 (by omega) _ _ c1 c2;simp only[lJ,hw,if_true]at he ⊢;rcases hop with⟨rfl,rfl⟩|⟨rfl,rfl⟩
   .simp only[Sem.run_bind,run_eqGuard_agg w' _ t x y _ _ hg,Result.andThen_ok,run_eql_struct,he,Sem.run_pure];simp[gV]
   .simp only[Sem.run_bind,run_eqGuard_agg w' _ t x y _ _ hg,Result.andThen_ok,run_neq_struct,he,Sem.run_pure];simp[gV]
  .subst hc;obtain⟨x1,e1,Z1⟩:=I9 c1;obtain⟨x2,e2,Sx⟩:=I9 c2;obtain⟨s1,rfl⟩:=GM Z1;obtain⟨s2,rfl⟩:=GM Sx;simp only[gV,e1,e2,lJ,Bool.false_eq_true,if_false,List.headD_cons,qO,lT,wR,Bool.and_true];rcases hop with⟨rfl,rfl⟩|⟨rfl,rfl⟩<;>simp[eqGuard,binOp,Op.stringOp]
 .exact h.elim
theorem Ztj {t:TypeId}(ho:o.op=.makeMap t none)(h:cI .G7 d K σ)(hS:Sat N w0 m0 pl σ ρ m act w):oG P N w0 m0 pl o act w K:=by
 have hr:(execOp act.eval o).run P w=.ok (.value (.map (some w.heap.size))) (w.alloc (.map #[] 0)):=by
  unfold execOp;simp[ho,Instr.makeMap]
 have hu:=S0 ρ (.loc d 0) ⟨w.heap.size,0,0,true⟩;have hp:=hS.bG d;refine⟨_,_,.mp (.loc d 0),_,iQ ρ (.loc d 0) ⟨w.heap.size,0,0,true⟩,m,.inl hr,h,(hp.ext (Ext.al w _)).add (rG.bG d σ) ⟨by rw[hu],#[],0,by rw[hu];exact World.alloc_heap_new w _,rfl,fun i e p k=>by simp at k⟩ (fun _ s b k r=>?_) (fun _ o=>hp.Ga (fH _) o) (fun _=>.inl hp.keep.size),?_,fun _=>Ext.al _ _⟩
 .have hx:Ext w (w.alloc (.map #[] 0)):=Ext.al w _
  have:=hp.G8 k (((hp.bx s b k).dS (fun r=>hx.block _ (hp.lt k r))).1 r)
  simp at this
 .have:=bQ.mp (ρ:=iQ ρ (.loc d 0) ⟨w.heap.size,0,0,true⟩) (m:=m) (.loc d 0)
  rw[hu]at this;exact this
theorem Ih {e:TypeId}{z:PV}(h:sH P e=some z)(w:World)(m:Mem):∃v,(zeroValue e).run P w=.ok v w/\dH m v z:=by
 unfold sH at h;cases hv:gX P e with
 |none=>simp[hv]at h
 |some zv=>
  simp only[hv,Option.bind_some]at h;refine⟨zv,LF hv w,?_⟩;unfold ZZ at h;split at h
  .rename_i cs;obtain⟨xs,k1,rfl⟩:=eB.1 h;obtain⟨k2,k3⟩:=Zy (m:=m) k1;obtain⟨_,z2,_⟩:=UM (v:=.agg cs) (x:=.agg xs) (by unfold ZZ;exact eB.2 ⟨xs,k1,rfl⟩) m;exact .agg cs xs (by simpa using k2) (fun d hd=>z2 d (by simpa[Value.cells]using hd)) (fun j d c h1 h2=>k3 j d c (by simpa using h1) h2)
  .exact Mo h m
theorem Zqe {t k e:TypeId}{x i:Operand}{x' i':bB}{kt:KT}{z:PV}{ok:Bool}(hx:aU x=some x')(hi:aU i=some i')(hu:P.underlying t=some (.map k e))(hk:pV P 20 k=some kt)(hz:sH P e=some z)
  (ho:o.op=.lookup t x i ok) (h:cI (.look kt z ok x' i') d K σ) (hS:Sat N w0 m0 pl σ ρ m act w):dB (fW σ ρ m w) P σ ρ m o act w K:=by
 simp only[cI]at h;have h1:=hS.aU hx;have h2:=hS.aU hi;split at h
 .rename_i key ei;obtain⟨dD,h⟩:=h;rw[ei]at h2;obtain⟨v2,c2⟩:=Gl dD h2.nN;split at h
  .rename_i s ex;rw[ex]at h1;split at h
   .rename_i es hb;obtain⟨s4,hK⟩:=h;obtain⟨hr,fE,clock,g1,g2,g3⟩:=hS.bx s _ hb;have hE:sJ kt fE.toList es:=sJ.of (m:=m) (by simpa using g2) (fun i e p k1 k2=>g3 i e p (by simpa using k1) k2) s4;obtain⟨zv,_,MT⟩:=Ih hz w m;have Kd:∀w',(zeroValue e).run P w'=.ok zv w':=fun w'=>by
     obtain⟨v',q1,_⟩:=Ih hz w' m;obtain⟨v'',q2,_⟩:=Ih hz w m;unfold sH at hz;cases hv:gX P e with
     |none=>simp[hv]at hz
     |some zz=>
      have a1:=LF hv w;have a2:=LF hv w';rw[‹(zeroValue e).run P w=.ok zv w›]at a1;cases a1;exact a2
    have kr:∀w',fW σ ρ m w w'->(execOp act.eval o).run P w'=.ok (.value (let r:=(jW key es).bind fun j=>(fE.toList[j]?).map fun e=>(j,e.val);let p:Value×Bool:=match r with
      |some (_,v)=>(v,true)
      |none=>(zv,false);if ok=true then .tuple #[p.1,.bool p.2]else p.1)) w':=by
     intro w' bS;have nT:w'.heap[(ρ s).b]?=some (.map fE clock):=(bS.2 s _ hb hr).trans g1;unfold execOp;simp only[ho,v2,h1.Yj,Sem.run_bind,Instr.lookup,run_underlying hu,Result.andThen_ok,MapKept.run_getObj_map nT,Sem.run_pure,YU _ 20 k kt hk 10000 (by omega) _ c2 w',Zhl hk c2 w' hE];cases(jW key es).bind fun j=>(fE.toList[j]?).map fun e=>(j,e.val)with
     |none=>cases ok<;>simp[Kd w']
     |some q=>cases ok<;>simp
    refine⟨_,gK ok (fA key es) z,kr,?_,hK⟩;rw[ZiR];cases Cp:jW key es with
    |none=>
     simp only[Option.bind_none];cases ok with
     |true=>exact .pv _ _ (.bN _ _ rfl (fun j dd c e1 e2=>by
       match j with
       |0=>simp at e1 e2;subst e1 e2;exact MT
       |1=>simp at e1 e2;subst e1 e2;exact .bool _
       |j+2=>simp at e2))
     |false=>exact .pv _ _ MT
    |some j=>
     obtain⟨p,hp,_⟩:=ZjD Cp;obtain⟨en,he,_⟩:=hE.get hp;have hv:=(g3 j en p (by simpa using he) hp).2;simp only[Option.bind_some,he,hp,vB];cases ok with
     |true=>exact .pv _ _ (.bN _ _ rfl (fun j dd c e1 e2=>by
       match j with
       |0=>simp at e1 e2;subst e1 e2;exact hv
       |1=>simp at e1 e2;subst e1 e2;exact .bool _
       |j+2=>simp at e2))
     |false=>exact .pv _ _ hv
   .exact h.elim
  .rename_i ex;rw[ex]at h1;obtain⟨zv,Su,MT⟩:=Ih hz w m;have kr:∀w',(execOp act.eval o).run P w'=.ok (.value (if ok=true then .tuple #[zv,.bool false]else zv)) w':=by
    intro w';have a2:(zeroValue e).run P w'=.ok zv w':=by
     unfold sH at hz;cases hv:gX P e with
     |none=>simp[hv]at hz
     |some zz=>
      have a1:=LF hv w;rw[Su]at a1;cases a1;exact LF hv w'
    have hn:∀w',(Instr.findKey k (lJ kt.wide key.cells) []).run P w'=.ok none w':=fun w'=>by
     have:=Zhl (fE:=[]) (es:=[]) hk c2 w' trivial
     simpa[jW]using this
    unfold execOp;simp only[ho,v2,h1.ZwL,Sem.run_bind,Instr.lookup,run_underlying hu,Result.andThen_ok,Sem.run_pure,YU _ 20 k kt hk 10000 (by omega) _ c2 w',hn w'];cases ok<;>simp[a2]
   refine⟨_,gK ok none z,fun w' _=>kr w',?_,h⟩;cases ok with
   |true=>exact .pv _ _ (.bN _ _ rfl (fun j dd c e1 e2=>by
     match j with
     |0=>simp at e1 e2;subst e1 e2;exact MT
     |1=>simp at e1 e2;subst e1 e2;exact .bool _
     |j+2=>simp at e2))
   |false=>exact .pv _ _ MT
  .exact h.elim
 .exact h.elim
theorem Zmx {t k e:TypeId}{x i v:Operand}{x' i' v':bB}{kt:KT}(hx:aU x=some x')(hi:aU i=some i')(hv:aU v=some v')(hu:P.underlying t=some (.map k e))(hk:pV P 20 k=some kt)
  (ho:o.op=.mapUpdate t x i v\/o.op=.insert t x i v) (h:cI (.iQ kt x' i' v') d K σ) (hS:Sat N w0 m0 pl σ ρ m act w):oG P N w0 m0 pl o act w K:=by
 simp only[cI]at h;have h1:=hS.aU hx;have h2:=hS.aU hi;split at h
 .rename_i key ei;obtain⟨dD,h⟩:=h;rw[ei]at h2;obtain⟨v2,c2⟩:=Gl dD h2.nN;split at h
  .rename_i s ex;rw[ex]at h1;obtain⟨m1,zQ,hF⟩:=hS.xD (σ.o v');generalize HY:σ.xD (σ.o v')=τ at h hF;split at h
   .rename_i es val hb hvv;obtain⟨s4,hK⟩:=h;have h3:=hF.aU hv;rw[hvv]at h3;have hvr:=h3.nN;have hkr:dH m1 (act.eval i) key:=h2.nN.mono zQ;obtain⟨hr,fE,clock,g1,g2,g3⟩:=hF.bx s _ hb;have hE:sJ kt fE.toList es:=sJ.of (m:=m1) (by simpa using g2) (fun i e p k1 k2=>g3 i e p (by simpa using k1) k2) s4;have fin:∀zW F6,(Instr.mapUpdate t (.map (some (ρ s).b)) (act.eval i) (act.eval v)).run P w=.ok () (w.putObj (ρ s).b (.map zW F6))->zW.size=(mM key val es).length->
      (∀(j:Nat) (e:MapEntry) (p:PV×PV),zW[j]?=some e->(mM key val es)[j]?=some p->dH m1 e.key p.1/\dH m1 e.val p.2)->oG P N w0 m0 pl o act w K:=by
     intro zW F6 dG e1 e2;have wI:(execOp act.eval o).run P w=.ok .skip (w.putObj (ρ s).b (.map zW F6)):=by
      unfold execOp;rcases ho with ho|ho<;>simp only[ho,h1.Yj,Sem.run_bind,dG,Result.andThen_ok,Sem.run_pure]
     refine⟨undef,_,.any,_,ρ,m1,.inr ⟨wI,rfl⟩,hK,hF.Fy hb hr (Zir w _ _) ⟨hr,zW,F6,World.putObj_heap_same (qL.1 g1).1,e1,e2⟩,.any _,fun hm=>?_⟩;rcases ho with ho|ho<;>(rw[ho]at hm;cases hm)
    rw[ZkK]at fin;have dZ:=Zhl hk c2 w hE;cases Cp:jW key es with
    |none=>
     rw[Cp]at fin dZ;simp only[Option.bind_none]at dZ;refine fin (fE.push { key:=act.eval i,val:=act.eval v,born:=clock }) (clock+1) ?_ (by simp[g2]) (fun j en p k1 k2=>?_)
     .simp only[Instr.mapUpdate,Sem.run_bind,run_underlying hu,Result.andThen_ok,MapKept.run_getObj_map g1,v2,YU _ 20 k kt hk 10000 (by omega) _ c2 w,dZ,MapKept.run_setObj_map _ g1];rfl
     .rw[Array.getElem?_push]at k1;dsimp only at k2;rw[zB]at k2;split at k1
      .rename_i hj;cases k1;rw[if_neg (by omega)]at k2
       have:p=(key,val):=by
        rw[hj,g2,Nat.sub_self]at k2;simpa using k2.symm
       subst this;exact⟨hkr,hvr⟩
      .have hj:=(qL.1 k1).1;rw[if_pos (by omega)]at k2;exact g3 j en p k1 k2
    |some j0=>
     rw[Cp]at fin dZ;obtain⟨p0,DB,T7⟩:=ZjD Cp;obtain⟨en0,he0,RH,Vz⟩:=hE.get DB;have Dg:fE[j0]?=some en0:=by simpa using he0
     simp only[Option.bind_some,he0,vB]at dZ;have wH:en0.key=act.eval i:=by
      rw[RH,v2];rw[ZrS c2 Vz T7]
     have bS:=ZlV (P:=P) dD w;refine fin (fE.modify j0 fun e=>{ e with key:=act.eval i,val:=act.eval v }) clock ?_ (by simp[g2]) (fun j en p k1 k2=>?_)
     .rw[<-v2]at bS dZ;have NK:=YU (P:=P) false 20 k kt hk 10000 (by omega) _ c2 w;rw[<-v2]at NK;simp only[Instr.mapUpdate,Sem.run_bind,run_underlying hu,Result.andThen_ok,MapKept.run_getObj_map g1,NK,dZ,Dg,vB,sE,wH,bS,MapKept.run_setObj_map _ g1];rfl
     .rw[Array.getElem?_modify]at k1;dsimp only at k2;split at k1
      .rename_i hj;subst hj;rw[Dg,vB]at k1;cases k1;have aI:=(cD.1 DB).1;rw[O6 aI]at k2;cases k2;exact⟨hkr,hvr⟩
      .rename_i hj;rw[List.getElem?_set_ne hj]at k2;exact g3 j en p k1 k2
   .exact h.elim
  .exact h.elim
 .exact h.elim
theorem Zp5 {t k e:TypeId}{c:Call}{x:Operand}{x':bB}(hx:aU x=some x')(hu:P.underlying t=some (.map k e))(hc:c.callee=.builtin .len)(ha:c.args.toList=[x])(ht:c.argTypes.toList=[t])(ho:o.op=.call c)
  (h:cI (.CG x') d K σ) (hS:Sat N w0 m0 pl σ ρ m act w):dB (fW σ ρ m w) P σ ρ m o act w K:=by
 simp only[cI]at h;have h1:=hS.aU hx;have fY:c.args=#[x]:=xS.1 (by simpa using ha);have sZ:c.argTypes=#[t]:=xS.1 (by simpa using ht);have ex:∀{w':World} {v:Value},(Builtin.len_ #[t] o.type #[act.eval x]).run P w'=.ok v w'->(execOp act.eval o).run P w'=.ok (.value v) w':=fun h=>by
  unfold execOp;simp only[ho];simp[resolve,hc,fY,sZ,invoke,builtin,h]
 split at h
 .rename_i s Xl;rw[Xl]at h1;split at h
  .rename_i es hb;obtain⟨hr,fE,clock,g1,g2,g3⟩:=hS.bx s _ hb;refine⟨.int .i64 es.length,_,fun w' bS=>ex ?_,.pv _ _ (.int _ _),h⟩;have nT:w'.heap[(ρ s).b]?=some (.map fE clock):=(bS.2 s _ hb hr).trans g1;simp[Builtin.len_,run_underlying hu,h1.Yj,MapKept.run_getObj_map nT,goInt,g2]
  .exact h.elim
 .rename_i Xl;rw[Xl]at h1;refine⟨.int .i64 0,_,fun w' _=>ex ?_,.pv _ _ (.int _ _),h⟩;simp[Builtin.len_,run_underlying hu,h1.ZwL,goInt]
 .exact h.elim
theorem Flat.take {m:Mem}{ds:List Value}{n:Nat}{xs:List PV}(h:Flat m ds n xs)(k:Nat):Flat m (ds.take (k*n)) n (xs.take k):=by
 refine⟨?_,fun u hu=>h.one u (List.mem_of_mem_take hu),fun i x hi=>?_⟩
 .rw[gM,gM,h.len];rcases Nat.le_total k xs.length with h1|h1
  .rw[Nat.min_eq_left (I5 _ h1),Nat.min_eq_left h1]
  .rw[Nat.min_eq_right (I5 _ h1),Nat.min_eq_right h1]
 .rw[mH]at hi;split at hi
  .rename_i qX;obtain⟨k1,k2⟩:=h.get i x hi;refine⟨k1,fun j c hj=>?_⟩;obtain⟨u,q1,q2⟩:=k2 j c hj;have sA:j<n:=by have:=(cD.1 hj).1;omega
   have:=W5 (n:=n) qX
   exact⟨u,by rw[mH,if_pos (by omega)];exact q1,q2⟩
  .cases hi
theorem Sat.over (hS:Sat N w0 m0 pl σ ρ m act w){s:Site}{e n lo:Nat}{xs zs:List PV}{ds:List Value}(hb:σ.b s=some (.arr e n xs))(hr:(ρ s).real=true){cs:Array Value}(g1:w.heap[(ρ s).b]?=some (.cells cs e (0,0)))(hf:Flat m ds n zs)(hl:lo+zs.length<=xs.length):
  (ρ s).o+lo*n+ds.length<=cs.size/\Sat N w0 m0 pl (σ.set s (.arr e n (aR xs lo zs))) ρ m act (w.setRow (ρ s).b (aR cs.toList ((ρ s).o+lo*n) ds).toArray):=by
 obtain⟨hn,hB|⟨_,iM,Em,g2,g3,g4,g5⟩⟩:=hS.bx s _ hb
 .rw[hB.1]at hr;cases hr
 rw[g1]at Em;cases Em;have gP:cs.toList.length=cs.size:=vC;have dF:(ρ s).o+lo*n+ds.length<=cs.size:=by
  have h1:(lo+zs.length)*n<=(ρ s).cap*n:=I5 _ (by omega);rw[Nat.add_mul]at h1;rw[hf.len];omega
 refine⟨dF,hS.Fy hb hr (cY.setRow w _ _) ⟨hn,.inr ⟨hr,_,setRow_heap w _ cs _ e _ g1,?_,?_,g4,fun i x hi=>?_⟩⟩⟩
 .rw[zC,W0 (by rw[gP];exact dF),gP];exact g2
 .rw[W0 hl];exact g3
 .rw[A5 hl]at hi;have old:∀(i:Nat) (x:PV),xs[i]?=some x->(i<lo\/lo+zs.length<=i)->x.cells.length=n/\∀(j:Nat) (c:PV),x.cells[j]?=some c->∃d,(aR cs.toList ((ρ s).o+lo*n) ds).toArray[(ρ s).o+i*n+j]?=some d/\d.oneCell'=true/\dH m d c:=by
   intro i x hx hi;obtain⟨k1,k2⟩:=g5 i x hx;refine⟨k1,fun j c hj=>?_⟩;obtain⟨d,q1,q2,q3⟩:=k2 j c hj;refine⟨d,?_,q2,q3⟩;have sA:j<n:=by have:=(cD.1 hj).1;omega
   rw[I4,A5 (by rw[gP];exact dF)];rcases hi with hi|hi
   .have:=W5 (n:=n) hi
    rw[if_pos (by omega),O7];exact q1
   .have h1:(lo+zs.length)*n<=i*n:=I5 _ hi;rw[Nat.add_mul]at h1;rw[if_neg (by omega),if_neg (by rw[hf.len];omega),O7];exact q1
  split at hi
  .rename_i h1;exact old i x hi (.inl h1)
  .split at hi
   .rename_i h1 h2;obtain⟨k1,k2⟩:=hf.get (i-lo) x hi;refine⟨k1,fun j c hj=>?_⟩;obtain⟨u,q1,q2⟩:=k2 j c hj;have aI:=(cD.1 q1).1;have e1:i*n=lo*n+(i-lo)*n:=by rw[<-Nat.add_mul];congr 1;omega
    refine⟨u,?_,hf.one u (dL q1),q2⟩;rw[I4,A5 (by rw[gP];exact dF),if_neg (by omega),if_pos (by omega),<-q1];congr 1;omega
   .rename_i h1 h2;exact old i x hi (.inr (by omega))
theorem ZkO {e:TypeId}(g:Nat)(q:Nat){cs:Array Value}{ds:List Value}(g1:w.heap[g]?=some (.cells cs e (0,0)))(dF:q+ds.length<=cs.size)(h1:∀u∈ds,u.oneCell'=true):
  (storeCells ⟨g,q,none⟩ ds).run P w=.ok () (w.setRow g (aR cs.toList q ds).toArray):=by
 have bS:=run_storeCells_at P g q e ds 0 cs w g1 (by simpa using dF) h1;unfold aR;simpa only[Nat.add_zero]using bS
theorem Zen {α:Type}(l:List α)(k:Nat):aR l k []=l:=by simp[aR]
theorem Sat.same (hS:Sat N w0 m0 pl σ ρ m act w){s:Site}{b:aJ}(hb:σ.b s=some b):Sat N w0 m0 pl (σ.set s b) ρ m act w:=by
 have nT:∀s' b',(σ.set s b).b s'=some b'->σ.b s'=some b':=fun s' b' k=>by
  rw[AS.XA]at k;split at k
  .rename_i e;rw[e,hb];exact k
  .exact k
 exact⟨hS.sM,hS.sz,hS.tm,fun s' b' k=>hS.bx s' b' (nT s' b' k),fun s1 s2 b1 b2 i k1 k2=>hS.eA s1 s2 b1 b2 i (nT _ _ k1) (nT _ _ k2),hS.mem,fun s' b' i k=>hS.eQ s' b' i (nT _ _ k),fun s' b' i k=>hS.fM s' b' i (nT _ _ k),hS.keep,hS.base,hS.qJ,hS.par⟩
theorem ZqI {t u e n:TypeId}{c:Call}{x y:Operand}{x' y':bB}(hx:aU x=some x')(hy:aU y=some y')(he:eI P t=some (e,n,none))(hn:0<n)(hc:c.callee=.builtin .copy)(ha:c.args.toList=[x,y])(ht:c.argTypes.toList=[t,u])(ho:o.op=.call c)
  (h:cI (.copy n x' y') d K σ) (hS:Sat N w0 m0 pl σ ρ m act w):oG P N w0 m0 pl o act w K:=by
 simp only[cI]at h;obtain⟨hu,hs⟩:=LH he;have h1:=hS.aU hx;have fY:c.args=#[x,y]:=xS.1 (by simpa using ha);have sZ:c.argTypes=#[t,u]:=xS.1 (by simpa using ht);have ex:∀{w':World} {v:Value},(Builtin.copy_ #[t,u] o.type #[act.eval x,act.eval y]).run P w=.ok v w'->(execOp act.eval o).run P w=.ok (.value v) w':=fun h=>by
  unfold execOp;simp only[ho];simp[resolve,hc,fY,sZ,invoke,builtin,h]
 have hm:o.op.vY=true->False:=fun hm=>by rw[ho]at hm;cases hm
 split at h
 .rename_i ys QD;obtain⟨ya,yc,yd,CP,D6,IA⟩:=Gs hn hS (hS.aU hy) QD;have first:∀k,(Builtin.firstCells n (ys.take k).length (.slice ya ys.length yc)).run P w=.ok (yd.take (k*n)).toArray w:=fun k=>
   Zf9 (D6.take k) (fun j u hj=>IA j u (by rw[mH]at hj;split at hj;exact hj;cases hj)) w (fun _=>rfl) _ rfl ys.length yc
  split at h
  .rename_i nl e1;rw[e1]at h1;obtain⟨a,hv,jP⟩:=h1.XD;refine⟨_,w,_,σ,ρ,m,.inl (ex (v:=.int .i64 0) (w':=w) ?_),h,hS,.pv _ _ (.int _ _),fun q=>(hm q).elim⟩;have f0:=first 0;simp only[List.take_zero,List.length_nil,Nat.zero_mul]at f0;cases a<;>simp[Builtin.copy_,run_underlying hu,hv,CP,Builtin.lenOf,Go.Proofs.YthmbecacehfgfabGreatDoor.run_sizeOf hs,f0,storeCells,goInt]
  .rename_i s n' lo len e1;rw[e1]at h1;split at h
   .rename_i e' eW xs hb;obtain⟨⟨rfl,rfl,hl⟩,hK⟩:=h;have Un:(ys.take len).length=min ys.length len:=by rw[gM];omega
    rcases h1.EX with⟨cap,hv,c0,c1,c2⟩|⟨a,hv,c0,jP⟩
    .obtain⟨xN,hB|⟨hr,cs,g1,g2,g3,g4,g5⟩⟩:=hS.bx s _ hb
     .rw[hB.1]at c2;cases c2
     obtain⟨dF,nA⟩:=hS.over hb hr g1 (D6.take len) (lo:=lo) (by rw[gM];omega);refine⟨_,_,_,_,ρ,m,.inl (ex (v:=.int .i64 (ys.take len).length) ?_),hK,nA,.pv _ _ (.int _ _),fun q=>(hm q).elim⟩;have f0:=first len;rw[Un]at f0 ⊢;have bS:=ZkO (P:=P) (w:=w) (ρ s).b ((ρ s).o+lo*eW) g1 dF (D6.take len).one;simp[Builtin.copy_,run_underlying hu,hv,CP,Builtin.lenOf,Go.Proofs.YthmbecacehfgfabGreatDoor.run_sizeOf hs,f0,bS,goInt]
    .subst c0;simp only[List.take_zero,Zen]at hK;refine⟨_,w,_,_,ρ,m,.inl (ex (v:=.int .i64 ([]:List PV).length) (w':=w) ?_),hK,hS.same hb,.pv _ _ (.int _ _),fun q=>(hm q).elim⟩;have f0:=first 0;simp only[List.take_zero,List.length_nil,Nat.zero_mul]at f0;cases a<;>simp[Builtin.copy_,run_underlying hu,hv,CP,Builtin.lenOf,Go.Proofs.YthmbecacehfgfabGreatDoor.run_sizeOf hs,f0,storeCells,goInt]
   .exact h.elim
  .exact h.elim
 .exact h.elim
theorem ZoJ {t e n:TypeId}{z:PV}{c:Call}{x:Operand}{x':bB}(hx:aU x=some x')(he:eI P t=some (e,n,none))(hz:sH P e=some z)(hn:0<n)(QB:z.cells.length=n)(hc:c.callee=.builtin .clear)(ha:c.args.toList=[x])(ht:c.argTypes.toList=[t])(ho:o.op=.call c)
  (h:cI (.clear n z x') d K σ) (hS:Sat N w0 m0 pl σ ρ m act w):oG P N w0 m0 pl o act w K:=by
 simp only[cI]at h;obtain⟨hu,hs⟩:=LH he;have h1:=hS.aU hx;have fY:c.args=#[x]:=xS.1 (by simpa using ha);have sZ:c.argTypes=#[t]:=xS.1 (by simpa using ht);have ex:∀{w':World} {v:Value},(Builtin.clear_ #[t] o.type #[act.eval x]).run P w=.ok v w'->(execOp act.eval o).run P w=.ok (.value v) w':=fun h=>by
  unfold execOp;simp only[ho];simp[resolve,hc,fY,sZ,invoke,builtin,h]
 have hm:o.op.vY=true->False:=fun hm=>by rw[ho]at hm;cases hm
 have Z2:bQ ρ m (.tuple #[]) (.pv (.bN [])):=.pv _ _ (.bN _ _ rfl (fun j d c e1=>by simp at e1));unfold sH at hz;cases QI:gX P e with
 |none=>simp[QI]at hz
 |some zv=>
 simp only[QI,Option.bind_some]at hz;obtain⟨z1,z2,z3⟩:=UM hz m;have uE:zv.cells.size=n:=by omega
 have Bb:=LF QI w;split at h
 .rename_i nl e1;rw[e1]at h1;obtain⟨a,hv,jP⟩:=h1.XD;refine⟨_,w,_,σ,ρ,m,.inl (ex (v:=.tuple #[]) (w':=w) ?_),h,hS,Z2,fun q=>(hm q).elim⟩;cases a<;>simp[Builtin.clear_,run_underlying hu,hv]
 .rename_i s n' lo len e1;rw[e1]at h1;split at h
  .rename_i e' eW xs hb;obtain⟨⟨rfl,rfl,hl⟩,hK⟩:=h;rcases h1.EX with⟨cap,hv,c0,c1,c2⟩|⟨a,hv,c0,jP⟩
   .by_cases hlen:len=0
    .subst hlen;simp only[List.replicate_zero,Zen]at hK;refine⟨_,w,_,_,ρ,m,.inl (ex (v:=.tuple #[]) (w':=w) ?_),hK,hS.same hb,Z2,fun q=>(hm q).elim⟩;simp[Builtin.clear_,run_underlying hu,hv]
    .obtain⟨xN,hB|⟨hr,cs,g1,g2,g3,g4,g5⟩⟩:=hS.bx s _ hb
     .rw[hB.1]at c2;cases c2
     have N9:∀j,j<eW->∃hj:j<zv.cells.size,zv.cells[j]! = zv.cells[j]:=fun j hj=>⟨by omega,getElem!_pos zv.cells j (by omega)⟩
     have kO:∀k,k<len*eW->(Builtin.zeroCells zv.cells len).toList[k]?=some (zv.cells[k%eW]!):=fun k hk=>by
      rw[O7];simp only[Builtin.zeroCells,Array.getElem?_map,Array.getElem?_range,uE];rw[if_pos hk];rfl
     have b9:Flat m (Builtin.zeroCells zv.cells len).toList eW (List.replicate len z):=by
      refine⟨by rw[vC,Zcb,uE,List.length_replicate],fun u hu=>?_,fun i x hi=>?_⟩
      .obtain⟨k,hk⟩:=iO.1 hu;have aI:k<len*eW:=by
        have:=(cD.1 hk).1
        rw[vC,Zcb,uE]at this;exact this
       rw[kO k aI]at hk;cases hk;obtain⟨hj,e1⟩:=N9 (k%eW) (Nat.mod_lt _ hn);rw[e1];exact z2 _ (Array.getElem_mem hj)
      .rw[List.getElem?_replicate]at hi;split at hi
       .rename_i Vj;cases hi;refine⟨QB,fun j c hj=>?_⟩;have sA:j<eW:=by have:=(cD.1 hj).1;omega
        obtain⟨b8,e1⟩:=N9 j sA;have yP:(i*eW+j)%eW=j:=by rw[Nat.add_comm,Nat.add_mul_mod_self_right,Nat.mod_eq_of_lt sA]
        have:=W5 (n:=eW) Vj
        exact⟨zv.cells[j],by rw[kO _ (by omega),yP,e1],z3 j _ c (vA b8) hj⟩
       .cases hi
     obtain⟨dF,nA⟩:=hS.over hb hr g1 b9 (lo:=lo) (by rw[List.length_replicate];exact hl);refine⟨_,_,_,_,ρ,m,.inl (ex (v:=.tuple #[]) ?_),hK,nA,Z2,fun q=>(hm q).elim⟩;have bS:=ZkO (P:=P) (w:=w) (ρ s).b ((ρ s).o+lo*eW) g1 dF b9.one;obtain⟨Sk,rfl⟩:∃k,len=k+1:=⟨len-1,by omega⟩;simp[Builtin.clear_,run_underlying hu,hv,Bb,bS]
   .subst c0;simp only[List.replicate_zero,Zen]at hK;refine⟨_,w,_,_,ρ,m,.inl (ex (v:=.tuple #[]) (w':=w) ?_),hK,hS.same hb,Z2,fun q=>(hm q).elim⟩;cases a<;>simp[Builtin.clear_,run_underlying hu,hv]
  .exact h.elim
 .exact h.elim
theorem Zkx {n:Nat}{x:Operand}{x' xQ:bB}(hx:aU x=some x')(hn:0<n/\n<=1000000)
  (run:∀(A:Addr) (z:Int) (k:IntKind),act.eval x=.pointer (some A)->σ.o xQ=.pv (.int k z)->0<=z->z<=n->(execOp act.eval o).run P w=.ok (.value (.slice (some A) z.toNat n)) w)
  (h:cI (.FL n x' xQ) d K σ) (hS:Sat N w0 m0 pl σ ρ m act w):oG P N w0 m0 pl o act w K:=by
 simp only[cI]at h;have h1:=hS.aU hx;split at h
 .rename_i k z hz;split at h
  .rename_i s off ex;rw[ex]at h1;have hv:=h1.EW;split at h
   .rename_i gG hb;split at h
    .rename_i xs FO;obtain⟨⟨z0,z1,z2⟩,hK⟩:=h;obtain⟨_,nA,hm,nK⟩:=hS.Yl hb FO;obtain⟨ds,g1,g2,g3⟩:=Zgm (hS.bx s _ hb) FO hm nK;have hlen:((xs.drop off).take z.toNat).length=z.toNat:=by rw[gM,uQ];omega
     have get:∀(i:Nat) (y:PV),((xs.drop off).take z.toNat)[i]?=some y->xs[off+i]?=some y:=fun i y hy=>by
      rw[mH]at hy;split at hy
      .rwa [mW]at hy
      .cases hy
     refine⟨_,w,_,_,ρ,_,.inl (run _ z k hv hz z0 z1),hK,nA,.pv _ _ ?_,fun _=>Ext.tS _⟩;have hh:=dH.aF (m:=m.with w (ρ s)) (some ⟨(ρ s).b,off,none⟩) n false 1 ((xs.drop off).take z.toNat) (fun i=>match ds[off+i]? with|some d=>[d]|none=>[]) (by omega) (by omega) (fun e=>by cases e) (fun A hA=>by cases hA;rfl) (fun e=>by cases e)
      (fun i y hy=>?_) (fun i y hy=>?_) (fun i y j d c hy hd hc=>?_)
     .rw[hlen]at hh;exact hh
     .have T3:=get i y hy;have aI:off+i<ds.length:=by rw[g1];exact(cD.1 T3).1
      have hd:=bC aI;refine⟨_,_,rfl,?_⟩;rw[hd]
      have:=g2.get _ _ hd
      rw[sF]at this;rw[Nat.mul_one];exact⟨this,trivial⟩
     .have T3:=get i y hy;have aI:off+i<ds.length:=by rw[g1];exact(cD.1 T3).1
      have hd:=bC aI;rw[hd];obtain⟨q1,q2⟩:=g3 _ _ _ hd T3;refine⟨rfl,by rw[q2.Ln q1];rfl,fun u hu=>by simp at hu;subst hu;exact q1⟩
     .have T3:=get i y hy;have aI:off+i<ds.length:=by rw[g1];exact(cD.1 T3).1
      have JC:=bC aI;rw[JC]at hd;obtain⟨q1,q2⟩:=g3 _ _ _ JC T3;rw[q2.Ln q1]at hc;cases j with
      |zero=>simp at hd hc;subst hd hc;exact q2
      |succ j=>simp at hd
    .exact h.elim
   .exact h.elim
  .rename_i xs ex;rw[ex]at h1;obtain⟨⟨z0,z1,z2⟩,hK⟩:=h;obtain⟨b,off,ds,hv,g1,g2,g3,g4⟩:=h1.Fv;have hlen:(xs.take z.toNat).length=z.toNat:=by rw[gM];omega
   have get:∀(i:Nat) (y:PV),(xs.take z.toNat)[i]?=some y->xs[i]?=some y:=fun i y hy=>by
    rw[mH]at hy;split at hy
    .exact hy
    .cases hy
   refine⟨_,w,_,_,ρ,m,.inl (run _ z k hv hz z0 z1),hK,hS,.pv _ _ ?_,fun _=>Ext.tS _⟩;have hh:=dH.aF (m:=m) (some ⟨b,off,none⟩) n false 1 (xs.take z.toNat) (fun i=>match ds[i]? with|some d=>[d]|none=>[]) (by omega) (by omega) (fun e=>by cases e) (fun A hA=>by cases hA;rfl) (fun e=>by cases e)
    (fun i y hy=>?_) (fun i y hy=>?_) (fun i y j d c hy hd hc=>?_)
   .rw[hlen]at hh;exact hh
   .have T3:=get i y hy;have aI:i<ds.length:=by rw[g2];exact(cD.1 T3).1
    have hd:=bC aI;refine⟨_,_,rfl,?_⟩;rw[hd,Nat.mul_one];exact⟨g1.get _ _ hd,trivial⟩
   .have T3:=get i y hy;have aI:i<ds.length:=by rw[g2];exact(cD.1 T3).1
    have hd:=bC aI;rw[hd];have q1:=g3 _ (A2 aI);have q2:=g4 _ _ _ hd T3;refine⟨rfl,by rw[q2.Ln q1];rfl,fun u hu=>by simp at hu;subst hu;exact q1⟩
   .have T3:=get i y hy;have aI:i<ds.length:=by rw[g2];exact(cD.1 T3).1
    have JC:=bC aI;rw[JC]at hd;have q1:=g3 _ (A2 aI);have q2:=g4 _ _ _ JC T3;rw[q2.Ln q1]at hc;cases j with
    |zero=>simp at hd hc;subst hd hc;exact q2
    |succ j=>simp at hd
  .exact h.elim
 .exact h.elim
theorem ZsB {t e:TypeId}{n:Nat}{x hi:Operand}{x' xQ:bB}(hx:aU x=some x')(hh:aU hi=some xQ)(he:eI P t=some (e,1,some n))(hn:0<n/\n<=1000000)(ho:o.op=.slice t x none (some hi) none)
  (h:cI (.FL n x' xQ) d K σ) (hS:Sat N w0 m0 pl σ ρ m act w):oG P N w0 m0 pl o act w K:=by
 obtain⟨hu,hs⟩:=Ik he;refine Zkx hx hn (fun A z k ex hz z0 z1=>?_) h hS;have h2:=hS.aU hh;rw[hz]at h2;have ez:=h2.V7;unfold execOp;simp only[ho,ex,Sem.run_bind];have dA:¬n=0:=by omega
 simp[Instr.sliceAt,run_underlying hu,Instr.sliceBounds,run_sizeOf hs,ez,Instr.sliceBound,asIntOf,z0,z1,Instr.sureAddr,Addr.add]
theorem Zpq {t e:TypeId}{n:Nat}{x:Operand}{x':bB}(hx:aU x=some x')(he:eI P t=some (e,1,some n))(hn:0<n/\n<=1000000)(ho:o.op=.slice t x none none none)
  (h:cI (.FL n x' (.c (.int .i64 n))) d K σ) (hS:Sat N w0 m0 pl σ ρ m act w):oG P N w0 m0 pl o act w K:=by
 obtain⟨hu,hs⟩:=Ik he;refine Zkx hx hn (fun A z k ex hz z0 z1=>?_) h hS;have Kd:(n:Int)=z:=by
  have P8:AV.pv (.int .i64 n)=AV.pv (.int k z):=hz;injection P8 with Kc;injection Kc
 subst Kd;unfold execOp;simp only[ho,ex,Sem.run_bind];have dA:¬n=0:=by omega
 simp[Instr.sliceAt,run_underlying hu,Instr.sliceBounds,run_sizeOf hs,Instr.sureAddr,Addr.add]
theorem Ziu {W:Nat}:∀{k:Nat} {xs:List PV} {i:Nat} {y:PV},(oM W k xs)[i]?=some y->i<k/\y=.agg ((xs.drop (i*W)).take W)
 |0,xs,i,y,h=>by simp[oM]at h
 |k+1,xs,0,y,h=>by
  simp only[oM,List.getElem?_cons_zero,Option.some.injEq]at h;exact⟨by omega,by rw[<-h,Nat.zero_mul,List.drop_zero]⟩
 |k+1,xs,i+1,y,h=>by
  simp only[oM,List.getElem?_cons_succ]at h;obtain⟨h1,h2⟩:=Ziu h;refine⟨by omega,?_⟩;rw[h2,List.drop_drop];congr 3;rw[Nat.succ_mul];omega
theorem Zit {W:Nat}:∀{k:Nat} {xs:List PV},(oM W k xs).length=k
 |0,xs=>rfl
 |k+1,xs=>by simp only[oM,pI,Zit]
theorem Zpo {n W:Nat}{x:Operand}{x' xQ:bB}(hx:aU x=some x')(hn:0<n/\n<=1000000)
  (run:∀(A:Addr) (z:Int) (k:IntKind),act.eval x=.pointer (some A)->σ.o xQ=.pv (.int k z)->0<=z->z<=n->(execOp act.eval o).run P w=.ok (.value (.slice (some A) z.toNat n)) w)
  (h:cI (.ZM n W x' xQ) d K σ) (hS:Sat N w0 m0 pl σ ρ m act w):oG P N w0 m0 pl o act w K:=by
 simp only[cI]at h;have h1:=hS.aU hx;split at h
 .rename_i k z hz;split at h
  .rename_i s off ex;rw[ex]at h1;have hv:=h1.EW;split at h
   .rename_i gG hb;split at h
    .rename_i xs FO;obtain⟨⟨z0,z1,z2⟩,hK⟩:=h;obtain⟨_,nA,hm,nK⟩:=hS.Yl hb FO;obtain⟨ds,g1,g2,g3⟩:=Zgm (hS.bx s _ hb) FO hm nK;have hlen:(oM W z.toNat (xs.drop off)).length=z.toNat:=Zit;have get:∀(i:Nat) (y:PV),(oM W z.toNat (xs.drop off))[i]?=some y->off+i*W+W<=xs.length/\y=.agg ((xs.drop (off+i*W)).take W):=fun i y hy=>by
      obtain⟨q1,q2⟩:=Ziu hy;have h3:i+1<=n:=by omega
      have h4:=I5 W h3;rw[Nat.succ_mul]at h4;exact⟨by omega,by rw[q2,List.drop_drop]⟩
     refine⟨_,w,_,_,ρ,_,.inl (run _ z k hv hz z0 z1),hK,nA,.pv _ _ ?_,fun _=>Ext.tS _⟩;have hh:=dH.aF (m:=m.with w (ρ s)) (some ⟨(ρ s).b,off,none⟩) n false W (oM W z.toNat (xs.drop off)) (fun i=>(ds.drop (off+i*W)).take W) (by omega) (by omega) (fun e=>by cases e) (fun A hA=>by cases hA;rfl) (fun e=>by cases e)
      (fun i y hy=>?_) (fun i y hy=>?_) (fun i y j d c hy hd hc=>?_)
     .rw[hlen]at hh;exact hh
     .refine⟨_,_,rfl,At.j8 (fun j u hj=>?_)⟩;rw[mH]at hj;split at hj
      .rw[mW]at hj
       have:=g2.get _ _ hj
       rw[sF]at this;rw[Nat.add_assoc]at this ⊢;exact this
      .cases hj
     .obtain⟨q1,rfl⟩:=get i y hy;refine⟨by rw[gM,uQ];omega,?_,fun u hu=>?_⟩
      .show((xs.drop (off+i*W)).take W).length=W;rw[gM,uQ];omega
      .obtain⟨j,hj⟩:=iO.1 hu;rw[mH]at hj;split at hj
       .rw[mW]at hj;have aI:off+i*W+j<xs.length:=by rw[<-g1];exact(cD.1 hj).1
        exact(g3 _ _ _ hj (bC aI)).1
       .cases hj
     .obtain⟨q1,rfl⟩:=get i y hy;rw[mH]at hd;have tD:((xs.drop (off+i*W)).take W)[j]?=some c:=hc;rw[mH]at tD;split at hd
      .rw[if_pos (by assumption),mW]at tD;rw[mW]at hd;exact(g3 _ _ _ hd tD).2
      .cases hd
    .exact h.elim
   .exact h.elim
  .exact h.elim
 .exact h.elim
theorem ZsA {t e:TypeId}{n W:Nat}{x hi:Operand}{x' xQ:bB}(hx:aU x=some x')(hh:aU hi=some xQ)(he:eI P t=some (e,W,some n))(hn:0<n/\n<=1000000)(ho:o.op=.slice t x none (some hi) none)
  (h:cI (.ZM n W x' xQ) d K σ) (hS:Sat N w0 m0 pl σ ρ m act w):oG P N w0 m0 pl o act w K:=by
 obtain⟨hu,hs⟩:=Ik he;refine Zpo hx hn (fun A z k ex hz z0 z1=>?_) h hS;have h2:=hS.aU hh;rw[hz]at h2;have ez:=h2.V7;unfold execOp;simp only[ho,ex,Sem.run_bind];have dA:¬n=0:=by omega
 simp[Instr.sliceAt,run_underlying hu,Instr.sliceBounds,run_sizeOf hs,ez,Instr.sliceBound,asIntOf,z0,z1,Instr.sureAddr,Addr.add]
end
def Zvi (P:Program)(t:TypeId):Option TypeId:=match P.underlying t with
 |some (.struct fs)=>match fs[1]? with
  |some fl=>match P.underlying fl.type with
   |some (.slice e)=>match P.underlying e with
    |some (.int .u8)=>some e
    |_=>none
   |_=>none
  |none=>none
 |_=>none
def nZ (P:Program):Op->Option W6
 |.binOp .add t x y _=>match aU x,aU y,P.underlying t with
  |some x,some y,some .string=>some (.fT x y)
  |_,_,_=>none
 |.binOp .eql t x y _=>match aU x,aU y,P.underlying t with
  |some x,some (.c .eY),some (.interface _)=>some (.MJ false x)
  |_,_,_=>none
 |.binOp .neq t x y _=>match aU x,aU y,P.underlying t with
  |some x,some (.c .eY),some (.interface _)=>some (.MJ true x)
  |_,_,_=>none
 |.makeInterface t x=>match aU x,P.underlying t with
  |some _,some (.interface _)=>none
  |some x,some _=>some (.sN t x)
  |_,_=>none
 |.alloc t=>match gX P t with
  |some v=>match v.cells.toList with
   |[.pointer none,.slice none 0 0]=>match Zvi P t with
    |some e=>some (.Fo t e)
    |none=>none
   |_=>none
  |none=>none
 |.panic x=>match aU x with
  |some x=>some (.B8 x)
  |none=>none
 |.typeAssert x _ t true=>match aU x,P.underlying t,sH P t with
  |some _,some (.interface _),_=>none
  |some x,some _,some z=>some (.LX t z x)
  |_,_,_=>none
 |.index t x i=>match aU x,aU i,P.underlying t with
  |some x,some i,some .string=>some (.B3 x i)
  |_,_,_=>none
 |.slice t x lo hi none=>match aU x,P.underlying t,uA lo,uA hi with
  |some x,some .string,some lo,some hi=>some (.VB x lo hi)
  |_,_,_,_=>none
 |.convert src dst x=>match aU x,P.underlying src,P.underlying dst with
  |some x,some (.slice e),some .string=>match P.underlying e with
   |some (.int .u8)=>some (.PK x)
   |_=>none
  |some x,some .string,some (.slice e)=>match P.underlying e with
   |some (.int .u8)=>some (.BS e x)
   |_=>none
  |_,_,_=>none
 |.call c=>match c.callee with
  |.builtin .len=>match c.args.toList,c.argTypes.toList with
   |[x],[t]=>match aU x,P.underlying t with
    |some y,some .string=>some (.rP y)
    |_,_=>none
   |_,_=>none
  |.builtin .append=>match c.args.toList,c.argTypes.toList with
   |[x,y],[t,u]=>match aU x,aU y,eI P t,P.underlying u with
    |some x,some y,some (e,n,none),some .string=>match sH P e,P.info? e with
     |some z,some i=>if n=1/\z.cells.length=n then some (.WU e n i.bytes x y)else none
     |_,_=>none
    |_,_,_,_=>none
   |_,_=>none
  |_=>none
 |_=>none
theorem ZnP {x:Option Operand}{x':Option bB}(h:uA x=some x'):(x=none/\x'=none)\/∃a a',x=some a/\x'=some a'/\aU a=some a':=by
 cases x with
 |none=>simp[uA]at h;exact .inl ⟨rfl,h.symm⟩
 |some a=>
  simp only[uA,eB]at h;obtain⟨a',h1,h2⟩:=h;exact .inr ⟨a,a',rfl,h2.symm,h1⟩
theorem Zgo {x:PV}{r:List PV}{ns:List Int}(h:BC (x::r)=some ns):∃n ms,x=.int .u8 n/\BC r=some ms/\ns=n::ms:=by
 unfold BC at h;split at h
 .rename_i e;cases e
 .rename_i n r' e;cases e;obtain⟨ms,h1,h2⟩:=eB.1 h;exact⟨n,ms,rfl,h1,h2.symm⟩
 .cases h
theorem Zg4 {m:Mem}:∀{xs:List PV} {ns:List Int} {vs:List Value},BC xs=some ns->vs.length=xs.length->(∀(i:Nat) (x:PV) (v:Value),xs[i]?=some x->vs[i]?=some v->dH m v x)->vs=ns.map (Value.int .u8)
 |[],ns,vs,h,hl,_=>by
  cases h;exact List.eq_nil_of_length_eq_zero hl
 |x::r,ns,[],h,hl,_=>by simp at hl
 |x::r,ns,v::vs,h,hl,hr=>by
  obtain⟨n,ms,rfl,h1,rfl⟩:=Zgo h;have h0:=hr 0 _ _ rfl rfl;have e:=Zg4 (vs:=vs) h1 (by simpa using hl) fun i y u k1 k2=>hr (i+1) y u (by simpa using k1) (by simpa using k2)
  cases h0;rw[e];rfl
theorem Zg5:∀{xs:List PV} {ns:List Int} {y:PV},BC xs=some ns->y∈xs->∃n,∃k,y=.int k n
 |x::r,ns,y,h,hy=>by
  obtain⟨n,ms,rfl,h1,_⟩:=Zgo h;rcases jT.1 hy with rfl|hy
  .exact⟨n,.u8,rfl⟩
  .exact Zg5 h1 hy
theorem ZgB:∀(ns:List Int) (r:ByteArray),ns.foldl (fun r n=>r.push (UInt8.ofNat n.toNat)) r=⟨r.data++(ns.map fun n=>UInt8.ofNat n.toNat).toArray⟩
 |[],r=>by simp
 |n::ns,r=>by
  rw[List.foldl_cons,ZgB ns];simp[ByteArray.push]
section
variable {G:World->Prop}{P:Program}{N:Nat}{w0:World}{m0:Env w0}{pl:List Nat}{σ:AS}{ρ:Site->Loc}{m:Mem}{act:Act}{w:World}{o:Oper}{d:Nat}{K:AV->AS->Prop}
theorem bQ.TQ {v:Value}{s:ByteArray}(h:bQ ρ m v (.pv (.str s))):v=.string s:=by
 cases h with
 |pv _ _ h=>cases h;rfl
theorem Zuo {t e:TypeId}{v:Value}(hv:gX P t=some v)(hc:v.cells.toList=[.pointer none,.slice none 0 0])(ho:o.op=.alloc t)(h:cI (.Fo t e) d K σ)(hS:Sat N w0 m0 pl σ ρ m act w):oG P N w0 m0 pl o act w K:=by
 simp only[cI]at h;have tD:v.cells=#[.pointer none,.slice none 0 0]:=xS.1 hc;have hP:=hS.bG d;have hn:=rG.bG d σ;have hh:(w.alloc (.cells v.cells t)).heap[w.heap.size]?=some (.cells #[.pointer none,.slice none 0 0] t (0,0)):=by rw[tD];exact heap_alloc_new w _
 have hu:=S0 ρ (.loc d 0) ⟨w.heap.size,0,0,true⟩;have M8:=hP.Zyc d 0 hn v.cells t 0 (box:=.ext (EH t e [])) ⟨by rw[hu],by rw[hu];exact⟨_,_,hh,.inl rfl,.inl ⟨rfl,rfl⟩⟩⟩ (fun k hk=>by
  rw[hu]at hk;have WG:k∈zE ⟨w.heap.size,0,0,true⟩ (w.alloc (.cells v.cells t)):=hk;rw[Zi5 (q:=⟨w.heap.size,0,0,true⟩) hh]at WG;cases WG)
 refine⟨.pointer (some ⟨w.heap.size,0,none⟩),w.alloc (.cells v.cells t),_,_,_,m,.inl ?_,h,M8,?_,fun _=>Ext.al w _⟩
 .unfold execOp;simp only[ho,Sem.run_bind,Zns hv,Result.andThen_ok];rfl
 .have:=bQ.ptr (ρ:=iQ ρ (.loc d 0) ⟨w.heap.size,0,0,true⟩) (m:=m) (.loc d 0) 0
  rw[hu]at this;exact this
theorem Zpt {t u:TypeId}{x y:Operand}{x' y':bB}(hx:aU x=some x')(hy:aU y=some y')(ho:o.op=.binOp .add t x y u)
  (h:cI (.fT x' y') d K σ) (hS:Sat N w0 m0 pl σ ρ m act w):dB G P σ ρ m o act w K:=by
 simp only[cI]at h;have h1:=hS.aU hx;have h2:=hS.aU hy;split at h
 .rename_i a b ea eb;obtain⟨hb,hK⟩:=h;rw[ea]at h1;rw[eb]at h2;refine .pure hS (v:=.string (a++b)) ?_ (.pv _ _ (.str _)) hK;intro w' _;unfold execOp;simp only[ho,h1.TQ,h2.TQ];simp[eqGuard,binOp,run_string_add_sum w' a b hb]
 .exact h.elim
theorem ZgI {y:Operand}(h:aU y=some (.c .eY)):y=.const .nilIface:=by
 cases y with
 |tmp k=>cases h
 |const v=>
  simp only[aU,eB]at h;obtain⟨x,h1,h2⟩:=h;cases h2;unfold nW at h1;split at h1<;>first|(cases h1;done)|rfl
 |func f=>cases h
 |global g=>cases h
theorem XS {m:Mem}{a b:Value}{x y:PV}(h:dH m a x)(k:dH m b y):dH m (.tuple #[a,b]) (.bN [x,y]):=.bN _ _ rfl fun j d c h1 h2=>by
 rcases j with _|_|j
 .cases h1;cases h2;exact h
 .cases h1;cases h2;exact k
 .cases h2
theorem ZlW (w:World)(t:TypeId)(ms:Array (String×TypeId))(hu:P.underlying t=some (.interface ms)):(Op.equal t .nilIface .nilIface).run P w=.ok true w:=by
 have:∀d,(Op.equalIn (d+1) t .nilIface .nilIface).run P w=.ok true w:=fun d=>by simp[Op.equalIn,run_underlying hu]
 exact this 9999
theorem Zjh (w:World)(t:TypeId)(ms:Array (String×TypeId))(hu:P.underlying t=some (.interface ms))(u:TypeId)(v:Value):(Op.equal t (.iface u v) .nilIface).run P w=.ok false w:=by
 have:∀d,(Op.equalIn (d+1) t (.iface u v) .nilIface).run P w=.ok false w:=fun d=>by simp[Op.equalIn,run_underlying hu]
 exact this 9999
theorem ZnW {neg:Bool}{t u:TypeId}{x y:Operand}{x':bB}{ms:Array (String×TypeId)}(hx:aU x=some x')(hy:aU y=some (.c .eY))(hu:P.underlying t=some (.interface ms))(ho:o.op=.binOp (if neg=true then .neq else .eql) t x y u)
  (h:cI (.MJ neg x') d K σ) (hS:Sat N w0 m0 pl σ ρ m act w):dB G P σ ρ m o act w K:=by
 simp only[cI]at h;have h1:=hS.aU hx;split at h
 .rename_i ex;rw[ex]at h1;have e:act.eval x=.nilIface:=by
   have h2:=h1.nN;generalize act.eval x=u at h2;cases h2;rfl
  refine .pure hS (v:=.bool (!neg)) ?_ (.pv _ _ (.bool _)) h;intro w' _;unfold execOp;obtain rfl:=ZgI hy;have e2:act.eval (.const .nilIface)=.nilIface:=rfl;cases neg<;>simp[ho,e,e2,binOp,eqGuard_nil_constR,fun w=>ZlW w t ms hu]
 .rename_i tt xx ex;rw[ex]at h1;obtain⟨v,e⟩:∃v,act.eval x=.iface tt v:=by
   have h2:=h1.nN;generalize act.eval x=u at h2;cases h2 with|iface _ v _ _=>exact⟨v,rfl⟩
  refine .pure hS (v:=.bool neg) ?_ (.pv _ _ (.bool _)) h;intro w' _;unfold execOp;obtain rfl:=ZgI hy;have e2:act.eval (.const .nilIface)=.nilIface:=rfl;cases neg<;>simp[ho,e,e2,binOp,eqGuard_at_iface,fun w u v=>Zjh w t ms hu u v]
 .exact h.elim
theorem Ztk {t:TypeId}{x:Operand}{x':bB}{td:TypeDesc}(hx:aU x=some x')(hu:P.underlying t=some td)(M7:∀ms,td≠.interface ms)(ho:o.op=.makeInterface t x)
  (h:cI (.sN t x') d K σ) (hS:Sat N w0 m0 pl σ ρ m act w):dB G P σ ρ m o act w K:=by
 simp only[cI]at h;have h1:=hS.aU hx;split at h
 .rename_i a ex;rw[ex]at h1;refine .pure hS (v:=.iface t (act.eval x)) ?_ (.pv _ _ (.iface _ _ _ h1.nN)) h;intro w' _;unfold execOp;simp only[ho,Instr.makeInterface,Sem.run_bind,run_underlying hu];cases td<;>first|rfl|exact absurd rfl (M7 _)
 .exact h.elim
theorem ZlM {e:TypeId}{z:PV}(hz:sH P e=some z)(m:Mem):∃zv,(∀w,(zeroValue e).run P w=.ok zv w)/\dH m zv z:=by
 cases hv:gX P e with
 |none=>unfold sH at hz;simp[hv]at hz
 |some zz=>
  refine⟨zz,LF hv,?_⟩;obtain⟨v,q1,q2⟩:=Ih hz (default:World) m;rw[LF hv]at q1;cases q1;exact q2
theorem Zsj {t s:TypeId}{x:Operand}{x':bB}{td:TypeDesc}{z:PV}(hx:aU x=some x')(hu:P.underlying t=some td)(M7:∀ms,td≠.interface ms)(hz:sH P t=some z)(ho:o.op=.typeAssert x s t true)
  (h:cI (.LX t z x') d K σ) (hS:Sat N w0 m0 pl σ ρ m act w):dB G P σ ρ m o act w K:=by
 simp only[cI]at h;have h1:=hS.aU hx;obtain⟨zv,MT,hzm⟩:=ZlM hz m;split at h
 .rename_i ex;rw[ex]at h1;have e:act.eval x=.nilIface:=by
   have h2:=h1.nN;generalize act.eval x=u at h2;cases h2;rfl
  refine .pure hS (v:=.tuple #[zv,.bool false]) ?_ (.pv _ _ (XS hzm (.bool _))) h;intro w' _;unfold execOp;simp only[ho,e,Instr.typeAssert,Sem.run_bind,run_underlying hu];cases td<;>first|exact absurd rfl (M7 _)|simp[MT w']
 .rename_i tt a ex;rw[ex]at h1;obtain⟨v,e,hv⟩:∃v,act.eval x=.iface tt v/\dH m v a:=by
   have h2:=h1.nN;generalize act.eval x=u at h2;cases h2 with|iface _ v _ k=>exact⟨v,rfl,k⟩
  by_cases Kj:tt=t
  .rw[if_pos Kj]at h;refine .pure hS (v:=.tuple #[v,.bool true]) ?_ (.pv _ _ (XS hv (.bool _))) h;intro w' _;unfold execOp;simp only[ho,e,Instr.typeAssert,Sem.run_bind,run_underlying hu];cases td<;>first|exact absurd rfl (M7 _)|simp[Kj]
  .rw[if_neg Kj]at h;refine .pure hS (v:=.tuple #[zv,.bool false]) ?_ (.pv _ _ (XS hzm (.bool _))) h;intro w' _;unfold execOp;simp only[ho,e,Instr.typeAssert,Sem.run_bind,run_underlying hu];cases td<;>first|exact absurd rfl (M7 _)|simp[Kj,MT w']
 .exact h.elim
theorem Zpp {t:TypeId}{c:Call}{x:Operand}{x':bB}(hx:aU x=some x')(hu:P.underlying t=some .string)(hc:c.callee=.builtin .len)(ha:c.args.toList=[x])(ht:c.argTypes.toList=[t])(ho:o.op=.call c)
  (h:cI (.rP x') d K σ) (hS:Sat N w0 m0 pl σ ρ m act w):dB G P σ ρ m o act w K:=by
 simp only[cI]at h;have h1:=hS.aU hx;have fY:c.args=#[x]:=xS.1 (by simpa using ha);have sZ:c.argTypes=#[t]:=xS.1 (by simpa using ht);split at h
 .rename_i s es;rw[es]at h1;refine .pure hS (v:=.int .i64 s.size) ?_ (.pv _ _ (.int _ _)) h;intro w' _;unfold execOp;simp only[ho];simp[resolve,hc,fY,sZ,invoke,builtin,Builtin.len_,run_underlying hu,h1.TQ,goInt]
 .exact h.elim
theorem Zps {t:TypeId}{x i:Operand}{x' i':bB}(hx:aU x=some x')(hi:aU i=some i')(hu:P.underlying t=some .string)(ho:o.op=.index t x i)
  (h:cI (.B3 x' i') d K σ) (hS:Sat N w0 m0 pl σ ρ m act w):dB G P σ ρ m o act w K:=by
 simp only[cI]at h;have h1:=hS.aU hx;have h2:=hS.aU hi;split at h
 .rename_i s k z es ei;rw[es]at h1;rw[ei]at h2;split at h
  .rename_i b hb;refine .pure hS (v:=.int .u8 b.toNat) ?_ (.pv _ _ (.int _ _)) h;intro w' _;have nT:(if 0<=z then s[z.toNat]? else none)=some b:=hb;unfold execOp;simp only[ho,h1.TQ,h2.V7];simp[Instr.index,asIntOf,run_underlying hu,nT]
  .exact h.elim
 .exact h.elim
theorem Zss {t:TypeId}{x:Operand}{x':bB}{lo hi:Option Operand}{VJ xQ:Option bB}(hx:aU x=some x')(hu:P.underlying t=some .string)(lD:uA lo=some VJ)(Cv:uA hi=some xQ)
  (ho:o.op=.slice t x lo hi none) (h:cI (.VB x' VJ xQ) d K σ) (hS:Sat N w0 m0 pl σ ρ m act w):dB G P σ ρ m o act w K:=by
 simp only[cI]at h;have h1:=hS.aU hx;split at h
 .rename_i s es;rw[es]at h1;split at h
  .rename_i l z el ez;obtain⟨⟨l0,l1,l2⟩,hK⟩:=h;refine .pure hS (v:=.string (s.extract l.toNat z.toNat)) ?_ (.pv _ _ (.str _)) hK;intro w' _;have el':=XN (ZnP lD) hS el;have eh':=XN (ZnP Cv) hS ez;unfold execOp;simp only[ho,h1.TQ,Sem.run_bind];have z0:0<=z:=by omega
   have l3:l<=(s.size:Int):=by omega
   have l4:l<=(z.toNat:Int):=by omega
   rcases el' with⟨rfl,rfl⟩|⟨b,k,rfl,eb⟩<;>rcases eh' with⟨rfl,rfl⟩|⟨b2,k2,rfl,Es⟩
   .simp[Instr.sliceAt,run_underlying hu,Instr.slice,Instr.sliceBounds]
   .simp[Instr.sliceAt,run_underlying hu,Instr.slice,Instr.sliceBounds,Es,Instr.sliceBound,asIntOf,l2,z0]
   .simp[Instr.sliceAt,run_underlying hu,Instr.slice,Instr.sliceBounds,eb,Instr.sliceBound,asIntOf,l0,l3]
   .simp[Instr.sliceAt,run_underlying hu,Instr.slice,Instr.sliceBounds,eb,Es,Instr.sliceBound,asIntOf,l0,l2,z0];intro h5;omega
  .exact h.elim
 .exact h.elim
theorem Zsx {src dst e:TypeId}{x:Operand}{x':bB}(hx:aU x=some x')(hs:P.underlying src=some (.slice e))(he:P.underlying e=some (.int .u8))(hd:P.underlying dst=some .string)(ho:o.op=.convert src dst x)
  (h:cI (.PK x') d K σ) (hS:Sat N w0 m0 pl σ ρ m act w):oG P N w0 m0 pl o act w K:=by
 simp only[cI]at h;split at h
 .rename_i xs hc;split at h
  .rename_i ns hn;obtain⟨a,cap,ds,hv,hf,oX⟩:=Gs (by decide) hS (hS.aU hx) hc;have qI:ds.length=xs.length:=by have:=hf.len;omega
   have oA:ds=ns.map (Value.int .u8):=Zg4 hn qI fun i y u k1 k2=>by
    obtain⟨q1,q2⟩:=hf.get i y k1;obtain⟨n,ms,hy⟩:∃n,∃k,y=.int k n:=by
     obtain⟨j,hj⟩:=iO.1 (dL k1);exact Zg5 hn (dL k1)
    subst hy;obtain⟨u',q3,q4⟩:=q2 0 _ rfl;rw[Nat.mul_one,Nat.add_zero,k2]at q3;cases q3;exact q4
   have hr:(execOp act.eval o).run P w=.ok (.value (.string (KJ ns))) w:=by
    have hb:(Conv.bytesToString (.slice a xs.length cap)).run P w=.ok (.string (KJ ns)) w:=by
     cases a with
     |none=>
      have h0:ds=[]:=by
       cases ds with
       |nil=>rfl
       |cons u l=>
        obtain⟨b,q,h1,_⟩:=oX 0 u rfl;cases h1
      rw[h0]at oA
      have:ns=[]:=List.map_eq_nil_iff.1 oA.symm
      subst this;rfl
     |some A=>
      have IQ:(loadCells A xs.length).run P w=.ok (ns.map (Value.int .u8)).toArray w:=by
       rw[<-oA,<-qI];refine run_loadCells_list w A ds fun j v hj=>?_
       obtain⟨b,q,h1,h2⟩:=oX j v hj;cases h1;by_cases Kt:j=0
       .subst Kt;simpa[Addr.add]using h2
       .simpa[Addr.add,Kt]using h2
      rw[run_bytesToString w A xs.length cap ns IQ,ZgB];simp[KJ]
    unfold execOp;simp only[ho,hv,Sem.run_bind,run_convert_bytes_string w src dst e a xs.length cap hs he hd,hb];rfl
   exact⟨_,w,_,_,ρ,m,.inl hr,h,hS,.pv _ _ (.str _),fun _=>Ext.tS _⟩
  .exact h.elim
 .exact h.elim
theorem Zg3 (w:World)(e:TypeId)(s:ByteArray):Ext w (Lib.bytesWorld w e s):=by
 refine⟨?_,?_,?_,?_,fun k hk=>Lib.bytesWorld_at_old w e s k hk⟩
 .simp[Lib.bytesWorld,World.freeze,World.alloc,World.drew,-World.alloc_eq,-World.drew_eq]
 .simp[Lib.bytesWorld,World.freeze,World.alloc,World.drew,-World.alloc_eq,-World.drew_eq]
 .simp[Lib.bytesWorld,World.freeze,World.alloc,World.drew,-World.alloc_eq,-World.drew_eq]
 .rw[Lib.bytesWorld_size];omega
theorem ZeK {s:ByteArray}{i:Nat}{x:PV}(h:(qN s)[i]?=some x):i<s.size/\x=.int .u8 (s.data.toList.getD i 0).toNat:=by
 unfold qN at h;rw[bY]at h;obtain⟨b,h1,rfl⟩:=eB.1 h;have hl:=(cD.1 h1).1;refine⟨by simpa using hl,?_⟩;rw[List.getD_eq_getElem?_getD,h1];rfl
theorem Pd {s:ByteArray}:(qN s).length=s.size:=by simp[qN]
theorem Zpu {src dst e:TypeId}{x:Operand}{x':bB}(hx:aU x=some x')(hs:P.underlying src=some .string)(hd:P.underlying dst=some (.slice e))(he:P.underlying e=some (.int .u8))(ho:o.op=.convert src dst x)
  (h:cI (.BS e x') d K σ) (hS:Sat N w0 m0 pl σ ρ m act w):oG P N w0 m0 pl o act w K:=by
 simp only[cI]at h;have h1:=hS.aU hx;split at h
 .rename_i s es;rw[es]at h1;obtain⟨fI,hK⟩:=h;have hr:(execOp act.eval o).run P w=.ok (.value (.slice (some ⟨w.heap.size,0,none⟩) s.size (grownCap w s.size 0 e))) (Lib.bytesWorld w e s):=by
   unfold execOp;simp only[ho,h1.TQ,Sem.run_bind,Lib.run_convert_string_bytes w src dst e s hs hd he];rfl
  have rX:=Zg3 w e s;have wP:=hS.ext rX;have E9:∀o,m w.heap.size o=none:=fun o=>hS.Ga (fH _) o
  let m':Mem:=fun b q=>if b=w.heap.size then(Lib.bytesWorld w e s).cell? ⟨b,q,none⟩else m b q
  have hm:Le m m':=fun b q v hv=>by
   show(if b=w.heap.size then _ else m b q)=some v;by_cases hb:b=w.heap.size
   .subst hb;rw[E9 q]at hv;cases hv
   .rw[if_neg hb];exact hv
  have nA:Sat N w0 m0 pl σ ρ m' act (Lib.bytesWorld w e s):=by
   refine wP.Zyd hm (fun b q v hv=>?_) (fun t b k hb hk q=>?_) (fun b q v hv=>?_)
   .have rY:(if b=w.heap.size then(Lib.bytesWorld w e s).cell? ⟨b,q,none⟩else m b q)=some v:=hv;by_cases hb:b=w.heap.size
    .rw[if_pos hb]at rY;exact rY
    .rw[if_neg hb]at rY;exact wP.mem b q v rY
   .show(if k=w.heap.size then _ else m k q)=none;have aI:=hS.G8 hb (((hS.bx t b hb).dS (fun r=>rX.block _ (hS.lt hb r))).1 hk);rw[if_neg (by omega)];exact wP.eQ t b k hb hk q
   .have rY:(if b=w.heap.size then(Lib.bytesWorld w e s).cell? ⟨b,q,none⟩else m b q)=some v:=hv;by_cases hb:b=w.heap.size
    .exact .inr (.inl (by rw[hb];exact hS.keep.size))
    .rw[if_neg hb]at rY;exact .inl rY
  have yT:=grownCap_ge w s.size 0 e;have hle:=grownCap_le_maxLen w s.size 0 e (by unfold maxLen;omega);have Cm:grownCap w s.size 0 e<=9223372036854775807:=by unfold maxLen at hle;omega
  have oX:∀j,j<s.size->m' w.heap.size j=some (.int .u8 (s.data.toList.getD j 0).toNat):=fun j hj=>by
   show(if w.heap.size=w.heap.size then _ else _)=_;rw[if_pos rfl];exact Lib.bytesWorld_cell w e s j hj
  refine⟨_,_,_,_,ρ,m',.inl hr,hK,nA,.pv _ _ ?_,fun _=>rX⟩
  have:=dH.aF (m:=m') (some ⟨w.heap.size,0,none⟩) (grownCap w s.size 0 e) false 1 (qN s) (fun i=>[.int .u8 (s.data.toList.getD i 0).toNat]) (by rw[Pd];exact yT) Cm (fun h=>by cases h) (fun A hA=>by cases hA;rfl) (fun h=>by cases h)
   (fun i y hy=>⟨w.heap.size,0,rfl,At.j8 (fun j u hj=>by
    cases j with
    |zero=>
     cases hj
     have:=oX i (ZeK hy).1
     simpa using this
    |succ j=>cases hj)⟩)
   (fun i y hy=>by
    obtain⟨_,rfl⟩:=ZeK hy;exact⟨rfl,rfl,fun u hu=>by cases sG.1 hu;rfl⟩)
   (fun i y j u c hy hu hc=>by
    obtain⟨_,rfl⟩:=ZeK hy;cases j with
    |zero=>cases hu;cases hc;exact .int _ _
    |succ j=>cases hu)
  rw[Pd]at this;exact this
 .exact h.elim
theorem Zl8 (m:Mem)(s:ByteArray):Flat m (Go.byteCells s) 1 (qN s):=by
 refine⟨by rw[Go.byteCells_length,Pd,Nat.mul_one],fun u hu=>?_,fun i x hi=>?_⟩
 .obtain⟨_,_,rfl⟩:=iN.1 hu;rfl
 .unfold qN at hi;rw[bY]at hi;obtain⟨b,hb,rfl⟩:=eB.1 hi;refine⟨rfl,fun j c hj=>?_⟩
  match j with
  |0=>
   cases hj;refine⟨.int .u8 b.toNat,?_,.int _ _⟩;unfold Go.byteCells;rw[Nat.mul_one,Nat.add_zero,bY,hb];rfl
  |j+1=>simp[PV.cells]at hj
theorem Zeq {t u ty e:TypeId}{i:TypeInfo}{z:Value}(ht:P.underlying t=some (.slice e))(hu:P.underlying u=some .string)(hi:P.info? e=some i)(hz:i.zero=some z)(ba:Option Addr)(fJ dN:Nat)(s:ByteArray)(k:Nat)(hk:s.size=k)(dW news:List Value)
  (ho:∀w',(∀A,w'.cell? A=w.cell? A)->(Builtin.firstCells i.size fJ (.slice ba fJ dN)).run P w'=.ok dW.toArray w') (hn:∀w',(∀A,w'.cell? A=w.cell? A)->(Builtin.firstCells i.size s.size (.string s)).run P w'=.ok news.toArray w')
  (hg:dN<fJ+k) (Ei:((fJ+k:Nat):Int)<=9223372036854775807) (dF:Builtin.nextslicecap (fJ+k) dN*i.bytes<=281474976710656):
  (Builtin.append_ #[t,u] ty #[.slice ba fJ dN,.string s]).run P w =
   .ok (.slice (some ⟨w.heap.size,0,none⟩) (fJ+k) (grownCap w (fJ+k) dN e)) (w.drew.alloc (.cells ((dW++news).toArray++Builtin.zeroCells z.cells (grownCap w (fJ+k) dN e-(fJ+k))) e)):=by
 subst hk;have FT:¬(fJ+s.size<=dN):=by omega
 have SQ:¬(9223372036854775807<((fJ:Int)+(s.size:Int))):=by omega
 have SR:¬(281474976710656<Builtin.nextslicecap (fJ+s.size) dN*i.bytes):=by omega
 have f1:=ho w.drew (fun A=>rfl);have f2:=hn w.drew (fun A=>rfl);simp[Builtin.append_,run_underlying ht,run_underlying hu,sizeOf,typeInfo,zeroValue,hi,hz,Builtin.lenOf,FT,SQ,SR,Question.forced,f1,f2,newRow,grownCap];rw[<-List.append_toArray,Array.append_assoc]
theorem Zgy {t u ty e:TypeId}{i:TypeInfo}(ht:P.underlying t=some (.slice e))(hu:P.underlying u=some .string)(hi:P.info? e=some i)(g q fJ dN:Nat)(cur:Array Value)(hg:w.heap[g]?=some (.cells cur e (0,0)))(s:ByteArray)(k:Nat)(hk:s.size=k)(news:List Value)
  (hn:(Builtin.firstCells i.size s.size (.string s)).run P w=.ok news.toArray w) (h1:∀u∈news,u.oneCell'=true) (eS:fJ+k<=dN) (dF:q+fJ*i.size+news.length<=cur.size):
  (Builtin.append_ #[t,u] ty #[.slice (some ⟨g,q,none⟩) fJ dN,.string s]).run P w=.ok (.slice (some ⟨g,q,none⟩) (fJ+k) dN) (w.setRow g (aR cur.toList (q+fJ*i.size) news).toArray):=by
 subst hk;have bS:=run_storeCells_at P g (q+fJ*i.size) e news 0 cur w hg (by simpa using dF) h1;simp only[Nat.add_zero]at bS;simp[Builtin.append_,run_underlying ht,run_underlying hu,sizeOf,typeInfo,hi,Builtin.lenOf,eS,hn,OV,bS,aR]
theorem Zh4 {t u:TypeId}{c:Call}{x y:Operand}(hc:c.callee=.builtin .append)(ha:c.args.toList=[x,y])(ht:c.argTypes.toList=[t,u])(ho:o.op=.call c){v:Value}{w':World}(h:(Builtin.append_ #[t,u] o.type #[act.eval x,act.eval y]).run P w=.ok v w'):
  (execOp act.eval o).run P w=.ok (.value v) w':=by
 have fY:c.args=#[x,y]:=xS.1 (by simpa using ha);have sZ:c.argTypes=#[t,u]:=xS.1 (by simpa using ht);unfold execOp;simp only[ho];simp[resolve,hc,fY,sZ,invoke,builtin,h]
theorem Zrn {t u e n bytes:Nat}{i:TypeInfo}{z:PV}{c:Call}{x y:Operand}{x' y':bB}(hx:aU x=some x')(hy:aU y=some y')(he:eI P t=some (e,n,none))(hz:sH P e=some z)(hi:P.info? e=some i)(hb:i.bytes=bytes)(FT:n=1)(Bi:P.underlying u=some .string)(QB:z.cells.length=n)
  (hc:c.callee=.builtin .append) (ha:c.args.toList=[x,y]) (ht:c.argTypes.toList=[t,u]) (ho:o.op=.call c) (h:cI (.WU e n bytes x' y') d K σ) (hS:Sat N w0 m0 pl σ ρ m act w):G2 (∃nl,σ.o x'=.pv (.emp nl)) P N w0 m0 pl o act w K:=by
 simp only[cI]at h;have hn:0<n:=by omega
 obtain⟨hu,hs⟩:=LH he;obtain⟨i2,N5,fI⟩:=Ie hs;rw[hi]at N5;cases N5;unfold sH at hz;cases hv:gX P e with
 |none=>simp[hv]at hz
 |some zv=>
 simp only[hv,Option.bind_some]at hz;obtain⟨zi,K5,CO⟩:=Ii hv;rw[hi]at K5;cases K5;have uE:zv.cells.size=n:=by have:=(UM hz m).1;omega
 split at h
 .rename_i s0 QD;have hyr:=hS.aU hy;rw[QD]at hyr;have CP:act.eval y=.string s0:=hyr.TQ;obtain⟨ys,QC⟩:∃ys,ys=qN s0:=⟨_,rfl⟩;obtain⟨yd,Kf⟩:∃yd,yd=Go.byteCells s0:=⟨_,rfl⟩;have Ke:s0.size=ys.length:=by rw[QC,Pd]
  have D6:Flat m yd n ys:=by rw[Kf,QC];subst FT;exact Zl8 m s0
  rw[<-QC]at h;have wF:∀w',(∀A,w'.cell? A=w.cell? A)->(Builtin.firstCells i.size s0.size (.string s0)).run P w'=.ok yd.toArray w':=fun w' hw=>by
   rw[fI,Kf];subst FT;exact Go.firstCells_string s0 w'
  refine ZlG (e:=e) (d:=d) hx hb hn fI uE D6 (fun ba L dN od qC AH aI Ei hf=>Zh4 hc ha ht ho ?_) (fun g q L dN cur qC g1 hr hf=>Zh4 hc ha ht ho ?_) (fun ba qC T2=>Zh4 hc ha ht ho ?_) ?_ hS
  .rw[qC,CP];exact Zeq hu Bi hi CO ba L dN s0 ys.length Ke od yd AH wF aI Ei hf
  .rw[qC,CP];exact Zgy hu Bi hi g q L dN cur g1 s0 ys.length Ke yd (wF w (fun _=>rfl)) D6.one hr hf
  .subst T2;have hf:=wF w (fun _=>rfl);rw[Ke]at hf;have Sv:yd=[]:=List.eq_nil_of_length_eq_zero (by have:=D6.len;simpa using this);rw[Sv]at hf;have Su:s0.size=0:=Ke;rw[qC,CP];simp only[List.length_nil]at hf ⊢;cases ba<;>simp[Builtin.append_,run_underlying hu,run_underlying Bi,sizeOf,typeInfo,hi,Builtin.lenOf,Su,hf,storeCells]
  .have T2:σ.cont (σ.o (.c (.aF false n ys))) n=some ys:=by simp[AS.o,AS.cont]
   simp only[cC,T2];split at h
   .rename_i nl ex;exact h
   .rename_i s n' lo len ex;split at h
    .rename_i uH;exact .inl h
    .exact h.elim
   .exact h.elim
 .exact h.elim
theorem Zud {t u e n bytes:Nat}{i:TypeInfo}{z:PV}{c:Call}{x y:Operand}{x' y':bB}(hx:aU x=some x')(hy:aU y=some y')(he:eI P t=some (e,n,none))(hz:sH P e=some z)(hi:P.info? e=some i)(hb:i.bytes=bytes)(FT:n=1)(Bi:P.underlying u=some .string)(QB:z.cells.length=n)
  (hc:c.callee=.builtin .append) (ha:c.args.toList=[x,y]) (ht:c.argTypes.toList=[t,u]) (ho:o.op=.call c) (h:cI (.WU e n bytes x' y') d K σ) (hS:Sat N w0 m0 pl σ ρ m act w):oG P N w0 m0 pl o act w K:=by
 obtain⟨v,w',a,LQ,bX,m',h1,h2,h3,h4,_⟩:=Zrn hx hy he hz hi hb FT Bi QB hc ha ht ho h hS;exact⟨v,w',a,LQ,bX,m',h1,h2,h3,h4,fun hm=>by rw[ho]at hm;cases hm⟩
end
section
variable {P:Program}{N:Nat}{w0:World}{m0:Env w0}{pl:List Nat}{σ:AS}{ρ:Site->Loc}{m:Mem}{act:Act}{w:World}{o:Oper}{d:Nat}{K:AV->AS->Prop}
theorem Qb {x:Option Operand}{x':Option bB}(h:uA x=some x'):(x=none/\x'=none)\/∃a a',x=some a/\x'=some a'/\aU a=some a':=by
 cases x with
 |none=>simp[uA]at h;exact .inl ⟨rfl,h.symm⟩
 |some a=>
  simp only[uA,eB]at h;obtain⟨a',k1,rfl⟩:=h;exact .inr ⟨a,a',rfl,rfl,k1⟩
theorem Pc {l:List Operand}{x y:bB}(h:pP l=some [x,y]):∃a b,l=[a,b]/\aU a=some x/\aU b=some y:=by
 obtain⟨h1,h2⟩:=LD h
 match l,h1 with
 |[a,b],_=>
  obtain⟨x',k1,k2⟩:=h2 0 a rfl;obtain⟨y',k3,k4⟩:=h2 1 b rfl;simp at k1 k3;subst k1 k3;exact⟨a,b,rfl,k2,k4⟩
def lY.still:lY->Bool
 |.dU _=>true
 |.pick _ _ _=>true
 |.bin _ _ _ _=>true
 |.not _=>true
 |.neg _=>true
 |.yJ _ _ _=>true
 |.build _ _=>true
 |.fa _ _=>true
 |.NX _ _ _ _=>true
 |.ia _ _ _ _=>true
 |.len _ _=>true
 |.ext _ _=>true
 |.yK _ _ _=>true
 |.vW _=>true
 |.jC _ _ _=>true
 |.conv _ _=>true
 |.J4 _ _ _ _ _ _=>true
 |.x y=>y.still
 |_=>false
def lY.GH:lY->Bool
 |.load _ _ _=>true
 |.x y=>y.read
 |_=>false
theorem Zh {y:Operand}{x:PV}(h:aU y=some (.c x)):(∃f,y=.func f)\/∃v,y=.const v/\nW v=some x:=by
 cases y with
 |tmp k=>simp[aU]at h
 |const v=>simp[aU]at h;exact .inr ⟨v,rfl,h⟩
 |func f=>exact .inl ⟨f,rfl⟩
 |global g=>simp[aU]at h
theorem ZgF {y:Operand}(h:aU y=some (.c (.emp (some true))))(act:Act):act.eval y=GN .sl:=by
 rcases Zh h with⟨f,rfl⟩|⟨v,rfl,hv⟩
 .simp[aU]at h
 .unfold nW at hv;split at hv<;>first|rfl|cases hv
theorem ZgG {y:Operand}(h:aU y=some (.c .eX))(act:Act):act.eval y=GN .pt:=by
 rcases Zh h with⟨f,rfl⟩|⟨v,rfl,hv⟩
 .simp[aU]at h
 .unfold nW at hv;split at hv<;>first|rfl|cases hv
theorem ZgH {y:Operand}(h:aU y=some (.c .cV))(act:Act):act.eval y=GN .mp:=by
 rcases Zh h with⟨f,rfl⟩|⟨v,rfl,hv⟩
 .simp[aU]at h
 .unfold nW at hv;split at hv<;>first|rfl|cases hv
theorem ZnM (hn:∀f l,nE P o.op≠.call f l)(h:cC (nE P o.op) d K σ)(hS:Sat N w0 m0 pl σ ρ m act w):oG P N w0 m0 pl o act w K:=by
 cases hop:o.op<;>rw[hop]at h hn<;>simp only[nE]at h hn
 case move x=>
  split at h
  .rename_i y e;exact(Mv e (.inl hop) h hS (G:=fun _=>True)).res trivial hS
  .exact h.elim
 case assign x=>
  split at h
  .rename_i y e;exact(Mv e (.inr hop) h hS (G:=fun _=>True)).res trivial hS
  .exact h.elim
 case pick c a b=>
  split at h
  .rename_i e1 e2 e3;exact(Zks e1 e2 e3 hop h hS (G:=fun _=>True)).res trivial hS
  .exact h.elim
 case binOp op t x y u=>
  split at h
  .rename_i e1 e2 e3;exact(Mu e1 e2 hop h hS (fun e=>by cases e) (G:=fun _=>True)).res trivial hS
  .rename_i e1 e2 e3;exact(Mu e1 e2 hop h hS (fun _=>e3) (G:=fun _=>True)).res trivial hS
  .rename_i e1 e2 e3;exact(YE e1 (ZgF e2 act) ⟨_,e3⟩ hop h hS (G:=fun _=>True)).res trivial hS
  .rename_i e1 e2 e3;exact(YE e1 (ZgG e2 act) ⟨_,e3⟩ hop h hS (G:=fun _=>True)).res trivial hS
  .rename_i e1 e2 e3;exact(YE e1 (ZgH e2 act) ⟨_,_,e3⟩ hop h hS (G:=fun _=>True)).res trivial hS
  .exact h.elim
 case unOp op t x=>
  cases op<;>simp only at h
  case not=>
   split at h
   .rename_i e;exact(ZmR e hop h hS (G:=fun _=>True)).res trivial hS
   .exact h.elim
  case neg=>
   split at h
   .rename_i e;exact(ZmS e hop h hS (G:=fun _=>True)).res trivial hS
   .exact h.elim
  all_goals exact h.elim
 case box t x=>
  split at h
  .rename_i e1 e2;exact Zsz e1 e2 hop h hS
  .exact h.elim
 case alloc t=>
  split at h
  .rename_i e1;exact ZmY e1 hop h hS
  .exact h.elim
 case build t ps=>
  split at h
  .rename_i e1 e2;split at h
   .rename_i e3;exact(Zii e1 e2 e3 hop h hS (G:=fun _=>True)).res trivial hS
   .exact h.elim
  .exact h.elim
 case buildSlice t len ps=>
  split at h
  .rename_i e1 e2;split at h
   .rename_i e3;exact ZlS e1 e2 e3.1 e3.2.1 e3.2.2.1 e3.2.2.2 hop h hS
   .exact h.elim
  .exact h.elim
 case load t x=>
  split at h
  .rename_i e1 e2 e3;exact(Zku e1 e2 e3 hop h hS).res (.refl hS) hS
  .exact h.elim
 case store t x y=>
  split at h
  .rename_i e1 e2 e3;exact ZmP e1 e2 e3 hop h hS
  .exact h.elim
 case fieldAddr t x f=>
  split at h
  .rename_i e1 e2;exact(ZrB e1 e2 hop h hS (G:=fun _=>True)).res trivial hS
  .exact h.elim
 case indexAddr t x i=>
  split at h
  .rename_i e1 e2 e3;exact(ZrA e1 e2 e3 hop h hS (G:=fun _=>True)).res trivial hS
  .exact h.elim
 case extract x i=>
  split at h
  .rename_i e1;exact(ZmW e1 hop h hS (G:=fun _=>True)).res trivial hS
  .exact h.elim
 case nilCheck x=>
  split at h
  .rename_i e1;exact(Zkt e1 hop h hS (G:=fun _=>True)).res trivial hS
  .exact h.elim
 case convert src dst x=>
  split at h
  .rename_i e1 e2 e3;exact(Zkv e1 e2 e3 hop h hS (G:=fun _=>True)).res trivial hS
  .exact h.elim
 case makeFunc fn fs cs=>
  cases fn<;>simp only at h
  case func f=>
   split at h
   .rename_i e1 e2;exact(ZmT e1 e2 hop h hS (G:=fun _=>True)).res trivial hS
   .exact h.elim
  all_goals exact h.elim
 case slice t x lo hi mx=>
  cases mx<;>simp only at h
  case none=>
   split at h
   .rename_i e1 e2 e3 e4;exact(ZmQ e1 e2 (Qb e3) (Qb e4) hop h hS (G:=fun _=>True)).res trivial hS
   .exact h.elim
  case some=>exact h.elim
 case field t x f=>
  split at h
  .rename_i e1 e2;split at h
   .rename_i e3;split at h
    .rename_i e4 e5;exact(ZmV e1 e2 e3 e4 (by rw[e5];rfl) hop h hS (G:=fun _=>True)).res trivial hS
    .exact h.elim
   .exact h.elim
  .exact h.elim
 case makeSlice t l c=>
  split at h
  .rename_i e1 e2 e3;split at h
   .rename_i e4 e5;split at h
    .rename_i e6;exact Zsy e2 e3 e1 e4 e5 rfl e6.1 e6.2 hop h hS
    .exact h.elim
   .exact h.elim
  .exact h.elim
 case call c=>
  split at h
  .rename_i hc;split at h
   .rename_i ha ht;split at h
    .rename_i e1 e2;exact(ZmU e1 e2 hc ha ht hop h hS (G:=fun _=>True)).res trivial hS
    .exact h.elim
   .exact h.elim
  .rename_i hc;split at h
   .rename_i ha ht;split at h
    .rename_i e1 e2 e3;split at h
     .rename_i e4 e5;split at h
      .rename_i e6;obtain⟨rfl,e7,e8⟩:=e6;obtain⟨v,w',a,LQ,bX,m',k1,k2,k3,k4,k5⟩:=ZmX e1 e2 e3 e4 e5 rfl e7 e8 hc ha ht hop h hS;exact⟨v,w',a,LQ,bX,m',k1,k2,k3,k4,fun hm=>by rw[hop]at hm;cases hm⟩
      .exact h.elim
     .exact h.elim
    .exact h.elim
   .exact h.elim
  .rename_i hc;split at h
   .rename_i e1;obtain⟨a,b,k1,k2,k3⟩:=Pc e1;exact(Pv (mx:=false) k2 k3 hc k1 hop h hS (G:=fun _=>True)).res trivial hS
   .exact h.elim
  .rename_i hc;split at h
   .rename_i e1;obtain⟨a,b,k1,k2,k3⟩:=Pc e1;exact(Pv (mx:=true) k2 k3 hc k1 hop h hS (G:=fun _=>True)).res trivial hS
   .exact h.elim
  .rename_i f hc;simp only[hc]at hn;split at h
   .rename_i e1 e2;simp only[e1,e2]at hn;exact absurd rfl (hn _ _)
   .exact h.elim
  .exact h.elim
 all_goals exact h.elim
theorem ZpY {e n bytes:Nat}{x' y':bB}(hn:nE P o.op=.app e n bytes x' y')(h:cC (nE P o.op) d K σ)(hS:Sat N w0 m0 pl σ ρ m act w):G2 (∃nl,σ.o x'=.pv (.emp nl)) P N w0 m0 pl o act w K:=by
 rw[hn]at h;cases hop:o.op<;>rw[hop]at hn
 case call c=>
  simp only[nE]at hn;split at hn
  case h_2 hc=>
   split at hn
   .rename_i ha ht;split at hn
    .rename_i e1 e2 e3;split at hn
     .rename_i e4 e5;split at hn
      .rename_i e6;obtain⟨rfl,e7,e8⟩:=e6;cases hn;exact ZmX e1 e2 e3 e4 e5 rfl e7 e8 hc ha ht hop h hS
      .cases hn
     .cases hn
    .cases hn
   .cases hn
  all_goals (exfalso;repeat' (first|(cases hn;done)|split at hn))
 case unOp op t x=>exfalso;cases op<;>simp only[nE]at hn<;>(try split at hn)<;>cases hn
 case makeFunc fn fs cs=>exfalso;cases fn<;>simp only[nE]at hn<;>(try split at hn)<;>cases hn
 case slice t x lo hi mx=>exfalso;cases mx<;>simp only[nE]at hn<;>(try split at hn)<;>cases hn
 all_goals (exfalso;simp only[nE,vX]at hn;repeat' (first|(cases hn;done)|split at hn))
theorem ZnL {G:World->Prop}(hn:(nE P o.op).still=true)(h:cC (nE P o.op) d K σ)(hS:Sat N w0 m0 pl σ ρ m act w):dB G P σ ρ m o act w K:=by
 cases hop:o.op<;>rw[hop]at h hn<;>simp only[nE]at h hn
 case move x=>
  split at h
  .rename_i y e;exact Mv e (.inl hop) h hS
  .exact h.elim
 case assign x=>
  split at h
  .rename_i y e;exact Mv e (.inr hop) h hS
  .exact h.elim
 case pick c a b=>
  split at h
  .rename_i e1 e2 e3;exact Zks e1 e2 e3 hop h hS
  .exact h.elim
 case binOp op t x y u=>
  split at h
  .rename_i e1 e2 e3;exact Mu e1 e2 hop h hS (fun e=>by cases e)
  .rename_i e1 e2 e3;exact Mu e1 e2 hop h hS (fun _=>e3)
  .rename_i e1 e2 e3;exact YE e1 (ZgF e2 act) ⟨_,e3⟩ hop h hS
  .rename_i e1 e2 e3;exact YE e1 (ZgG e2 act) ⟨_,e3⟩ hop h hS
  .rename_i e1 e2 e3;exact YE e1 (ZgH e2 act) ⟨_,_,e3⟩ hop h hS
  .exact h.elim
 case unOp op t x=>
  cases op<;>simp only at h
  case not=>
   split at h
   .rename_i e;exact ZmR e hop h hS
   .exact h.elim
  case neg=>
   split at h
   .rename_i e;exact ZmS e hop h hS
   .exact h.elim
  all_goals exact h.elim
 case box t x=>
  split at h
  .rename_i e1 e2;simp_all [lY.still]
  .exact h.elim
 case alloc t=>
  split at h
  .rename_i e1;simp_all [lY.still]
  .exact h.elim
 case build t ps=>
  split at h
  .rename_i e1 e2;split at h
   .rename_i e3;exact Zii e1 e2 e3 hop h hS
   .exact h.elim
  .exact h.elim
 case buildSlice t len ps=>
  split at h
  .rename_i e1 e2;split at h
   .rename_i e3;simp_all [lY.still]
   .exact h.elim
  .exact h.elim
 case load t x=>
  split at h
  .rename_i e1 e2 e3;simp_all [lY.still]
  .exact h.elim
 case store t x y=>
  split at h
  .rename_i e1 e2 e3;simp_all [lY.still]
  .exact h.elim
 case fieldAddr t x f=>
  split at h
  .rename_i e1 e2;exact ZrB e1 e2 hop h hS
  .exact h.elim
 case indexAddr t x i=>
  split at h
  .rename_i e1 e2 e3;exact ZrA e1 e2 e3 hop h hS
  .exact h.elim
 case extract x i=>
  split at h
  .rename_i e1;exact ZmW e1 hop h hS
  .exact h.elim
 case nilCheck x=>
  split at h
  .rename_i e1;exact Zkt e1 hop h hS
  .exact h.elim
 case convert src dst x=>
  split at h
  .rename_i e1 e2 e3;exact Zkv e1 e2 e3 hop h hS
  .exact h.elim
 case makeFunc fn fs cs=>
  cases fn<;>simp only at h
  case func f=>
   split at h
   .rename_i e1 e2;exact ZmT e1 e2 hop h hS
   .exact h.elim
  all_goals exact h.elim
 case slice t x lo hi mx=>
  cases mx<;>simp only at h
  case none=>
   split at h
   .rename_i e1 e2 e3 e4;exact ZmQ e1 e2 (Qb e3) (Qb e4) hop h hS
   .exact h.elim
  case some=>exact h.elim
 case field t x f=>
  split at h
  .rename_i e1 e2;split at h
   .rename_i e3;split at h
    .rename_i e4 e5;exact ZmV e1 e2 e3 e4 (by rw[e5];rfl) hop h hS
    .exact h.elim
   .exact h.elim
  .exact h.elim
 case makeSlice t l c=>
  split at h
  .rename_i e1 e2 e3;split at h
   .rename_i e4 e5;split at h
    .rename_i e6;simp_all [lY.still]
    .exact h.elim
   .exact h.elim
  .exact h.elim
 case call c=>
  split at h
  .rename_i hc;split at h
   .rename_i ha ht;split at h
    .rename_i e1 e2;exact ZmU e1 e2 hc ha ht hop h hS
    .exact h.elim
   .exact h.elim
  .rename_i hc;split at h
   .rename_i ha ht;split at h
    .rename_i e1 e2 e3;split at h
     .rename_i e4 e5;split at h
      .rename_i e6;obtain⟨e0,e7,e8⟩:=e6
       simp_all [lY.still]
      .exact h.elim
     .exact h.elim
    .exact h.elim
   .exact h.elim
  .rename_i hc;split at h
   .rename_i e1;obtain⟨a,b,k1,k2,k3⟩:=Pc e1;exact Pv (mx:=false) k2 k3 hc k1 hop h hS
   .exact h.elim
  .rename_i hc;split at h
   .rename_i e1;obtain⟨a,b,k1,k2,k3⟩:=Pc e1;exact Pv (mx:=true) k2 k3 hc k1 hop h hS
   .exact h.elim
  .rename_i f hc;simp only[hc]at hn;split at h
   .rename_i e1 e2;simp[e1,e2,lY.still]at hn
   .exact h.elim
  .exact h.elim
 all_goals exact h.elim
theorem ZpX (hn:∃b n x,nE P o.op=.load b n x)(h:cC (nE P o.op) d K σ)(hS:Sat N w0 m0 pl σ ρ m act w):dB (fW σ ρ m w) P σ ρ m o act w K:=by
 obtain⟨b,n,x,hn⟩:=hn;cases hop:o.op<;>rw[hop]at h hn
 case load t x=>
  simp only[nE]at h;split at h
  .rename_i e1 e2 e3;exact Zku e1 e2 e3 hop h hS
  .exact h.elim
 case unOp op t x=>
  clear h hS;cases op<;>simp only[nE]at hn<;>(try split at hn)<;>cases hn
 case makeFunc fn fs cs=>
  clear h hS;cases fn<;>simp only[nE]at hn<;>(try split at hn)<;>cases hn
 case slice t x lo hi mx=>
  clear h hS;cases mx<;>simp only[nE]at hn<;>(try split at hn)<;>cases hn
 all_goals (exfalso;clear h hS;simp only[nE,vX]at hn;repeat' (first|(cases hn;done)|split at hn))
def X6 (P:Program)(op:Op):Option W6:=match pT P op with
 |some y=>some y
 |none=>nZ P op
def aZ (P:Program)(op:Op):lY:=match X6 P op with
 |some y=>.x y
 |none=>nE P op
theorem ZiB {op:Op}{y:W6}:nE P op≠.x y:=fun h=>by
 cases op
 case unOp op t x=>cases op<;>simp only[nE]at h<;>(try split at h)<;>cases h
 case makeFunc fn fs cs=>cases fn<;>simp only[nE]at h<;>(try split at h)<;>cases h
 case slice t x lo hi mx=>cases mx<;>simp only[nE]at h<;>(try split at h)<;>cases h
 all_goals (simp only[nE,vX]at h;repeat' (first|(cases h;done)|split at h))
theorem Zl2 {y:W6}(hl:pT P o.op=some y)(h:cI y d K σ)(hS:Sat N w0 m0 pl σ ρ m act w):
  oG P N w0 m0 pl o act w K/\(∀G:World->Prop,y.still=true->dB G P σ ρ m o act w K)/\(y.read=true->dB (fW σ ρ m w) P σ ρ m o act w K):=by
 have still:(∀G:World->Prop,dB G P σ ρ m o act w K)->oG P N w0 m0 pl o act w K/\(∀G:World->Prop,y.still=true->dB G P σ ρ m o act w K)/\(y.read=true->dB (fW σ ρ m w) P σ ρ m o act w K):=
  fun h=>⟨(h (fun _=>True)).res trivial hS,fun G _=>h G,fun _=>h _⟩
 have read:y.still=false->dB (fW σ ρ m w) P σ ρ m o act w K->oG P N w0 m0 pl o act w K/\(∀G:World->Prop,y.still=true->dB G P σ ρ m o act w K)/\(y.read=true->dB (fW σ ρ m w) P σ ρ m o act w K):=
  fun hn h=>⟨h.res (.refl hS) hS,fun G e=>(by rw[hn]at e;cases e),fun _=>h⟩
 have u9:y.still=false->y.read=false->oG P N w0 m0 pl o act w K->oG P N w0 m0 pl o act w K/\(∀G:World->Prop,y.still=true->dB G P σ ρ m o act w K)/\(y.read=true->dB (fW σ ρ m w) P σ ρ m o act w K):=
  fun hn hr h=>⟨h,fun G e=>(by rw[hn]at e;cases e),fun e=>(by rw[hr]at e;cases e)⟩
 cases hop:o.op<;>rw[hop]at hl
 case binOp op t x y u=>
  simp only[pT]at hl;split at hl
  .rename_i e1 e2 e3;split at hl
   .rename_i hc;split at hl
    .cases hl;exact still fun G=>Zor e1 e2 e3 hc (.inl ⟨rfl,rfl⟩) hop h hS
    .cases hl;exact still fun G=>Zor e1 e2 e3 hc (.inr ⟨rfl,rfl⟩) hop h hS
    .cases hl
   .cases hl
  .cases hl
 case makeMap t r=>
  cases r with
  |none=>simp only[pT]at hl;cases hl;exact u9 rfl rfl (Ztj hop h hS)
  |some r=>simp[pT]at hl
 case lookup t x i ok=>
  simp only[pT]at hl;split at hl
  .rename_i hu;split at hl
   .rename_i e1 e2 e3 e4;cases hl;exact read rfl (Zqe e1 e2 hu e3 e4 hop h hS)
   .cases hl
  .cases hl
 case mapUpdate t x i v=>
  simp only[pT]at hl;split at hl
  .rename_i hu;split at hl
   .rename_i e1 e2 e3 e4;cases hl;exact u9 rfl rfl (Zmx e1 e2 e3 hu e4 (.inl hop) h hS)
   .cases hl
  .cases hl
 case insert t x i v=>
  simp only[pT]at hl;split at hl
  .rename_i hu;split at hl
   .rename_i e1 e2 e3 e4;cases hl;exact u9 rfl rfl (Zmx e1 e2 e3 hu e4 (.inr hop) h hS)
   .cases hl
  .cases hl
 case call c=>
  simp only[pT]at hl;split at hl
  .rename_i hc;split at hl
   .rename_i ha ht;split at hl
    .rename_i e1 e2;cases hl;exact read rfl (Zp5 e1 e2 hc ha ht hop h hS)
    .cases hl
   .cases hl
  .rename_i hc;split at hl
   .rename_i ha ht;split at hl
    .rename_i e1 e2 e3;split at hl
     .rename_i hn;cases hl;exact u9 rfl rfl (ZqI e1 e2 e3 hn hc ha ht hop h hS)
     .cases hl
    .cases hl
   .cases hl
  .rename_i hc;split at hl
   .rename_i ha ht;split at hl
    .rename_i e1 e2;split at hl
     .rename_i hz;split at hl
      .rename_i hn;cases hl;exact u9 rfl rfl (ZoJ e1 e2 hz hn.1 hn.2 hc ha ht hop h hS)
      .cases hl
     .cases hl
    .cases hl
   .cases hl
  .cases hl
 case slice t x lo hi mx=>
  cases lo with
  |some lo=>simp[pT]at hl
  |none=>
   cases hi with
   |none=>
    cases mx with
    |some mx=>simp[pT]at hl
    |none=>
     simp only[pT]at hl;split at hl
     .rename_i e1 e2;split at hl
      .rename_i hn;cases hl;exact u9 rfl rfl (Zpq e1 e2 hn hop h hS)
      .cases hl
     .cases hl
   |some hi=>
    cases mx with
    |some mx=>simp[pT]at hl
    |none=>
     simp only[pT]at hl;split at hl
     .rename_i e1 e2 e3;split at hl
      .rename_i hn;cases hl;exact u9 rfl rfl (ZsB e1 e2 e3 hn hop h hS)
      .cases hl
     .rename_i e1 e2 e3;split at hl
      .rename_i hn;cases hl;exact u9 rfl rfl (ZsA e1 e2 e3 hn hop h hS)
      .cases hl
     .cases hl
 all_goals (simp[pT]at hl)
theorem Zl3 {y:W6}(hl:nZ P o.op=some y)(h:cI y d K σ)(hS:Sat N w0 m0 pl σ ρ m act w):
  oG P N w0 m0 pl o act w K/\(∀G:World->Prop,y.still=true->dB G P σ ρ m o act w K)/\(y.read=true->dB (fW σ ρ m w) P σ ρ m o act w K):=by
 have still:(∀G:World->Prop,dB G P σ ρ m o act w K)->oG P N w0 m0 pl o act w K/\(∀G:World->Prop,y.still=true->dB G P σ ρ m o act w K)/\(y.read=true->dB (fW σ ρ m w) P σ ρ m o act w K):=
  fun h=>⟨(h (fun _=>True)).res trivial hS,fun G _=>h G,fun _=>h _⟩
 have u9:y.still=false->y.read=false->oG P N w0 m0 pl o act w K->oG P N w0 m0 pl o act w K/\(∀G:World->Prop,y.still=true->dB G P σ ρ m o act w K)/\(y.read=true->dB (fW σ ρ m w) P σ ρ m o act w K):=
  fun hn hr h=>⟨h,fun G e=>(by rw[hn]at e;cases e),fun e=>(by rw[hr]at e;cases e)⟩
 cases hop:o.op<;>rw[hop]at hl
 case binOp op t x y u=>
  cases op
  case add=>
   simp only[nZ]at hl;split at hl
   .rename_i e1 e2 e3;cases hl;exact still fun G=>Zpt e1 e2 hop h hS
   .cases hl
  case eql=>
   simp only[nZ]at hl;split at hl
   .rename_i e1 e2 e3;cases hl;exact still fun G=>ZnW (neg:=false) e1 e2 e3 hop h hS
   .cases hl
  case neq=>
   simp only[nZ]at hl;split at hl
   .rename_i e1 e2 e3;cases hl;exact still fun G=>ZnW (neg:=true) e1 e2 e3 hop h hS
   .cases hl
  all_goals (simp[nZ]at hl)
 case makeInterface t x=>
  simp only[nZ]at hl;split at hl
  .cases hl
  .rename_i e1 e2 e3;cases hl;exact still fun G=>Ztk e2 e3 (fun ms k=>e1 ms k) hop h hS
  .cases hl
 case alloc t=>
  simp only[nZ]at hl;split at hl
  .rename_i v hv;split at hl
   .rename_i hc;split at hl
    .cases hl;exact u9 rfl rfl (Zuo hv hc hop h hS)
    .cases hl
   .cases hl
  .cases hl
 case panic x=>
  simp only[nZ]at hl;split at hl
  .cases hl;exact h.elim
  .cases hl
 case typeAssert x s t c=>
  cases c
  .simp[nZ]at hl
  .simp only[nZ]at hl;split at hl
   .cases hl
   .rename_i e1 e2 e3 e4;cases hl;exact still fun G=>Zsj e2 e3 (fun ms k=>e1 ms k) e4 hop h hS
   .cases hl
 case index t x i=>
  simp only[nZ]at hl;split at hl
  .rename_i e1 e2 e3;cases hl;exact still fun G=>Zps e1 e2 e3 hop h hS
  .cases hl
 case slice t x lo hi mx=>
  cases mx with
  |some mx=>simp[nZ]at hl
  |none=>
   simp only[nZ]at hl;split at hl
   .rename_i e1 e2 e3 e4;cases hl;exact still fun G=>Zss e1 e2 e3 e4 hop h hS
   .cases hl
 case convert src dst x=>
  simp only[nZ]at hl;split at hl
  .rename_i e1 e2 e3;split at hl
   .rename_i e4;cases hl;exact u9 rfl rfl (Zsx e1 e2 e4 e3 hop h hS)
   .cases hl
  .rename_i e1 e2 e3;split at hl
   .rename_i e4;cases hl;exact u9 rfl rfl (Zpu e1 e2 e3 e4 hop h hS)
   .cases hl
  .cases hl
 case call c=>
  simp only[nZ]at hl;split at hl
  .rename_i hc;split at hl
   .rename_i ha ht;split at hl
    .rename_i e1 e2;cases hl;exact still fun G=>Zpp e1 e2 hc ha ht hop h hS
    .cases hl
   .cases hl
  .rename_i hc;split at hl
   .rename_i ha ht;split at hl
    .rename_i e1 e2 e3 e4;split at hl
     .rename_i e5 e6;split at hl
      .rename_i hn;cases hl;exact u9 rfl rfl (Zud e1 e2 e3 e5 e6 rfl hn.1 e4 hn.2 hc ha ht hop h hS)
      .cases hl
     .cases hl
    .cases hl
   .cases hl
  .cases hl
 all_goals (simp[nZ]at hl)
theorem Zdx {y:W6}(hl:X6 P o.op=some y)(h:cI y d K σ)(hS:Sat N w0 m0 pl σ ρ m act w):
  oG P N w0 m0 pl o act w K/\(∀G:World->Prop,y.still=true->dB G P σ ρ m o act w K)/\(y.read=true->dB (fW σ ρ m w) P σ ρ m o act w K):=by
 unfold X6 at hl;split at hl
 .rename_i y' hx;cases hl;exact Zl2 hx h hS
 .exact Zl3 hl h hS
theorem ZpW (hn:∀f l,aZ P o.op≠.call f l)(h:cC (aZ P o.op) d K σ)(hS:Sat N w0 m0 pl σ ρ m act w):oG P N w0 m0 pl o act w K:=by
 unfold aZ at h hn;split at h
 .rename_i y hl;exact(Zdx hl h hS).1
 .rename_i hl;rw[hl]at hn;exact ZnM hn h hS
theorem Zs9 {e n bytes:Nat}{x' y':bB}(hn:aZ P o.op=.app e n bytes x' y')(h:cC (aZ P o.op) d K σ)(hS:Sat N w0 m0 pl σ ρ m act w):G2 (∃nl,σ.o x'=.pv (.emp nl)) P N w0 m0 pl o act w K:=by
 unfold aZ at h hn;split at h
 .rename_i y hl;rw[hl]at hn;cases hn
 .rename_i hl;rw[hl]at hn;exact ZpY hn h hS
theorem ZpV {G:World->Prop}(hn:(aZ P o.op).still=true)(h:cC (aZ P o.op) d K σ)(hS:Sat N w0 m0 pl σ ρ m act w):dB G P σ ρ m o act w K:=by
 unfold aZ at h hn;split at h
 .rename_i y hl;rw[hl]at hn;exact(Zdx hl h hS).2.1 G hn
 .rename_i hl;rw[hl]at hn;exact ZnL hn h hS
theorem Zs8 (hn:(aZ P o.op).GH=true)(h:cC (aZ P o.op) d K σ)(hS:Sat N w0 m0 pl σ ρ m act w):dB (fW σ ρ m w) P σ ρ m o act w K:=by
 unfold aZ at h hn;split at h
 .rename_i y hl;rw[hl]at hn;exact(Zdx hl h hS).2.2 hn
 .rename_i hl;rw[hl]at hn;dsimp only at hn;refine ZpX ?_ h hS;cases hx:nE P o.op<;>rw[hx]at hn<;>first|exact⟨_,_,_,rfl⟩|(exact absurd hx ZiB)|cases hn
theorem ZfQ {f:bB}{l:List bB}(h:aZ P o.op=.call f l):nE P o.op=.call f l:=by
 unfold aZ at h;split at h
 .cases h
 .exact h
theorem Zl4 {h:lY}(hh:aZ P o.op=h)(hx:∀y,h≠.x y):nE P o.op=h:=by
 unfold aZ at hh;split at hh
 .rename_i y _;exact absurd hh.symm (hx y)
 .exact hh
end
end Go.Proofs.YthmbecacehfgfabGreatDoor
