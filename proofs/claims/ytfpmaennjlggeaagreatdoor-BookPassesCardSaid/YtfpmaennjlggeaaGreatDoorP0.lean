/- The registrar's book: what the statement needs, joined and shortened by program. -/
import Derived.WalkKit
import Derived.Lib.Hide
import Derived.Lib.ItoaNum
import Derived.WalkSpells
import Derived.Deep.MidRow
import Derived.Laws.CopyRow
import Derived.Laws.Tables
import Derived.Laws.MakeOwn
import Derived.Laws.Small
import Derived.Great.BuildSlice
import Derived.Laws.Cover3
import Derived.Laws.Pointers
import Derived.DeepKeys3
import Derived.MapKept
import Derived.RangeFuncRecord
import Derived.Laws.Concat
import Derived.Laws.BytesString
import Derived.Laws.AppendOwn
import Derived.Deep.AppendSrc
import Derived.Lib.ConvBytes
set_option linter.unusedSimpArgs false
set_option linter.unusedVariables false
namespace Go.Proofs
set_option linter.defProp false
def ZxK:=@Nat.le_of_ble_eq_true
def ZxL:=@List.getElem?_eq_getElem
def ZxM:=@List.getElem?_map
def ZxN:=@List.getElem?_eq_some_iff
def ZxO:=@Bool.and_eq_true
def ZxP:=@Option.map_eq_some_iff
def ZxQ:=@List.mem_of_getElem?
def ZxR:=@Nat.le_refl
def ZxS:=@List.length_map
def ZxT:=@List.length_take
def ZxU:=@List.length_append
def ZxV:=@List.mem_iff_getElem?
def ZxW:=@List.take_of_length_le
def ZxX:=@List.mem_filter
def ZxY:=@List.mem_map
def ZxZ:=@List.map_cons
def Zx0:=@Nat.zero_le
def Zx1:=@List.getElem?_take
def Zx2:=@List.mem_cons
def Zx3:=@List.getElem?_drop
def Zx4:=@List.contains_iff_mem
def Zx5:=@Nat.le_trans
def Zx6:=@List.take_add_one
def Zx7:=@List.all_eq_true
def Zx8:=@Array.getElem?_eq_some_iff
def Zx9:=@List.append_nil
def Zya:=@List.any_eq_true
def Zyb:=@List.map_append
def Zyc:=@List.findIdx?_cons
def Zyd:=@List.size_toArray
def Zye:=@List.take_length
def Zyf:=@Array.length_toList
def Zyg:=@List.length_cons
def Zyh:=@List.getElem_mem
def Zyi:=@List.mem_singleton
def Zyj:=@Nat.zero_add
def Zyk:=@Bool.or_eq_true
def Zyl:=@List.getElem?_append
def Zym:=@Option.getD_some
def Zyn:=@List.length_drop
def Zyo:=@List.getElem?_toArray
def Zyp:=@List.mem_append
def Zyq:=@Option.map_some
def Zyr:=@Bool.eq_iff_iff
def Zys:=@Array.getElem?_eq_getElem
def Zyt:=@List.filter_cons
def Zyu:=@Array.getElem?_toList
def Zyv:=@Array.toList_inj
def Zyw:=@List.filter_append
def Zyx:=@Nat.mul_le_mul_right
def Zyy:=@List.findIdx?_eq_some_iff_getElem
def Zyz:=@List.findIdx?_eq_none_iff
def ZyA:=@List.getElem?_set_self
def ZyB:=@List.length_filter_le
def ZyC:=@List.getElem?_set_ne
def ZyD:=@Nat.lt_succ_iff_lt_or_eq
def ZyE:=@List.pairwise_iff_getElem
def ZyF:=@List.drop_eq_getElem_cons
def ZyG:=@List.eq_nil_of_length_eq_zero
end Go.Proofs
set_option maxHeartbeats 32000000
set_option maxRecDepth 10000
namespace Go.Proofs.YtfpmaennjlggeaaGreatDoor
open Go.RowKit
section
abbrev Ext (w w':World):Prop:=Below w.heap.size w w'
theorem Ext.ZvU (w:World):Ext w w:=Below.refl _ _
theorem Ext.trans' {a b c:World}(h:Ext a b)(k:Ext b c):Ext a c:=Below.trans h (Below.mono k h.size)
theorem Ext.al (w:World)(o:Obj):Ext w (w.alloc o):=(Below.refl _ _).alloc (ZxR _) o
theorem Ext.dr (w:World):Ext w w.drew:=(Below.refl _ _).drew
theorem up {b n:Nat}(h:b<n):b<n+1∧b<n+1+1∧b<n+1+1+1∧b<n+1+1+1+1∧b<n+1+1+1+1+1∧b<n+1+1+1+1+1+1:=by omega
theorem ZaH {w:World}{b o:Nat}{v:Value}(h:w.cell? ⟨b,o,none⟩=some v):b<w.heap.size:=by
 unfold World.cell? at h;cases hb:w.heap[b]? with
 |none=>simp[hb]at h
 |some x=>exact(Zx8.1 hb).1
theorem Ext.cell {w w':World}(h:Ext w w'){b o:Nat}{v:Value}(hc:w.cell? ⟨b,o,none⟩=some v):w'.cell? ⟨b,o,none⟩=some v:=
 (Below.cell h (p:=⟨b,o,none⟩) (ZaH hc)).trans hc
abbrev Mem:=Nat→Nat→Option Value
def _root_.Go.World.mem (w:World):Mem:=fun b o=>w.cell? ⟨b,o,none⟩
instance:Coe World Mem:=⟨World.mem⟩
def Le (m m':Mem):Prop:=∀b o v,m b o=some v→m' b o=some v
theorem Le.refl (m:Mem):Le m m:=fun _ _ _ h=>h
theorem Le.trans {a b c:Mem}(h:Le a b)(k:Le b c):Le a c:=fun x o v e=>k x o v (h x o v e)
theorem Ext.le {w w':World}(h:Ext w w'):Le w.mem w'.mem:=fun _ _ _ hc=>h.cell hc
def At (m:Mem)(b:Nat):Nat→List Value→Prop
 |_,[]=>True
 |o,c::cs=>m b o=some c∧At m b (o+1) cs
theorem At.mono {m m':Mem}(h:Le m m'){b:Nat}:∀{cs:List Value} {o:Nat},At m b o cs→At m' b o cs
 |[],_,_=>trivial
 |_::_,_,⟨h1,h2⟩=>⟨h _ _ _ h1,At.mono h h2⟩
theorem At.get {m:Mem}{b:Nat}:∀{cs:List Value} {o:Nat},At m b o cs→∀(j:Nat) (u:Value),cs[j]?=some u→m b (o+j)=some u
 |[],_,_,j,u,h=>by simp at h
 |c::cs,o,⟨h1,h2⟩,0,u,h=>by simp at h;subst h;exact h1
 |c::cs,o,⟨h1,h2⟩,j+1,u,h=>by
  have:=At.get h2 j u (by simpa using h)
  rwa [show o+(j+1)=o+1+j by omega]
theorem At.Zvm {m:Mem}{b:Nat}:∀{cs:List Value} {o:Nat},(∀(j:Nat) (u:Value),cs[j]?=some u→m b (o+j)=some u)→At m b o cs
 |[],_,_=>trivial
 |c::cs,o,h=>⟨h 0 c rfl,At.Zvm (fun j u hj=>by have:=h (j+1) u (by simpa using hj);rwa [show o+1+j=o+(j+1) by omega])⟩
structure R (α:Type) where
 n:Nat
 r:Mem→List Value→α→Prop
 mono:∀{m m':Mem} {cs:List Value} {x:α},Le m m'→r m cs x→r m' cs x
 len:∀{m:Mem} {cs:List Value} {x:α},r m cs x→cs.length=n
 one:∀{m:Mem} {cs:List Value} {x:α},r m cs x→∀u∈cs,u.oneCell'=true
 npos:0<n
section
variable {α:Type}{a:R α}{e:TypeId}{S:List Nat}{w w':World}{v:Value}{xs:List α}
end
end
section
theorem ZuW {b o j:Nat}:(⟨b,o,none⟩:Addr).add j=⟨b,o+j,none⟩:=by unfold Addr.add;split<;>simp_all
section
variable {P:Program}{α:Type}{a:R α}{t ty e:TypeId}{bytes:Nat}{S:List Nat}{w:World}{v:Value}{xs ys:List α}{ad:Option Addr}{cp:Nat}
end
end
section
def Glob (m:Mem)(w:World):Prop:=(∃z,m 1 0=some (.int .i64 z))∧(∃t p,m 2 0=some (.iface t p))∧(∃t p,m 3 0=some (.iface t p))∧(∃v,m 0 0=some v)∧
 ∃t fr,w.heap[0]?=some (.cells (Lib.pow10Tab.map (Value.int .u64)).toArray t fr)
theorem Glob.mono {m m':Mem}{w:World}(h:Glob m w)(hm:Le m m'):Glob m' w:=
 let ⟨⟨z,h1⟩,⟨t,p,h2⟩,⟨t',p',h3⟩,⟨v,h4⟩,h5⟩:=h
 ⟨⟨z,hm _ _ _ h1⟩,⟨t,p,hm _ _ _ h2⟩,⟨t',p',hm _ _ _ h3⟩,⟨v,hm _ _ _ h4⟩,h5⟩
theorem Glob.keep {m:Mem}{w w':World}(h:Glob m w)(hk:∀k o v,k<w.heap.size→m k o=some v→w'.heap[k]?=w.heap[k]?):Glob m w':=by
 obtain⟨h1,h2,h3,⟨v,h4⟩,t,fr,h5⟩:=h;exact⟨h1,h2,h3,⟨v,h4⟩,t,fr,by rw[hk _ 0 v (Zx8.1 h5).1 h4];exact h5⟩
inductive PV where
 |int (k:IntKind) (n:Int)
 |bool (b:Bool)
 |str (s:ByteArray)
 |nilp
 |nilfn
 |nilmap
 |nilif
 |opq
 |emp (nl:Option Bool)
 |lst (nn:Bool) (n:Nat) (xs:List PV)
 |ref (cs:List PV)
 |fn (f:FuncId) (fs cs:List PV)
 |agg (cs:List PV)
 |tup (vs:List PV)
 |iface (t:TypeId) (x:PV)
 deriving Inhabited
def PV.cells:PV→List PV
 |.agg cs=>cs
 |x=>[x]
abbrev ZcL (A:Addr):Prop:=A.spot=A.spot
inductive RdP (m:Mem):Value→PV→Prop where
 |int (k n):RdP m (.int k n) (.int k n)
 |bool (b):RdP m (.bool b) (.bool b)
 |str (s):RdP m (.string s) (.str s)
 |nilp:RdP m (.pointer none) .nilp
 |nilfn:RdP m .nilFunc .nilfn
 |nilmap:RdP m (.map none) .nilmap
 |nilif:RdP m .nilIface .nilif
 |opq (v:Value) (h:v.oneCell'=true):RdP m v .opq
 |emp (a:Option Addr) (nl:Option Bool) (h0:nl=some true→a=none) (h1:nl=some false→a≠none) (h2:∀A,a=some A→ZcL A):RdP m (.slice a 0 0) (.emp nl)
 |lst (a:Option Addr) (cap:Nat) (nn:Bool) (n:Nat) (xs:List PV) (ds:Nat→List Value) (h0:xs.length≤cap) (h1:cap≤9223372036854775807)
   (h2:a=none→cap=0) (h3:∀A,a=some A→ZcL A) (h4:nn=true→a≠none)
   (h5:∀(i:Nat) (x:PV),xs[i]?=some x→∃b o,a=some ⟨b,o,none⟩∧At m b (o+i*n) (ds i))
   (h6:∀(i:Nat) (x:PV),xs[i]?=some x→(ds i).length=n∧x.cells.length=n∧∀d∈ds i,d.oneCell'=true)
   (h7:∀(i:Nat) (x:PV) (j:Nat) (d:Value) (c:PV),xs[i]?=some x→(ds i)[j]?=some d→x.cells[j]?=some c→RdP m d c):RdP m (.slice a xs.length cap) (.lst nn n xs)
 |ref (b o:Nat) (cs:List PV) (ds:List Value) (h0:At m b o ds) (h1:ds.length=cs.length) (h2:∀d∈ds,d.oneCell'=true)
   (h3:∀(j:Nat) (d:Value) (c:PV),ds[j]?=some d→cs[j]?=some c→RdP m d c):RdP m (.pointer (some ⟨b,o,none⟩)) (.ref cs)
 |fn (f:FuncId) (vf vc:Array Value) (fs cs:List PV) (h0:vf.size=fs.length) (h1:vc.size=cs.length)
   (h2:∀(j:Nat) (d:Value) (c:PV),vf[j]?=some d→fs[j]?=some c→RdP m d c) (h3:∀(j:Nat) (d:Value) (c:PV),vc[j]?=some d→cs[j]?=some c→RdP m d c):RdP m (.func (.func f) vf vc) (.fn f fs cs)
 |agg (vs:Array Value) (cs:List PV) (h0:vs.size=cs.length) (h1:∀d∈vs,d.oneCell'=true) (h2:∀(j:Nat) (d:Value) (c:PV),vs[j]?=some d→cs[j]?=some c→RdP m d c):RdP m (.agg vs) (.agg cs)
 |tup (vs:Array Value) (cs:List PV) (h0:vs.size=cs.length) (h2:∀(j:Nat) (d:Value) (c:PV),vs[j]?=some d→cs[j]?=some c→RdP m d c):RdP m (.tuple vs) (.tup cs)
 |iface (t:TypeId) (v:Value) (x:PV) (h:RdP m v x):RdP m (.iface t v) (.iface t x)
theorem RdP.mono {m m':Mem}(hm:Le m m'){v:Value}{x:PV}(h:RdP m v x):RdP m' v x:=by
 induction h with
 |int k n=>exact .int k n
 |bool b=>exact .bool b
 |str s=>exact .str s
 |nilp=>exact .nilp
 |nilfn=>exact .nilfn
 |nilmap=>exact .nilmap
 |nilif=>exact .nilif
 |opq v h=>exact .opq v h
 |emp a nl h0 h1 h2=>exact .emp a nl h0 h1 h2
 |lst a cap nn n xs ds h0 h1 h2 h3 h4 h5 h6 h7 ih=>exact .lst a cap nn n xs ds h0 h1 h2 h3 h4 (fun i x hx=>let ⟨b,o,e,k⟩:=h5 i x hx;⟨b,o,e,k.mono hm⟩) h6 ih
 |ref b o cs ds h0 h1 h2 h3 ih=>exact .ref b o cs ds (h0.mono hm) h1 h2 ih
 |fn f vf vc fs cs h0 h1 h2 h3 ih1 ih2=>exact .fn f vf vc fs cs h0 h1 ih1 ih2
 |agg vs cs h0 h1 h2 ih=>exact .agg vs cs h0 h1 ih
 |tup vs cs h0 h2 ih=>exact .tup vs cs h0 ih
 |iface t v x h ih=>exact .iface t v x ih
inductive Site where
 |par (i:Nat)
 |loc (d j:Nat)
 |ret (j:Nat)
 deriving DecidableEq,Inhabited
def Site.Zu1 (d:Nat):Site→Bool
 |.loc e _=>d==e
 |_=>false
structure Loc where
 b:Nat
 o:Nat
 cap:Nat
 real:Bool
 deriving Inhabited
inductive AV where
 |any
 |pv (x:PV)
 |ptr (s:Site) (off:Nat)
 |elt (s:Site) (n i off:Nat)
 |vec (s:Site) (n lo len:Nat)
 |mp (s:Site)
 |yld (s:Site)
 |fn (f:FuncId) (fs cs:List AV)
 |agg (cs:List AV)
 |tup (vs:List AV)
 deriving Inhabited
def AV.cells:AV→List AV
 |.agg cs=>cs
 |.pv (.agg cs)=>cs.map .pv
 |a=>[a]
inductive RdA (ρ:Site→Loc)(m:Mem):Value→AV→Prop where
 |any (v):RdA ρ m v .any
 |pv (v x) (h:RdP m v x):RdA ρ m v (.pv x)
 |ptr (s off):RdA ρ m (.pointer (some ⟨(ρ s).b,off,none⟩)) (.ptr s off)
 |elt (s n i off):RdA ρ m (.pointer (some ⟨(ρ s).b,(ρ s).o+i*n+off,none⟩)) (.elt s n i off)
 |vec (s n lo len cap) (h0:len≤cap) (h1:lo+cap≤(ρ s).cap) (h2:(ρ s).real=true):RdA ρ m (.slice (some ⟨(ρ s).b,(ρ s).o+lo*n,none⟩) len cap) (.vec s n lo len)
 |vec0 (s n lo a) (h:∀A,a=some A→ZcL A):RdA ρ m (.slice a 0 0) (.vec s n lo 0)
 |mp (s):RdA ρ m (.map (some (ρ s).b)) (.mp s)
 |yld (s):RdA ρ m (.func (.yield (ρ s).b) #[] #[]) (.yld s)
 |fn (f:FuncId) (vf vc:Array Value) (fs cs:List AV) (h0:vf.size=fs.length) (h1:vc.size=cs.length)
   (h2:∀(j:Nat) (d:Value) (c:AV),vf[j]?=some d→fs[j]?=some c→RdA ρ m d c) (h3:∀(j:Nat) (d:Value) (c:AV),vc[j]?=some d→cs[j]?=some c→RdA ρ m d c):RdA ρ m (.func (.func f) vf vc) (.fn f fs cs)
 |agg (vs:Array Value) (cs:List AV) (h0:vs.size=cs.length) (h1:∀d∈vs,d.oneCell'=true) (h2:∀(j:Nat) (d:Value) (c:AV),vs[j]?=some d→cs[j]?=some c→RdA ρ m d c):RdA ρ m (.agg vs) (.agg cs)
 |tup (vs:Array Value) (cs:List AV) (h0:vs.size=cs.length) (h2:∀(j:Nat) (d:Value) (c:AV),vs[j]?=some d→cs[j]?=some c→RdA ρ m d c):RdA ρ m (.tuple vs) (.tup cs)
mutual
def AV.has (d:Nat):AV→Bool
 |.any=>false
 |.pv _=>false
 |.ptr s _=>s.Zu1 d
 |.elt s _ _ _=>s.Zu1 d
 |.vec s _ _ _=>s.Zu1 d
 |.mp s=>s.Zu1 d
 |.yld s=>s.Zu1 d
 |.fn _ fs cs=>AV.ZvL d fs||AV.ZvL d cs
 |.agg cs=>AV.ZvL d cs
 |.tup vs=>AV.ZvL d vs
def AV.ZvL (d:Nat):List AV→Bool
 |[]=>false
 |a::r=>AV.has d a||AV.ZvL d r
end
theorem AV.Zvn {d:Nat}:∀{l:List AV} {i:Nat} {a:AV},AV.ZvL d l=false→l[i]?=some a→a.has d=false
 |[],i,a,_,h=>by simp at h
 |b::r,0,a,hl,h=>by
  simp[AV.ZvL]at hl h;subst h;exact hl.1
 |b::r,i+1,a,hl,h=>by
  simp only[AV.ZvL,Bool.or_eq_false_iff]at hl;exact AV.Zvn hl.2 (by simpa using h)
theorem RdA.mono {ρ ρ':Site→Loc}{m m':Mem}(hm:Le m m'){d:Nat}(hρ:∀s,s.Zu1 d=false→ρ' s=ρ s){v:Value}{a:AV}(h:RdA ρ m v a)(ha:a.has d=false):RdA ρ' m' v a:=by
 induction h with
 |any v=>exact .any v
 |pv v x h=>exact .pv v x (h.mono hm)
 |ptr s off=>rw[AV.has]at ha;rw[←hρ s ha];exact .ptr s off
 |elt s n i off=>rw[AV.has]at ha;rw[←hρ s ha];exact .elt s n i off
 |vec s n lo len cap h0 h1 h2=>rw[AV.has]at ha;rw[←hρ s ha]at h1 h2 ⊢;exact .vec s n lo len cap h0 h1 h2
 |vec0 s n lo a h=>exact .vec0 s n lo a h
 |mp s=>rw[AV.has]at ha;rw[←hρ s ha];exact .mp s
 |yld s=>rw[AV.has]at ha;rw[←hρ s ha];exact .yld s
 |fn f vf vc fs cs h0 h1 h2 h3 ih2 ih3=>
  simp only[AV.has,Bool.or_eq_false_iff]at ha;exact .fn f vf vc fs cs h0 h1 (fun j d c k1 k2=>ih2 j d c k1 k2 (AV.Zvn ha.1 k2)) (fun j d c k1 k2=>ih3 j d c k1 k2 (AV.Zvn ha.2 k2))
 |agg vs cs h0 h1 h2 ih=>
  rw[AV.has]at ha;exact .agg vs cs h0 h1 (fun j d c k1 k2=>ih j d c k1 k2 (AV.Zvn ha k2))
 |tup vs cs h0 h2 ih=>
  rw[AV.has]at ha;exact .tup vs cs h0 (fun j d c k1 k2=>ih j d c k1 k2 (AV.Zvn ha k2))
theorem RdA.more {ρ:Site→Loc}{m m':Mem}(hm:Le m m'){v:Value}{a:AV}(h:RdA ρ m v a):RdA ρ m' v a:=by
 induction h with
 |any v=>exact .any v
 |pv v x h=>exact .pv v x (h.mono hm)
 |ptr s off=>exact .ptr s off
 |elt s n i off=>exact .elt s n i off
 |vec s n lo len cap h0 h1 h2=>exact .vec s n lo len cap h0 h1 h2
 |vec0 s n lo a h=>exact .vec0 s n lo a h
 |mp s=>exact .mp s
 |yld s=>exact .yld s
 |fn f vf vc fs cs h0 h1 h2 h3 ih2 ih3=>exact .fn f vf vc fs cs h0 h1 ih2 ih3
 |agg vs cs h0 h1 h2 ih=>exact .agg vs cs h0 h1 ih
 |tup vs cs h0 h2 ih=>exact .tup vs cs h0 ih
inductive RowE where
 |av (a:AV)
 |own (xs:List PV)
 deriving Inhabited
def RowE.map (f:AV→AV):RowE→RowE
 |.av a=>.av (f a)
 |.own xs=>.own xs
theorem RowE.map_id:RowE.map id=id:=by funext x;cases x<;>rfl
def RowE.has (d:Nat):RowE→Bool
 |.av a=>a.has d
 |.own _=>false
structure ExtB where
 rd:Loc→Mem→World→Prop
 ins:Loc→World→List Nat
 same:∀(l:Loc) (w w':World),w'.heap[l.b]?=w.heap[l.b]?→ins l w'=ins l w
 obj:∀(l:Loc) (m:Mem) (w:World),rd l m w→∃cs T,w.heap[l.b]?=some (.cells cs T (0,0))
 insObj:∀(l:Loc) (m:Mem) (w:World) (k:Nat),rd l m w→k∈ins l w→∃cs T,w.heap[k]?=some (.cells cs T (0,0))
 more:∀(l:Loc) (m m':Mem) (w w':World),rd l m w→Le m m'→w'.heap[l.b]?=w.heap[l.b]?→(∀k∈ins l w,w'.heap[k]?=w.heap[k]?)→rd l m' w'
inductive Box where
 |rows (e e2:TypeId) (n:Nat) (els:List RowE)
 |cells (cs:List AV)
 |arr (e:TypeId) (n:Nat) (xs:List PV)
 |map (es:List (PV×PV))
 |loop (C:Code×Code) (ps:List Nat) (nt:Nat) (tm:List (Nat×AV)) (st:Option Code)
 |ext (E:ExtB)
 deriving Inhabited
def insAt (w:World)(l:Loc)(els:List RowE)(i:Nat):Option Nat:=match els[i]? with
 |some (.own _)=>match w.heap[l.b]? with
  |some (.cells cs _ _)=>match cs[l.o+i]? with
   |some (.slice (some A) _ (_+1))=>some A.block
   |_=>none
  |_=>none
 |_=>none
def ins (w:World)(l:Loc):Box→List Nat
 |.rows _ _ _ els=>(List.range els.length).filterMap (insAt w l els)
 |.ext E=>E.ins l w
 |_=>[]
def blk (ρ:Site→Loc)(w:World)(s:Site)(b:Box)(k:Nat):Prop:=((ρ s).real=true∧(ρ s).b=k)∨k∈ins w (ρ s) b
def ArrL (l:Loc)(m:Mem)(w:World)(e:TypeId)(n:Nat)(xs:List PV):Prop:=
 ∃cs,w.heap[l.b]?=some (.cells cs e (0,0))∧l.o+l.cap*n≤cs.size∧xs.length≤l.cap∧l.cap≤maxLen∧
   ∀(i:Nat) (x:PV),xs[i]?=some x→x.cells.length=n∧∀(j:Nat) (c:PV),x.cells[j]?=some c→∃d,cs[l.o+i*n+j]?=some d∧d.oneCell'=true∧RdP m d c
def OwnL (m:Mem)(w:World)(d:Value)(e:TypeId)(n:Nat)(xs:List PV):Prop:=
 (xs=[]∧∃a:Option Addr,d=.slice a 0 0∧∀A,a=some A→ZcL A)∨
  ∃(l:Loc) (cap:Nat),d=.slice (some ⟨l.b,l.o,none⟩) xs.length (cap+1)∧xs.length≤cap+1∧cap+1≤l.cap∧l.real=true∧ArrL l m w e n xs
def RdB (ρ:Site→Loc)(m:Mem)(w:World)(s:Site):Box→Prop
 |.cells azz=>(ρ s).real=true∧∃cs T,w.heap[(ρ s).b]?=some (.cells cs T (0,0))∧cs.size=azz.length∧∀(i:Nat) (c:Value) (a:AV),cs[i]?=some c→azz[i]?=some a→c.oneCell'=true∧RdA ρ m c a
 |.arr e n xs=>0<n∧(((ρ s).real=false∧xs=[]∧(ρ s).cap=0)∨((ρ s).real=true∧∃cs,w.heap[(ρ s).b]?=some (.cells cs e (0,0))∧(ρ s).o+(ρ s).cap*n≤cs.size∧xs.length≤(ρ s).cap∧(ρ s).cap≤maxLen∧
   ∀(i:Nat) (x:PV),xs[i]?=some x→x.cells.length=n∧∀(j:Nat) (c:PV),x.cells[j]?=some c→∃d,cs[(ρ s).o+i*n+j]?=some d∧d.oneCell'=true∧RdP m d c))
 |.map es=>(ρ s).real=true∧∃ents clock,w.heap[(ρ s).b]?=some (.map ents clock)∧ents.size=es.length∧∀(i:Nat) (e:MapEntry) (p:PV×PV),ents[i]?=some e→es[i]?=some p→RdP m e.key p.1∧RdP m e.val p.2
 |.rows e e2 n els=>0<n∧(((ρ s).real=false∧els=[]∧(ρ s).cap=0)∨((ρ s).real=true∧∃cs,w.heap[(ρ s).b]?=some (.cells cs e (0,0))∧(ρ s).o+(ρ s).cap≤cs.size∧els.length≤(ρ s).cap∧(ρ s).cap≤maxLen∧
   (∀(i:Nat) (a:AV),els[i]?=some (.av a)→∃d,cs[(ρ s).o+i]?=some d∧d.oneCell'=true∧RdA ρ m d a)∧(∀(i:Nat) (xs:List PV),els[i]?=some (.own xs)→∃d,cs[(ρ s).o+i]?=some d∧OwnL m w d e2 n xs)∧
   (∀(i j k:Nat),insAt w (ρ s) els i=some k→insAt w (ρ s) els j=some k→i=j)∧∀(i k:Nat),insAt w (ρ s) els i=some k→k≠(ρ s).b))
 |.loop C ps nt tm st=>(ρ s).real=true∧∃r:Loop,w.heap[(ρ s).b]?=some (.loop r)∧(r.state=match st with|none=>.ready|some _=>.done)∧r.pending=st∧r.params=ps.toArray∧r.assign=C.1∧r.body=C.2∧r.tmps.size=nt∧
   ∀(t:Nat) (a:AV),tm.lookup t=some a→∃v,r.tmps[t]?=some v∧RdA ρ m v a
 |.ext E=>(ρ s).real=true∧E.rd (ρ s) m w
def Box.has (d:Nat):Box→Bool
 |.rows _ _ _ els=>els.any (RowE.has d)
 |.cells azz=>AV.ZvL d azz
 |.loop _ _ _ tm _=>AV.ZvL d (tm.map (·.2))
 |_=>false
structure AS where
 tm:List (Nat×AV)
 bx:List (Site×Box)
def AS.t (σ:AS)(k:Nat):Option AV:=σ.tm.lookup k
def AS.b (σ:AS)(s:Site):Option Box:=σ.bx.lookup s
structure Keep (bs:List Nat)(w w':World):Prop where
 os:w'.os=w.os
 tape:w'.tape=w.tape
 output:w'.output=w.output
 size:w.heap.size≤w'.heap.size
 block:∀k,k<w.heap.size→k∉bs→w'.heap[k]?=w.heap[k]?
theorem Keep.ZvU (bs:List Nat)(w:World):Keep bs w w:=⟨rfl,rfl,rfl,ZxR _,fun _ _ _=>rfl⟩
theorem Keep.trans {bs:List Nat}{a b c:World}(h:Keep bs a b)(k:Keep bs b c):Keep bs a c:=
 ⟨k.os.trans h.os,k.tape.trans h.tape,k.output.trans h.output,Zx5 h.size k.size,fun i hi hn=>(k.block i (Nat.lt_of_lt_of_le hi h.size) hn).trans (h.block i hi hn)⟩
theorem Keep.ext {w w':World}(h:Keep [] w w'):Ext w w':=⟨h.os,h.tape,h.output,h.size,fun k hk=>h.block k hk (by simp)⟩
theorem Keep.Zwb {w w':World}(h:Ext w w')(bs:List Nat):Keep bs w w':=⟨h.os,h.tape,h.output,h.size,fun k hk _=>h.block k hk⟩
structure Env (w0:World) where
 m:Mem
 ρ:Site→Loc
 rest:List Deferred
 glob:Glob m w0
 strict:Bool
def Zgw (D:Nat):Deferred:={ target:=.collected D,args:=#[]}
def Zja (m0 m:Mem)(pl:List Nat):Prop:=Le m0 m∧∀k∈pl,∀o,m0 k o=none
theorem Zja.trans {a b c:Mem}{pl:List Nat}(h:Zja a b pl)(k:Le b c):Zja a c pl:=⟨h.1.trans k,h.2⟩
def Mix (rest:List Deferred)(ds:List Nat)(l:List Deferred):Prop:=∃d1 d2,ds=d1++d2∧l=d1.map Zgw++rest++d2.map Zgw
theorem Mix.nil {ds:List Nat}{l:List Deferred}(h:Mix [] ds l):l=ds.map Zgw:=by
 obtain⟨d1,d2,rfl,rfl⟩:=h;simp
def Nod (b:Bool)(ds:List Nat):Prop:=ds.Nodup∧(b=true→ds=[])
theorem nod0 {b:Bool}:Nod b []:=⟨by simp,fun _=>rfl⟩
theorem mix0:Mix [] [] []:=⟨[],[],rfl,rfl⟩
structure Sat (N:Nat)(w0:World)(m0:Env w0)(pl:List Nat)(σ:AS)(ρ:Site→Loc)(m:Mem)(act:Act)(w:World):Prop where
 nod:∃ds:List Nat,Mix m0.rest ds act.defers∧Nod m0.strict ds∧∀D∈ds,(w0.heap.size≤D∨D∈pl)∧w.heap[D]?=some (.deferred (some []))
 sz:act.tmps.size=N
 tm:∀t a,σ.t t=some a→∃v,act.tmps[t]?=some v∧RdA ρ m v a
 bx:∀s b,σ.b s=some b→RdB ρ m w s b
 injk:∀s s' b b' k,σ.b s=some b→σ.b s'=some b'→blk ρ w s b k→blk ρ w s' b' k→s=s'
 mem:Le m w.mem
 offk:∀s b k,σ.b s=some b→blk ρ w s b k→∀o,m k o=none
 ownk:∀s b k,σ.b s=some b→blk ρ w s b k→w0.heap.size≤k∨k∈pl
 keep:Keep pl w0 w
 base:Zja m0.m m pl
 fro:∀b o v,m b o=some v→m0.m b o=some v∨w0.heap.size≤b∨b∈pl
 par:∀i,ρ (.par i)=m0.ρ (.par i)
theorem Zag {α β:Type}[BEq α][LawfulBEq α]{k:α}{v:β}{l:List (α×β)}:List.lookup k ((k,v)::l)=some v:=by simp[List.lookup]
theorem Zad {α β:Type}[BEq α][LawfulBEq α]{k k':α}{v:β}{l:List (α×β)}(h:k≠k'):List.lookup k ((k',v)::l)=List.lookup k l:=by
 have:(k==k')=false:=by simpa using h
 simp[List.lookup,this]
theorem ZaA {ρ:Site→Loc}{w:World}{s:Site}{b:Box}(hr:(ρ s).real=true):blk ρ w s b (ρ s).b:=.inl ⟨hr,rfl⟩
section
variable {N:Nat}{w0:World}{m0:Env w0}{pl:List Nat}{σ:AS}{ρ:Site→Loc}{m:Mem}{act:Act}{w:World}
theorem Sat.inj (h:Sat N w0 m0 pl σ ρ m act w)(s s':Site)(b b':Box)(k:σ.b s=some b)(k':σ.b s'=some b')(r:(ρ s).real=true)(r':(ρ s').real=true)(e:(ρ s).b=(ρ s').b):s=s':=
 h.injk s s' b b' _ k k' (ZaA r) (by rw[e];exact ZaA r')
theorem Sat.off (h:Sat N w0 m0 pl σ ρ m act w)(s:Site)(b:Box)(k:σ.b s=some b)(r:(ρ s).real=true):∀o,m (ρ s).b o=none:=h.offk s b _ k (ZaA r)
theorem Sat.own (h:Sat N w0 m0 pl σ ρ m act w)(s:Site)(b:Box)(k:σ.b s=some b)(r:(ρ s).real=true):w0.heap.size≤(ρ s).b∨(ρ s).b∈pl:=h.ownk s b _ k (ZaA r)
end
theorem Sat.glob {N:Nat}{w0:World}{m0:Env w0}{pl:List Nat}{σ:AS}{ρ:Site→Loc}{m:Mem}{act:Act}{w:World}(h:Sat N w0 m0 pl σ ρ m act w):Glob m w:=
 (m0.glob.keep fun k o v hk hv=>h.keep.block k hk fun hp=>by rw[h.base.2 k hp o]at hv;cases hv).mono h.base.1
theorem Zqf {w w':World}{l:Loc}{b:Box}(h:w'.heap[l.b]?=w.heap[l.b]?):ins w' l b=ins w l b:=by
 cases b with
 |rows e e2 n els=>
  have:insAt w' l els=insAt w l els:=by funext i;unfold insAt;rw[h]
  show List.filterMap (insAt w' l els) _=List.filterMap (insAt w l els) _;rw[this]
 |ext E=>exact E.same _ _ _ h
 |_=>rfl
theorem Zeo {w:World}{l:Loc}{e e2:TypeId}{n:Nat}{els:List RowE}{k:Nat}:k∈ins w l (.rows e e2 n els)↔∃i,insAt w l els i=some k:=by
 unfold ins;rw[List.mem_filterMap];constructor
 ·rintro⟨i,_,h⟩;exact⟨i,h⟩
 ·rintro⟨i,h⟩;refine⟨i,?_,h⟩;rw[List.mem_range];rcases Nat.lt_or_ge i els.length with hl|hl
  ·exact hl
  ·unfold insAt at h;rw[List.getElem?_eq_none hl]at h;cases h
theorem ZfO {w:World}{l:Loc}{els:List RowE}{i k:Nat}(h:insAt w l els i=some k):∃xs cs T t A len cap,els[i]?=some (.own xs)∧w.heap[l.b]?=some (.cells cs T t)∧cs[l.o+i]?=some (.slice (some A) len (cap+1))∧A.block=k:=by
 unfold insAt at h;split at h
 ·rename_i xs h1;split at h
  ·rename_i cs T t h2;split at h
   ·rename_i A len cap h3;cases h;exact⟨xs,cs,T,t,A,len,cap,h1,h2,h3,rfl⟩
   ·cases h
  ·cases h
 ·cases h
theorem ZeY {w:World}{l:Loc}{els:List RowE}{i:Nat}{xs:List PV}{cs:Array Value}{T:TypeId}{t:Nat×Nat}{A:Addr}{len cap:Nat}(h1:els[i]?=some (.own xs))(h2:w.heap[l.b]?=some (.cells cs T t))(h3:cs[l.o+i]?=some (.slice (some A) len (cap+1))):insAt w l els i=some A.block:=by
 unfold insAt;rw[h1];dsimp only;rw[h2];dsimp only;rw[h3]
theorem OwnL.blk {m:Mem}{w:World}{e:TypeId}{n:Nat}{xs:List PV}{A:Addr}{len cap:Nat}(h:OwnL m w (.slice (some A) len (cap+1)) e n xs):∃(l:Loc),A=⟨l.b,l.o,none⟩∧len=xs.length∧xs.length≤cap+1∧cap+1≤l.cap∧l.real=true∧ArrL l m w e n xs:=by
 rcases h with⟨_,a,e1,_⟩|⟨l,c,e1,e2,e3,e4,e5⟩
 ·cases e1
 ·injection e1 with q1 q2 q3;cases q3;exact⟨l,by injection q1,q2,e2,e3,e4,e5⟩
theorem RdB.insObj {ρ:Site→Loc}{m:Mem}{w:World}{s:Site}{b:Box}(h:RdB ρ m w s b){k:Nat}(hk:k∈ins w (ρ s) b):∃cs T,w.heap[k]?=some (.cells cs T (0,0)):=by
 cases b with
 |rows e e2 n els=>
  obtain⟨i,hi⟩:=Zeo.1 hk;obtain⟨xs,cs,T,t,A,len,cap,k1,k2,k3,rfl⟩:=ZfO hi;obtain⟨_,⟨_,rfl,_⟩|⟨_,cs',g1,_,_,_,_,g5,_⟩⟩:=h
  ·cases k1
  rw[g1]at k2;cases k2;obtain⟨d,q1,q2⟩:=g5 i xs k1;rw[k3]at q1;cases q1;obtain⟨l,rfl,_,_,_,_,cs2,e1,_⟩:=q2.blk;exact⟨cs2,e2,e1⟩
 |ext E=>exact E.insObj _ _ _ _ h.2 hk
 |_=>cases hk
theorem RdB.lt {ρ:Site→Loc}{m:Mem}{w:World}{s:Site}{b:Box}(h:RdB ρ m w s b)(hr:(ρ s).real=true):(ρ s).b<w.heap.size:=by
 cases b with
 |cells azz=>obtain⟨_,cs,T,h1,_⟩:=h;exact(Zx8.1 h1).1
 |arr e n xs=>
  obtain⟨_,h|⟨_,cs,h1,_⟩⟩:=h
  ·rw[h.1]at hr;cases hr
  ·exact(Zx8.1 h1).1
 |map es=>obtain⟨_,en,cl,h1,_⟩:=h;exact(Zx8.1 h1).1
 |loop C ps nt tm st=>obtain⟨_,r,h1,_⟩:=h;exact(Zx8.1 h1).1
 |ext E=>obtain⟨cs,T,h1⟩:=E.obj _ _ _ h.2;exact(Zx8.1 h1).1
 |rows e e2 n els=>
  obtain⟨_,h|⟨_,cs,h1,_⟩⟩:=h
  ·rw[h.1]at hr;cases hr
  ·exact(Zx8.1 h1).1
theorem RdB.ltk {ρ:Site→Loc}{m:Mem}{w:World}{s:Site}{b:Box}{k:Nat}(h:RdB ρ m w s b)(hk:blk ρ w s b k):k<w.heap.size:=by
 rcases hk with⟨hr,rfl⟩|hk
 ·exact h.lt hr
 ·obtain⟨cs,T,h1⟩:=h.insObj hk;exact(Zx8.1 h1).1
theorem RdB.obj {ρ:Site→Loc}{m:Mem}{w:World}{s:Site}{b:Box}(h:RdB ρ m w s b)(hr:(ρ s).real=true):w.heap[(ρ s).b]?≠some (.deferred (some [])):=by
 intro e;cases b with
 |cells azz=>obtain⟨_,cs,T,h1,_⟩:=h;rw[h1]at e;cases e
 |arr e' n xs=>
  obtain⟨_,h|⟨_,cs,h1,_⟩⟩:=h
  ·rw[h.1]at hr;cases hr
  ·rw[h1]at e;cases e
 |map es=>obtain⟨_,en,cl,h1,_⟩:=h;rw[h1]at e;cases e
 |loop C ps nt tm st=>obtain⟨_,r,h1,_⟩:=h;rw[h1]at e;cases e
 |ext E=>obtain⟨cs,T,h1⟩:=E.obj _ _ _ h.2;rw[h1]at e;cases e
 |rows e' e2 n els=>
  obtain⟨_,h|⟨_,cs,h1,_⟩⟩:=h
  ·rw[h.1]at hr;cases hr
  ·rw[h1]at e;cases e
theorem RdB.ZxA {ρ:Site→Loc}{m:Mem}{w:World}{s:Site}{b:Box}{k:Nat}(h:RdB ρ m w s b)(hk:blk ρ w s b k):w.heap[k]?≠some (.deferred (some [])):=by
 rcases hk with⟨hr,rfl⟩|hk
 ·exact h.obj hr
 ·obtain⟨cs,T,h1⟩:=h.insObj hk;intro e;rw[h1]at e;cases e
theorem ArrL.more {l:Loc}{m m':Mem}{w w':World}{e:TypeId}{n:Nat}{xs:List PV}(h:ArrL l m w e n xs)(hm:Le m m')(hb:w'.heap[l.b]?=w.heap[l.b]?):ArrL l m' w' e n xs:=by
 obtain⟨cs,h1,h2,h3,h4,h5⟩:=h;refine⟨cs,by rw[hb];exact h1,h2,h3,h4,fun i x k1=>⟨(h5 i x k1).1,fun j c k2=>?_⟩⟩;obtain⟨d,k3,k4,k5⟩:=(h5 i x k1).2 j c k2;exact⟨d,k3,k4,k5.mono hm⟩
theorem OwnL.more {m m':Mem}{w w':World}{d:Value}{e:TypeId}{n:Nat}{xs:List PV}(h:OwnL m w d e n xs)(hm:Le m m')(hb:∀A len cap,d=.slice (some A) len (cap+1)→w'.heap[A.block]?=w.heap[A.block]?):OwnL m' w' d e n xs:=by
 rcases h with h|⟨l,c,e1,e2,e3,e4,e5⟩
 ·exact .inl h
 ·exact .inr ⟨l,c,e1,e2,e3,e4,e5.more hm (hb _ _ _ e1)⟩
theorem ZdR {α β:Type}[BEq α][LawfulBEq α]{k:α}{v:β}:∀{l:List (α×β)},l.lookup k=some v→∃i:Nat,(l.map (·.2))[i]?=some v
 |[],h=>by simp[List.lookup]at h
 |(a,b)::r,h=>by
  by_cases e:k=a
  ·subst e;rw[Zag]at h;cases h;exact⟨0,rfl⟩
  ·rw[Zad e]at h;obtain⟨i,hi⟩:=ZdR h;exact⟨i+1,by simpa using hi⟩
theorem blk_same {ρ:Site→Loc}{w w':World}{s:Site}{b:Box}(h:w'.heap[(ρ s).b]?=w.heap[(ρ s).b]?){k:Nat}:blk ρ w' s b k↔blk ρ w s b k:=by
 unfold blk;rw[Zqf h]
theorem RdB.blk_same {ρ:Site→Loc}{m:Mem}{w w':World}{s:Site}{b:Box}(hB:RdB ρ m w s b)(h:(ρ s).real=true→w'.heap[(ρ s).b]?=w.heap[(ρ s).b]?){k:Nat}:blk ρ w' s b k↔blk ρ w s b k:=by
 cases b with
 |rows e e2 n els=>
  obtain⟨_,⟨h1,rfl,_⟩|⟨h1,_⟩⟩:=hB
  ·exact Iff.rfl
  ·exact Go.Proofs.YtfpmaennjlggeaaGreatDoor.blk_same (h h1)
 |ext E=>exact Go.Proofs.YtfpmaennjlggeaaGreatDoor.blk_same (h hB.1)
 |_=>exact Iff.rfl
theorem ZbI {ρ ρ':Site→Loc}{w:World}{s:Site}{b:Box}{k:Nat}(h:ρ' s=ρ s):blk ρ' w s b k↔blk ρ w s b k:=by unfold blk;rw[h]
theorem RdB.gen {ρ ρ':Site→Loc}{m m':Mem}{w w':World}{s s':Site}{b b':Box}(h:RdB ρ m w s b)(f:AV→AV)(hf:b'=match b with
   |.cells azz=>.cells (azz.map f)
   |.loop C ps nt tm st=>.loop C ps nt (tm.map fun p=>(p.1,f p.2)) st
   |.rows e e2 n els=>.rows e e2 n (els.map (RowE.map f))
   |b=>b) (hm:Le m m') (hs:ρ' s'=ρ s) (hv:∀v a,RdA ρ m v a→(∃azz,b=.cells azz∧a∈azz)∨(∃C ps nt tm st t,b=.loop C ps nt tm st∧(t,a)∈tm)∨(∃e e2 n els,b=.rows e e2 n els∧.av a∈els)→RdA ρ' m' v (f a))
  (hb:∀k,blk ρ w s b k→w'.heap[k]?=w.heap[k]?):RdB ρ' m' w' s' b':=by
 subst hf;cases b with
 |cells azz=>
  obtain⟨h0,cs,T,h1,h2,h3⟩:=h;refine⟨by rw[hs];exact h0,cs,T,by rw[hs,hb _ (ZaA h0)];exact h1,by rw[ZxS];exact h2,fun i c a k1 k2=>?_⟩;rw[ZxM]at k2;obtain⟨a',k3,rfl⟩:=ZxP.1 k2;exact⟨(h3 i c a' k1 k3).1,hv _ _ (h3 i c a' k1 k3).2 (.inl ⟨azz,rfl,ZxQ k3⟩)⟩
 |arr e n xs=>
  obtain⟨h0,h|⟨h1,cs,h2,h3,h4,h5,h6⟩⟩:=h
  ·exact⟨h0,.inl (by rw[hs];exact h)⟩
  ·refine⟨h0,.inr ⟨by rw[hs];exact h1,cs,by rw[hs,hb _ (ZaA h1)];exact h2,by rw[hs];exact h3,by rw[hs];exact h4,by rw[hs];exact h5,fun i x k1=>⟨(h6 i x k1).1,fun j c k2=>?_⟩⟩⟩;obtain⟨d,k3,k4,k5⟩:=(h6 i x k1).2 j c k2;exact⟨d,by rw[hs];exact k3,k4,k5.mono hm⟩
 |map es=>
  obtain⟨h0,en,cl,h1,h2,h3⟩:=h;exact⟨by rw[hs];exact h0,en,cl,by rw[hs,hb _ (ZaA h0)];exact h1,h2,fun i e p k1 k2=>⟨(h3 i e p k1 k2).1.mono hm,(h3 i e p k1 k2).2.mono hm⟩⟩
 |loop C ps nt tm st=>
  obtain⟨h0,r,h1,h2,h3,h4,h5,h6,h7,h8⟩:=h;refine⟨by rw[hs];exact h0,r,by rw[hs,hb _ (ZaA h0)];exact h1,h2,h3,h4,h5,h6,h7,fun t a k=>?_⟩;have hl:∀l:List (Nat×AV),(l.map fun p=>(p.1,f p.2)).lookup t=(l.lookup t).map f:=by
   intro l;induction l with
   |nil=>rfl
   |cons p r ih=>
    obtain⟨x,y⟩:=p;by_cases e:t=x
    ·subst e;simp[List.lookup]
    ·rw[ZxZ,Zad e,Zad e];exact ih
  rw[hl]at k;obtain⟨a',k3,rfl⟩:=ZxP.1 k;obtain⟨v,k4,k5⟩:=h8 t a' k3;have hmem:∀l:List (Nat×AV),l.lookup t=some a'→(t,a')∈l:=by
   intro l;induction l with
   |nil=>intro h;simp[List.lookup]at h
   |cons p r ih=>
    obtain⟨x,y⟩:=p;intro h;by_cases e:t=x
    ·subst e;rw[Zag]at h;cases h;simp
    ·rw[Zad e]at h;simp[ih h]
  exact⟨v,k4,hv _ _ k5 (.inr (.inl ⟨C,ps,nt,tm,st,t,rfl,hmem _ k3⟩))⟩
 |rows e e2 n els=>
  obtain⟨hn,⟨h0,rfl,h1⟩|⟨h0,cs,h1,h2,h3,h4,h5,h6,h7,h8⟩⟩:=h
  ·exact⟨hn,.inl ⟨by rw[hs];exact h0,rfl,by rw[hs];exact h1⟩⟩
  have hi:insAt w' (ρ' s') (els.map (RowE.map f))=insAt w (ρ s) els:=by
   funext i;unfold insAt;rw[hs,hb _ (ZaA h0),ZxM];cases els[i]? with
   |none=>rfl
   |some el=>cases el<;>rfl
  refine⟨hn,.inr ⟨by rw[hs];exact h0,cs,by rw[hs,hb _ (ZaA h0)];exact h1,by rw[hs];exact h2,by rw[hs,ZxS];exact h3,by rw[hs];exact h4,fun i a k=>?_,fun i xs k=>?_,by rw[hi];exact h7,by rw[hi,hs];exact h8⟩⟩
  ·rw[ZxM]at k;obtain⟨el,k3,k4⟩:=ZxP.1 k;cases el with
   |own xs=>cases k4
   |av a'=>
    cases k4;obtain⟨d,q1,q2,q3⟩:=h5 i a' k3;exact⟨d,by rw[hs];exact q1,q2,hv _ _ q3 (.inr (.inr ⟨e,e2,n,els,rfl,ZxQ k3⟩))⟩
  ·rw[ZxM]at k;obtain⟨el,k3,k4⟩:=ZxP.1 k;cases el with
   |av a=>cases k4
   |own xs'=>
    cases k4;obtain⟨d,q1,q2⟩:=h6 i xs k3;refine⟨d,by rw[hs];exact q1,q2.more hm (fun A len cap ed=>?_)⟩;subst ed;exact hb _ (.inr (Zeo.2 ⟨i,ZeY k3 h1 q1⟩))
 |ext E=>
  refine⟨by rw[hs];exact h.1,?_⟩;rw[hs];exact E.more _ _ _ _ _ h.2 hm (hb _ (ZaA h.1)) (fun k hk=>hb k (.inr hk))
theorem RdB.more {ρ:Site→Loc}{m m':Mem}{w w':World}{s:Site}{b:Box}(h:RdB ρ m w s b)(hm:Le m m')(hb:∀k,blk ρ w s b k→w'.heap[k]?=w.heap[k]?):RdB ρ m' w' s b:=
 h.gen id (by cases b<;>simp[RowE.map_id]) hm rfl (fun v a hv _=>hv.more hm) hb
theorem Box.Zxf {d:Nat}{b:Box}(hd:b.has d=false){a:AV}(h:(∃azz,b=.cells azz∧a∈azz)∨(∃C ps nt tm st t,b=.loop C ps nt tm st∧(t,a)∈tm)∨(∃e e2 n els,b=.rows e e2 n els∧.av a∈els)):a.has d=false:=by
 rcases h with⟨azz,rfl,h⟩|⟨C,ps,nt,tm,st,t,rfl,h⟩|⟨e,e2,n,els,rfl,h⟩
 ·obtain⟨i,hi⟩:=ZxV.1 h;exact AV.Zvn hd hi
 ·obtain⟨i,hi⟩:=ZxV.1 h;have hd':AV.ZvL d (tm.map (·.2))=false:=hd;exact AV.Zvn (i:=i) hd' (by rw[ZxM,hi];rfl)
 ·have:=List.any_eq_false.1 hd _ h
  simpa[RowE.has]using this
theorem RdB.stay {ρ ρ':Site→Loc}{m m':Mem}{w w':World}{s:Site}{b:Box}(h:RdB ρ m w s b)(hm:Le m m'){d:Nat}(hρ:∀s,s.Zu1 d=false→ρ' s=ρ s)(hs:s.Zu1 d=false)(hd:b.has d=false)
  (hb:∀k,blk ρ w s b k→w'.heap[k]?=w.heap[k]?):RdB ρ' m' w' s b:=
 h.gen id (by cases b<;>simp[RowE.map_id]) hm (hρ s hs) (fun v a hv hw=>hv.mono hm hρ (Box.Zxf hd hw)) hb
section
variable {N:Nat}{w0:World}{m0:Env w0}{pl:List Nat}{σ:AS}{ρ:Site→Loc}{m:Mem}{act:Act}{w w':World}
theorem Sat.ZxE (h:Sat N w0 m0 pl σ ρ m act w){τ:AS}(ht:∀t a,τ.t t=some a→σ.t t=some a∨a=.any∧∃c,σ.t t=some c)(hb:∀s b,τ.b s=some b→σ.b s=some b):Sat N w0 m0 pl τ ρ m act w:=
 ⟨h.nod,h.sz,fun t a k=>by
  rcases ht t a k with k|⟨rfl,c,k⟩
  ·exact h.tm t a k
  ·obtain⟨v,k1,_⟩:=h.tm t c k;exact⟨v,k1,.any v⟩,fun s b k=>h.bx s b (hb s b k),fun s s' b b' i k k'=>h.injk s s' b b' i (hb s b k) (hb s' b' k'),h.mem,fun s b i k=>h.offk s b i (hb s b k),fun s b i k=>h.ownk s b i (hb s b k),h.keep,h.base,h.fro,h.par⟩
theorem Sat.put (h:Sat N w0 m0 pl σ ρ m act w){d:Nat}(hd:d<N){v:Value}{a:AV}(hv:RdA ρ m v a):Sat N w0 m0 pl { σ with tm:=(d,a)::σ.tm } ρ m (act.put (some d) v) w:=by
 refine⟨h.nod,by simp[Act.put,h.sz],fun t a' k=>?_,h.bx,h.injk,h.mem,h.offk,h.ownk,h.keep,h.base,h.fro,h.par⟩;unfold AS.t at k;rcases Nat.decEq t d with hne|rfl
 ·rw[Zad hne]at k;obtain⟨u,k1,k2⟩:=h.tm t a' k;exact⟨u,by show(act.tmps.setIfInBounds d v)[t]?=some u;rw[Array.getElem?_setIfInBounds_ne (fun e=>hne e.symm)];exact k1,k2⟩
 ·rw[Zag]at k;cases k;exact⟨v,by show(act.tmps.setIfInBounds t v)[t]?=some v;rw[Array.getElem?_setIfInBounds_self_of_lt (by rw[h.sz];exact hd)],hv⟩
theorem Sat.ext (h:Sat N w0 m0 pl σ ρ m act w)(hx:Ext w w'):Sat N w0 m0 pl σ ρ m act w':=by
 have hq:∀s b,σ.b s=some b→∀k,blk ρ w' s b k↔blk ρ w s b k:=fun s b k i=>(h.bx s b k).blk_same (fun r=>hx.block _ ((h.bx s b k).lt r))
 exact⟨let ⟨ds,h1,h0,h2⟩:=h.nod;⟨ds,h1,h0,fun D hD=>⟨(h2 D hD).1,by rw[hx.block _ (Zx8.1 (h2 D hD).2).1];exact(h2 D hD).2⟩⟩,h.sz,h.tm,fun s b k=>(h.bx s b k).more (Le.refl _) (fun i r=>hx.block _ ((h.bx s b k).ltk r)),
  fun s s' b b' i k k' r r'=>h.injk s s' b b' i k k' ((hq s b k i).1 r) ((hq s' b' k' i).1 r'),h.mem.trans hx.le,fun s b i k r=>h.offk s b i k ((hq s b k i).1 r),fun s b i k r=>h.ownk s b i k ((hq s b k i).1 r),h.keep.trans (Keep.Zwb hx pl),h.base,h.fro,h.par⟩
end
end
section
def AV.Zu0 (d:Nat)(a:AV):AV:=if a.has d=true then .any else a
def Box.Zu0 (d:Nat):Box→Box
 |.rows e e2 n els=>.rows e e2 n (els.map (RowE.map (AV.Zu0 d)))
 |.cells azz=>.cells (azz.map (AV.Zu0 d))
 |.loop C ps nt tm st=>.loop C ps nt (tm.map fun p=>(p.1,p.2.Zu0 d)) st
 |b=>b
def AS.Zu0 (d:Nat)(σ:AS):AS:=⟨σ.tm.map fun p=>(p.1,p.2.Zu0 d),(σ.bx.filter fun p=>!p.1.Zu1 d).map fun p=>(p.1,p.2.Zu0 d)⟩
def AS.drop (s:Site)(σ:AS):AS:=⟨σ.tm,σ.bx.filter fun p=>!decide (p.1=s)⟩
def AS.set (s:Site)(b:Box)(σ:AS):AS:=⟨σ.tm,(s,b)::σ.bx⟩
def AS.put (d:Nat)(a:AV)(σ:AS):AS:=⟨(d,a)::σ.tm,σ.bx⟩
def AS.add (s:Site)(b:Box)(σ:AS):AS:=⟨σ.tm,(s,b)::σ.bx⟩
theorem AV.Zvr (d:Nat)(a:AV):(a.Zu0 d).has d=false:=by
 unfold AV.Zu0;split
 ·rfl
 ·rename_i h;simpa using h
theorem AV.Zvp (d:Nat):∀l:List AV,AV.ZvL d (l.map (AV.Zu0 d))=false
 |[]=>rfl
 |a::r=>by simp[AV.ZvL,AV.Zvr,AV.Zvp d r]
theorem Box.Zvr (d:Nat)(b:Box):(b.Zu0 d).has d=false:=by
 cases b with
 |rows e e2 n els=>
  show(els.map (RowE.map (AV.Zu0 d))).any (RowE.has d)=false;rw[List.any_map,List.any_eq_false];intro el _;cases el with
  |av a=>simp[RowE.map,RowE.has,AV.Zvr]
  |own xs=>simp[RowE.map,RowE.has]
 |cells azz=>exact AV.Zvp d azz
 |arr e n xs=>rfl
 |map es=>rfl
 |loop C ps nt tm st=>
  show AV.ZvL d ((tm.map fun p=>(p.1,p.2.Zu0 d)).map (·.2))=false;rw[List.map_map]
  have:((fun p:Nat×AV=>p.2)∘fun p:Nat×AV=>(p.1,p.2.Zu0 d))=AV.Zu0 d∘(fun p:Nat×AV=>p.2):=rfl
  rw[this,←List.map_map];exact AV.Zvp d _
 |ext E=>rfl
theorem Zbu {α β γ:Type}[BEq α][LawfulBEq α](f:β→γ)(k:α):∀l:List (α×β),(l.map fun p=>(p.1,f p.2)).lookup k=(l.lookup k).map f
 |[]=>rfl
 |(a,b)::r=>by
  by_cases h:k=a
  ·subst h;simp[List.lookup]
  ·rw[ZxZ,Zad h,Zad h];exact Zbu f k r
theorem ZaU {α β:Type}[BEq α][LawfulBEq α](q:α→Bool)(k:α):∀l:List (α×β),(l.filter fun p=>q p.1).lookup k=if q k=true then l.lookup k else none
 |[]=>by simp
 |(a,b)::r=>by
  rw[Zyt];by_cases h:k=a
  ·subst h;cases hq:q k
   ·simp only[hq,Bool.false_eq_true,if_false];rw[ZaU q k r];simp[hq]
   ·simp[hq,List.lookup]
  ·cases hq:q a
   ·simp only[Bool.false_eq_true,if_false];rw[ZaU q k r,Zad h]
   ·simp only[if_true];rw[Zad h,Zad h];exact ZaU q k r
theorem AS.Zwe (d:Nat)(σ:AS)(k:Nat):(σ.Zu0 d).t k=(σ.t k).map (AV.Zu0 d):=Zbu _ _ _
theorem AS.Zvl (d:Nat)(σ:AS)(s:Site):(σ.Zu0 d).b s=if s.Zu1 d=true then none else(σ.b s).map (Box.Zu0 d):=by
 show((σ.bx.filter fun p=>!p.1.Zu1 d).map fun p=>(p.1,p.2.Zu0 d)).lookup s=_;rw[Zbu (Box.Zu0 d) s,show List.lookup s (List.filter (fun p=>!p.1.Zu1 d) σ.bx)=_ from ZaU (fun s=>!s.Zu1 d) s σ.bx];cases s.Zu1 d<;>simp[AS.b]
theorem AS.Zvz (s:Site)(σ:AS)(s':Site):(σ.drop s).b s'=if s'=s then none else σ.b s':=by
 show(σ.bx.filter fun p=>!decide (p.1=s)).lookup s'=_;rw[show List.lookup s' (List.filter (fun p=>!decide (p.1=s)) σ.bx)=_ from ZaU (fun x=>!decide (x=s)) s' σ.bx];by_cases h:s'=s<;>simp[h,AS.b]
theorem AS.Zv9 (s:Site)(b:Box)(σ:AS)(s':Site):(σ.add s b).b s'=if s'=s then some b else σ.b s':=by
 show((s,b)::σ.bx).lookup s'=_;by_cases h:s'=s
 ·subst h;rw[Zag,if_pos rfl]
 ·rw[Zad h,if_neg h];rfl
theorem AS.Zwy (s:Site)(b:Box)(σ:AS)(s':Site):(σ.set s b).b s'=if s'=s then some b else σ.b s':=AS.Zv9 s b σ s'
theorem AS.Zxn (d:Nat)(a:AV)(σ:AS)(k:Nat):(σ.put d a).t k=if k=d then some a else σ.t k:=by
 show((d,a)::σ.tm).lookup k=_;by_cases h:k=d
 ·subst h;rw[Zag,if_pos rfl]
 ·rw[Zad h,if_neg h];rfl
structure NoD (d:Nat)(σ:AS):Prop where
 t:∀k a,σ.t k=some a→a.has d=false
 b:∀s b,σ.b s=some b→s.Zu1 d=false∧b.has d=false
theorem NoD.Zu0 (d:Nat)(σ:AS):NoD d (σ.Zu0 d):=by
 refine⟨fun k a h=>?_,fun s b h=>?_⟩
 ·rw[AS.Zwe]at h;obtain⟨c,_,rfl⟩:=ZxP.1 h;exact AV.Zvr d c
 ·rw[AS.Zvl]at h;split at h
  ·cases h
  ·rename_i hs;obtain⟨c,_,rfl⟩:=ZxP.1 h;exact⟨by simpa using hs,Box.Zvr d c⟩
section
variable {N:Nat}{w0:World}{m0:Env w0}{pl:List Nat}{σ:AS}{ρ:Site→Loc}{m:Mem}{act:Act}{w w':World}
theorem ZpB {d:Nat}{v:Value}{a:AV}(h:RdA ρ m v a):RdA ρ m v (a.Zu0 d):=by
 unfold AV.Zu0;split
 ·exact .any v
 ·exact h
theorem RdB.Zu0 {s:Site}{b:Box}(d:Nat)(h:RdB ρ m w s b):RdB ρ m w s (b.Zu0 d):=
 h.gen (AV.Zu0 d) (by cases b<;>rfl) (Le.refl m) rfl (fun v a hv _=>ZpB hv) (fun _ _=>rfl)
theorem Zhz {w w':World}{l:Loc}{e e2:TypeId}{n:Nat}{els:List RowE}{f:AV→AV}(h:w'.heap[l.b]?=w.heap[l.b]?):ins w' l (.rows e e2 n (els.map (RowE.map f)))=ins w l (.rows e e2 n els):=by
 have hi:insAt w' l (els.map (RowE.map f))=insAt w l els:=by
  funext i;unfold insAt;rw[h,ZxM];cases els[i]? with
  |none=>rfl
  |some el=>cases el<;>rfl
 show List.filterMap (insAt w' l (els.map (RowE.map f))) _=List.filterMap (insAt w l els) _;rw[hi,ZxS]
theorem ZnY {w:World}{l:Loc}{b:Box}{d:Nat}:ins w l (b.Zu0 d)=ins w l b:=by
 cases b with
 |rows e e2 n els=>exact Zhz rfl
 |_=>rfl
theorem Za4 {s:Site}{b:Box}{d k:Nat}:blk ρ w s (b.Zu0 d) k↔blk ρ w s b k:=by unfold blk;rw[ZnY]
theorem Sat.Zu0 (h:Sat N w0 m0 pl σ ρ m act w)(d:Nat):Sat N w0 m0 pl (σ.Zu0 d) ρ m act w:=by
 have hb:∀s b,(σ.Zu0 d).b s=some b→∃b',σ.b s=some b'∧b=b'.Zu0 d:=fun s b k=>by
  rw[AS.Zvl]at k;split at k
  ·cases k
  ·obtain⟨b',k1,rfl⟩:=ZxP.1 k;exact⟨b',k1,rfl⟩
 refine⟨h.nod,h.sz,fun t a k=>?_,fun s b k=>?_,fun s s' b b' i k k' r r'=>?_,h.mem,fun s b i k r=>?_,fun s b i k r=>?_,h.keep,h.base,h.fro,h.par⟩
 ·rw[AS.Zwe]at k;obtain⟨c,k1,rfl⟩:=ZxP.1 k;obtain⟨v,k2,k3⟩:=h.tm t c k1;refine⟨v,k2,?_⟩;unfold AV.Zu0;split
  ·exact .any v
  ·exact k3
 ·obtain⟨b',k1,rfl⟩:=hb s b k;exact(h.bx s b' k1).Zu0 d
 ·obtain⟨c,k1,rfl⟩:=hb s b k;obtain⟨c',k1',rfl⟩:=hb s' b' k';exact h.injk s s' c c' i k1 k1' (Za4.1 r) (Za4.1 r')
 ·obtain⟨c,k1,rfl⟩:=hb s b k;exact h.offk s c i k1 (Za4.1 r)
 ·obtain⟨c,k1,rfl⟩:=hb s b k;exact h.ownk s c i k1 (Za4.1 r)
theorem Sat.drop (h:Sat N w0 m0 pl σ ρ m act w)(s:Site):Sat N w0 m0 pl (σ.drop s) ρ m act w:=
 h.ZxE (fun t a k=>.inl k) (fun s' b k=>by
  rw[AS.Zvz]at k;split at k
  ·cases k
  ·exact k)
def upd (ρ:Site→Loc)(s:Site)(l:Loc):Site→Loc:=fun s'=>if s'=s then l else ρ s'
theorem ZaL (ρ:Site→Loc)(s:Site)(l:Loc):upd ρ s l s=l:=by simp[upd]
theorem ZcJ (ρ:Site→Loc){s s':Site}(l:Loc)(h:s'≠s):upd ρ s l s'=ρ s':=by simp[upd,h]
theorem Zfa (ρ:Site→Loc)(d j:Nat)(l:Loc):∀s,s.Zu1 d=false→upd ρ (.loc d j) l s=ρ s:=fun s hs=>ZcJ ρ l (fun e=>by subst e;simp[Site.Zu1]at hs)
def Box.plain:Box→Bool
 |.rows _ _ _ _=>false
 |.ext _=>false
 |_=>true
theorem Za5 {s:Site}{b:Box}{k:Nat}(hb:b.plain=true)(h:blk ρ w s b k):(ρ s).real=true∧(ρ s).b=k:=by
 rcases h with h|h
 ·exact h
 ·cases b with
  |rows e e2 n els=>cases hb
  |ext E=>cases hb
  |_=>cases h
theorem Zfn {w:World}{l:Loc}{b:Box}(hb:b.plain=true)(k:Nat):k∉ins w l b:=fun h=>by
 cases b with
 |rows e e2 n els=>cases hb
 |ext E=>cases hb
 |_=>cases h
theorem Zea {s:Site}{b:Box}{k:Nat}(hb:∀k,k∉ins w (ρ s) b)(h:blk ρ w s b k):(ρ s).real=true∧(ρ s).b=k:=h.elim id fun h=>absurd h (hb k)
theorem Sat.ZxJ (h:Sat N w0 m0 pl σ ρ m act w){d j:Nat}(hn:NoD d σ){l:Loc}{box:Box}(hb:RdB (upd ρ (.loc d j) l) m w (.loc d j) box)
  (hi:l.real=true→∀s b,σ.b s=some b→¬blk ρ w s b l.b) (ho:l.real=true→∀o,m l.b o=none) (hw:l.real=true→w0.heap.size≤l.b∨l.b∈pl) (hpl:∀k,k∉ins w (upd ρ (.loc d j) l (.loc d j)) box):
  Sat N w0 m0 pl (σ.add (.loc d j) box) (upd ρ (.loc d j) l) m act w:=by
 have hne:∀s b,σ.b s=some b→s≠.loc d j:=fun s b k e=>by
  subst e
  have:=(hn.b _ b k).1
  simp[Site.Zu1]at this
 have hρ:=Zfa ρ d j l;have hu:=ZaL ρ (.loc d j) l;refine⟨h.nod,h.sz,fun t a k=>?_,fun s b k=>?_,fun s s' b b' i k k' r r'=>?_,h.mem,fun s b i k r=>?_,fun s b i k r=>?_,h.keep,h.base,h.fro,fun i=>(ZcJ ρ l (by simp)).trans (h.par i)⟩
 ·obtain⟨v,k1,k2⟩:=h.tm t a k;exact⟨v,k1,k2.mono (Le.refl m) hρ (hn.t t a k)⟩
 ·rw[AS.Zv9]at k;split at k
  ·rename_i e;subst e;cases k;exact hb
  ·exact(h.bx s b k).stay (Le.refl m) hρ (hn.b s b k).1 (hn.b s b k).2 (fun _ _=>rfl)
 ·rw[AS.Zv9]at k k';split at k<;>split at k'
  ·rename_i e1 e2;rw[e1,e2]
  ·rename_i e1 e2;subst e1;cases k;obtain⟨q1,q2⟩:=Zea hpl r;rw[hu]at q1 q2;rw[ZbI (ZcJ ρ l e2)]at r';exact absurd (by rw[q2];exact r') (hi q1 s' b' k')
  ·rename_i e1 e2;subst e2;cases k';obtain⟨q1,q2⟩:=Zea hpl r';rw[hu]at q1 q2;rw[ZbI (ZcJ ρ l e1)]at r;exact absurd (by rw[q2];exact r) (hi q1 s b k)
  ·rename_i e1 e2;rw[ZbI (ZcJ ρ l e1)]at r;rw[ZbI (ZcJ ρ l e2)]at r';exact h.injk s s' b b' i k k' r r'
 ·rw[AS.Zv9]at k;split at k
  ·rename_i e;subst e;cases k;obtain⟨q1,q2⟩:=Zea hpl r;rw[hu]at q1 q2;subst q2;exact ho q1
  ·rename_i e;rw[ZbI (ZcJ ρ l e)]at r;exact h.offk s b i k r
 ·rw[AS.Zv9]at k;split at k
  ·rename_i e;subst e;cases k;obtain⟨q1,q2⟩:=Zea hpl r;rw[hu]at q1 q2;subst q2;exact hw q1
  ·rename_i e;rw[ZbI (ZcJ ρ l e)]at r;exact h.ownk s b i k r
theorem Sat.add (h:Sat N w0 m0 pl σ ρ m act w){d j:Nat}(hn:NoD d σ){l:Loc}{box:Box}(hb:RdB (upd ρ (.loc d j) l) m w (.loc d j) box)
  (hi:l.real=true→∀s b,σ.b s=some b→¬blk ρ w s b l.b) (ho:l.real=true→∀o,m l.b o=none) (hw:l.real=true→w0.heap.size≤l.b∨l.b∈pl) (hpl:box.plain=true:=by rfl):
  Sat N w0 m0 pl (σ.add (.loc d j) box) (upd ρ (.loc d j) l) m act w:=h.ZxJ hn hb hi ho hw (Zfn hpl)
theorem Sat.Zv4 (h:Sat N w0 m0 pl σ ρ m act w){k:Nat}(hk:w.heap.size≤k)(o:Nat):m k o=none:=by
 cases hm:m k o with
 |none=>rfl
 |some v=>have:=ZaH (h.mem k o v hm);omega
theorem Sat.lt (h:Sat N w0 m0 pl σ ρ m act w){s:Site}{b:Box}(hb:σ.b s=some b)(hr:(ρ s).real=true):(ρ s).b<w.heap.size:=(h.bx s b hb).lt hr
theorem Sat.ltk (h:Sat N w0 m0 pl σ ρ m act w){s:Site}{b:Box}(hb:σ.b s=some b){k:Nat}(hr:blk ρ w s b k):k<w.heap.size:=(h.bx s b hb).ltk hr
theorem Sat.ZxF (h:Sat N w0 m0 pl σ ρ m act w)(d j:Nat)(hn:NoD d σ)(cs:Array Value)(T:TypeId)(cap:Nat){box:Box}
  (hb:RdB (upd ρ (.loc d j) ⟨w.heap.size,0,cap,true⟩) m (w.alloc (.cells cs T)) (.loc d j) box) (hpl:∀k,k∉ins (w.alloc (.cells cs T)) (upd ρ (.loc d j) ⟨w.heap.size,0,cap,true⟩ (.loc d j)) box):
  Sat N w0 m0 pl (σ.add (.loc d j) box) (upd ρ (.loc d j) ⟨w.heap.size,0,cap,true⟩) m act (w.alloc (.cells cs T)):=
 (h.ext (Ext.al w _)).ZxJ hn hb (fun _ s b k r=>by
  have hx:Ext w (w.alloc (.cells cs T)):=Ext.al w _
  have:=h.ltk k (((h.bx s b k).blk_same (fun r=>hx.block _ (h.lt k r))).1 r)
  simp at this) (fun _ o=>h.Zv4 (ZxR _) o) (fun _=>.inl h.keep.size) hpl
theorem Sat.new (h:Sat N w0 m0 pl σ ρ m act w)(d j:Nat)(hn:NoD d σ)(cs:Array Value)(T:TypeId)(cap:Nat){box:Box}
  (hb:RdB (upd ρ (.loc d j) ⟨w.heap.size,0,cap,true⟩) m (w.alloc (.cells cs T)) (.loc d j) box) (hpl:box.plain=true:=by rfl):
  Sat N w0 m0 pl (σ.add (.loc d j) box) (upd ρ (.loc d j) ⟨w.heap.size,0,cap,true⟩) m act (w.alloc (.cells cs T)):=h.ZxF d j hn cs T cap hb (Zfn hpl)
theorem Sat.write (h:Sat N w0 m0 pl σ ρ m act w){k:Nat}(hk:∀s b,σ.b s=some b→¬blk ρ w s b k)(hm:∀o,m k o=none)(hp:w0.heap.size≤k∨k∈pl)(hnd:w.heap[k]?≠some (.deferred (some []))∨act.defers=[])
  (hx:Keep [k] w w'):Sat N w0 m0 pl σ ρ m act w':=by
 have hst:∀s b,σ.b s=some b→∀i,blk ρ w s b i→w'.heap[i]?=w.heap[i]?:=fun s b hs i r=>hx.block _ (h.ltk hs r) (by
  rw[Zyi];intro e;subst e;exact hk s b hs r)
 have hq:∀s b,σ.b s=some b→∀i,blk ρ w' s b i↔blk ρ w s b i:=fun s b k i=>(h.bx s b k).blk_same (fun r=>hst s b k _ (ZaA r))
 refine⟨let ⟨ds,h1,h0,h2⟩:=h.nod;⟨ds,h1,h0,fun D hD=>⟨(h2 D hD).1,by
  obtain⟨k1,k2⟩:=h2 D hD;rw[hx.block D (Zx8.1 k2).1 (by
   rw[Zyi];intro e;subst e;rcases hnd with hnd|hnd
   ·exact hnd k2
   ·rw[hnd]at h1;obtain⟨d1,d2,rfl,h3⟩:=h1;have h4:=List.append_eq_nil_iff.1 h3.symm;have h5:=List.map_eq_nil_iff.1 (List.append_eq_nil_iff.1 h4.1).1;have h6:=List.map_eq_nil_iff.1 h4.2;subst h5 h6;cases hD)]
  exact k2⟩⟩,h.sz,h.tm,fun s b hs=>(h.bx s b hs).more (Le.refl _) (hst s b hs),fun s s' b b' i k k' r r'=>h.injk s s' b b' i k k' ((hq s b k i).1 r) ((hq s' b' k' i).1 r'),fun b o v hv=>?_,fun s b i k r=>h.offk s b i k ((hq s b k i).1 r),fun s b i k r=>h.ownk s b i k ((hq s b k i).1 r),?_,h.base,h.fro,h.par⟩
 ·have hw:=h.mem b o v hv;have hlt:=ZaH hw;have hne:b≠k:=fun e=>by subst e;rw[hm o]at hv;cases hv
  exact(World.cell?_of_block (a:=⟨b,o,none⟩) (hx.block b hlt (by simpa using hne))).trans hw
 ·refine⟨hx.os.trans h.keep.os,hx.tape.trans h.keep.tape,hx.output.trans h.keep.output,Zx5 h.keep.size hx.size,fun i hi hn=>?_⟩;have hne:i≠k:=fun e=>by
   subst e;rcases hp with hp|hp
   ·omega
   ·exact hn hp
  exact(hx.block i (Nat.lt_of_lt_of_le hi h.keep.size) (by simpa using hne)).trans (h.keep.block i hi hn)
theorem Sat.ZwJ (h:Sat N w0 m0 pl σ ρ m act w){s:Site}{b:Box}(hs:σ.b s=some b)(hr:(ρ s).real=true)(hx:Keep [(ρ s).b] w w'){box:Box}(hb:RdB ρ m w' s box)(hq:∀k,k∈ins w' (ρ s) box→k∈ins w (ρ s) b):
  Sat N w0 m0 pl (σ.set s box) ρ m act w':=by
 have hd:Sat N w0 m0 pl (σ.drop s) ρ m act w':=(h.drop s).write (k:=(ρ s).b) (fun s' b' k r=>by
  rw[AS.Zvz]at k;split at k
  ·cases k
  ·rename_i hne;exact hne (h.injk s' s b' b _ k hs r (ZaA hr))) (h.off s b hs hr) (h.own s b hs hr) (.inl ((h.bx s b hs).obj hr)) hx
 have hbk:∀k,blk ρ w' s box k→blk ρ w s b k:=fun k r=>r.imp id (hq k)
 have hold:∀s' b',s'≠s→σ.b s'=some b'→∀k,blk ρ w' s' b' k→blk ρ w s' b' k:=fun s' b' hne k i r=>
  ((h.bx s' b' k).blk_same (fun r'=>hx.block _ (h.lt k r') (by
   rw[Zyi];exact fun e=>hne (h.inj s' s b' b k hs r' hr e)))).1 r
 refine⟨hd.nod,hd.sz,hd.tm,fun s' b' k=>?_,fun s1 s2 b1 b2 i k1 k2 r1 r2=>?_,hd.mem,fun s' b' i k r=>?_,fun s' b' i k r=>?_,hd.keep,hd.base,hd.fro,hd.par⟩
 ·rw[AS.Zwy]at k;split at k
  ·rename_i e;subst e;cases k;exact hb
  ·rename_i hne;exact hd.bx s' b' (by rw[AS.Zvz,if_neg hne];exact k)
 ·have g:∀s' b',(σ.set s box).b s'=some b'→blk ρ w' s' b' i→∃c,σ.b s'=some c∧blk ρ w s' c i:=fun s' b' k r=>by
   rw[AS.Zwy]at k;split at k
   ·rename_i e;subst e;cases k;exact⟨b,hs,hbk i r⟩
   ·rename_i hne;exact⟨b',k,hold s' b' hne k i r⟩
  obtain⟨c1,g1,r1⟩:=g s1 b1 k1 r1;obtain⟨c2,g2,r2⟩:=g s2 b2 k2 r2;exact h.injk s1 s2 c1 c2 i g1 g2 r1 r2
 ·rw[AS.Zwy]at k;split at k
  ·rename_i e;subst e;cases k;exact h.offk s' b i hs (hbk i r)
  ·rename_i hne;exact h.offk s' b' i k (hold s' b' hne k i r)
 ·rw[AS.Zwy]at k;split at k
  ·rename_i e;subst e;cases k;exact h.ownk s' b i hs (hbk i r)
  ·rename_i hne;exact h.ownk s' b' i k (hold s' b' hne k i r)
theorem Sat.Zwn (h:Sat N w0 m0 pl σ ρ m act w){s:Site}{b:Box}(hs:σ.b s=some b)(hr:(ρ s).real=true)(hx:Keep [(ρ s).b] w w'){box:Box}(hb:RdB ρ m w' s box)(hpl:box.plain=true:=by rfl):
  Sat N w0 m0 pl (σ.set s box) ρ m act w':=h.ZwJ hs hr hx hb (fun k hk=>by
 cases box with
 |rows e e2 n els=>cases hpl
 |ext E=>cases hpl
 |_=>cases hk)
theorem Sat.ZxG (h:Sat N w0 m0 pl σ ρ m act w){m':Mem}(hm:Le m m')(hw:Le m' w.mem)(ho:∀s b k,σ.b s=some b→blk ρ w s b k→∀o,m' k o=none)(hf:∀b o v,m' b o=some v→m b o=some v∨w0.heap.size≤b∨b∈pl):Sat N w0 m0 pl σ ρ m' act w:=by
 refine⟨h.nod,h.sz,fun t a k=>?_,fun s b k=>?_,h.injk,hw,ho,h.ownk,h.keep,h.base.trans hm,fun b o v hv=>by
  rcases hf b o v hv with k|k
  ·exact h.fro b o v k
  ·exact .inr k,h.par⟩
 ·obtain⟨v,k1,k2⟩:=h.tm t a k;exact⟨v,k1,k2.more hm⟩
 ·exact(h.bx s b k).more hm (fun _ _=>rfl)
end
end
section
section
variable {P:Program}{w:World}
def sizeT (P:Program)(t:TypeId):Option Nat:=(P.info? t).map (·.size)
def rowT (P:Program)(t:TypeId):Bool:=match P.underlying t with
 |some (.struct _)|some (.array _ _)=>true
 |_=>false
theorem run_sizeOf {t:TypeId}{n:Nat}(h:sizeT P t=some n)(w:World):(sizeOf t).run P w=.ok n w:=by
 unfold sizeT at h;cases hx:P.info? t with
 |none=>simp[hx]at h
 |some i=>
  simp[hx]at h;simp[sizeOf,typeInfo,hx,h]
theorem Zfk {t:TypeId}{d:TypeDesc}(h:P.underlying t=some d)(w:World):(isAgg t).run P w=.ok (rowT P t) w:=by
 unfold isAgg rowT;rw[Sem.run_bind,run_underlying h w];simp only[Result.andThen_ok,h];cases d<;>rfl
theorem Znd {t:TypeId}{d:TypeDesc}(hu:P.underlying t=some d)(hr:rowT P t=false){b o:Nat}{v:Value}(hc:w.cell? ⟨b,o,none⟩=some v):
  (Instr.loadAt t (.pointer (some ⟨b,o,none⟩))).run P w=.ok v w:=by
 simp only[Instr.loadAt,Instr.sureAddr,Sem.run_bind,Sem.run_pure,Result.andThen_ok,loadVar,Zfk hu,hr];simp[load,Sem.run,hc]
theorem Znc {t:TypeId}{d:TypeDesc}(hu:P.underlying t=some d)(hr:rowT P t=true){b o:Nat}{cs:List Value}(hc:At w.mem b o cs)(hi:sizeT P t=some cs.length):
  (Instr.loadAt t (.pointer (some ⟨b,o,none⟩))).run P w=.ok (.agg cs.toArray) w:=by
 refine run_loadAt_mid w b o t cs d (fun j v hv=>hc.get j v hv) hu ?_ hi;unfold rowT at hr;rw[hu]at hr;cases d<;>first|rfl|(simp at hr)
theorem ZsJ {t:TypeId}{b o:Nat}{v:Value}{cur:Array Value}{T:TypeId}(hi:sizeT P t=some v.cells.size)(hh:w.heap[b]?=some (.cells cur T (0,0)))(hl:o+v.cells.size≤cur.size)(h1:∀u∈v.cells,u.oneCell'=true):
  (Instr.storeAt t (.pointer (some ⟨b,o,none⟩)) v).run P w=.ok () (w.setRow b (cur.toList.take o++v.cells.toList++cur.toList.drop (o+v.cells.size)).toArray):=by
 have hs:=run_storeCells_at P b o T v.cells.toList 0 cur w hh (by simpa using hl) (fun u hu=>h1 u (by simpa using hu));simp only[Nat.add_zero,Zyf]at hs;simp only[Instr.storeAt,Instr.sureAddr,Sem.run_bind,Sem.run_pure,Result.andThen_ok,storeVar,run_sizeOf hi];simp[hs]
def offT (P:Program)(t f:Nat):Option Nat:=match P.underlying t with
 |some (.struct fs)=>match fs[f]? with
  |some fl=>if(sizeT P fl.type).getD 0=0 then none else some fl.offset
  |none=>none
 |_=>none
theorem Zc5 (b o k:Nat):(⟨b,o,none⟩:Addr).add k=⟨b,o+k,none⟩:=ZuW
theorem r_fa {t f off:Nat}(h:offT P t f=some off)(b o:Nat):(Instr.fieldAt t (.pointer (some ⟨b,o,none⟩)) f).run P w=.ok (.pointer (some ⟨b,o+off,none⟩)) w:=by
 unfold offT at h;split at h
 ·rename_i fs hu;split at h
  ·rename_i fl hf;split at h
   ·cases h
   ·rename_i hz;cases h;cases hs:sizeT P fl.type with
    |none=>rw[hs]at hz;simp at hz
    |some n=>
     rw[hs]at hz;simp at hz;simp[Instr.fieldAt,run_underlying hu,hf,Instr.sureAddr,fieldPlace,run_sizeOf hs,hz,Zc5]
  ·cases h
 ·cases h
def elemT (P:Program)(t:TypeId):Option (TypeId×Nat×Option Nat):=match P.underlying t with
 |some (.slice e)=>(sizeT P e).map fun n=>(e,n,none)
 |some (.array l e)=>(sizeT P e).map fun n=>(e,n,some l)
 |_=>none
theorem ZaV {t e n:Nat}(h:elemT P t=some (e,n,none)):P.underlying t=some (.slice e)∧sizeT P e=some n:=by
 unfold elemT at h;split at h
 ·rename_i e' hu;cases hs:sizeT P e' with
  |none=>rw[hs]at h;simp at h
  |some k=>
   rw[hs]at h;simp only[Zyq,Option.some.injEq,Prod.mk.injEq]at h;obtain⟨rfl,rfl,_⟩:=h;exact⟨hu,hs⟩
 ·rename_i l e' hu;cases hs:sizeT P e'<;>rw[hs]at h<;>simp at h
 ·cases h
theorem ZcV {t e n l:Nat}(h:elemT P t=some (e,n,some l)):P.underlying t=some (.array l e)∧sizeT P e=some n:=by
 unfold elemT at h;split at h
 ·rename_i e' hu;cases hs:sizeT P e'<;>rw[hs]at h<;>simp at h
 ·rename_i l' e' hu;cases hs:sizeT P e' with
  |none=>rw[hs]at h;simp at h
  |some k=>
   rw[hs]at h;simp only[Zyq,Option.some.injEq,Prod.mk.injEq]at h;obtain⟨rfl,rfl,rfl⟩:=h;exact⟨hu,hs⟩
 ·cases h
theorem r_ia {t e n:Nat}(h:elemT P t=some (e,n,none))(b o len cap:Nat)(k:IntKind){i:Int}(h0:0≤i)(h1:i<len):
  (Instr.indexAt t (.slice (some ⟨b,o,none⟩) len cap) (.int k i)).run P w=.ok (.pointer (some ⟨b,o+i.toNat*n,none⟩)) w:=by
 obtain⟨hu,hs⟩:=ZaV h;simp[Instr.indexAt,run_underlying hu,asIntOf,run_sizeOf hs,h0,h1,Zc5]
theorem ZpA {t e n l:Nat}(h:elemT P t=some (e,n,some l))(b o:Nat)(k:IntKind){i:Int}(h0:0≤i)(h1:i<l):
  (Instr.indexAt t (.pointer (some ⟨b,o,none⟩)) (.int k i)).run P w=.ok (.pointer (some ⟨b,o+i.toNat*n,none⟩)) w:=by
 obtain⟨hu,hs⟩:=ZcV h;simp[Instr.indexAt,run_underlying hu,asIntOf,Instr.sureAddr,run_sizeOf hs,h0,h1,Zc5]
theorem r_len {t e n:Nat}(h:elemT P t=some (e,n,none))(ty:TypeId)(a:Option Addr)(len cap:Nat):(Builtin.len_ #[t] ty #[.slice a len cap]).run P w=.ok (.int .i64 len) w:=by
 obtain⟨hu,hs⟩:=ZaV h;simp[Builtin.len_,run_underlying hu,goInt]
theorem Zne {t e n l:Nat}(h:elemT P t=some (e,n,some l))(ty:TypeId)(v:Value):(Builtin.len_ #[t] ty #[v]).run P w=.ok (.int .i64 l) w:=by
 obtain⟨hu,hs⟩:=ZcV h;cases v<;>simp[Builtin.len_,run_underlying hu,goInt]
def zeroT (P:Program)(t:TypeId):Option Value:=(P.info? t).bind (·.zero)
theorem ZbJ {t:TypeId}{z:Value}(h:zeroT P t=some z)(w:World):(zeroValue t).run P w=.ok z w:=by
 unfold zeroT at h;cases hx:P.info? t with
 |none=>simp[hx]at h
 |some i=>
  simp[hx]at h;simp[zeroValue,typeInfo,hx,h]
theorem Znf {t:TypeId}{z:Value}(h:zeroT P t=some z):(Instr.alloc t true (.tuple #[])).run P w=.ok (.pointer (some ⟨w.heap.size,0,none⟩)) (w.alloc (.cells z.cells t)):=by
 simp[Instr.alloc,ZbJ h,newVar,newRow]
theorem r_box (t:TypeId)(v:Value):(Instr.box t v).run P w=.ok (.pointer (some ⟨w.heap.size,0,none⟩)) (w.alloc (.cells v.cells t)):=by
 simp[Instr.box,newVar,newRow]
end
end
section
inductive Opd where
 |t (k:Nat)
 |c (x:PV)
 deriving Inhabited
def AS.o (σ:AS):Opd→AV
 |.t k=>(σ.t k).getD .any
 |.c x=>.pv x
def pvOf:Value→Option PV
 |.int k n=>some (.int k n)
 |.bool b=>some (.bool b)
 |.string s=>some (.str s)
 |.pointer none=>some .nilp
 |.slice none 0 0=>some (.emp (some true))
 |.nilFunc=>some .nilfn
 |.map none=>some .nilmap
 |.nilIface=>some .nilif
 |_=>none
def opd:Operand→Option Opd
 |.tmp k=>some (.t k)
 |.const v=>(pvOf v).map .c
 |.func f=>some (.c (.fn f [] []))
 |.global _=>none
theorem Zhe {v:Value}{x:PV}(h:pvOf v=some x)(m:Mem):RdP m v x:=by
 unfold pvOf at h;split at h<;>first|(cases h;constructor)|(cases h)
 ·intro _;rfl
 ·intro e;cases e
 ·intro A e;cases e
def AV.one:AV→Bool
 |.any=>false
 |.pv (.agg _)=>false
 |.pv (.tup _)=>false
 |.agg _=>false
 |.tup _=>false
 |_=>true
theorem RdA.one {ρ:Site→Loc}{m:Mem}{v:Value}{a:AV}(h:RdA ρ m v a)(ha:a.one=true):v.oneCell'=true:=by
 cases h with
 |any=>cases ha
 |pv v x h=>cases h<;>first|rfl|assumption|(simp[AV.one]at ha)
 |_=>first|rfl|(simp[AV.one]at ha)
def unpvs:List AV→Option (List PV)
 |[]=>some []
 |a::r=>match a,unpvs r with
  |.pv x,some l=>some (x::l)
  |_,_=>none
def Zb3 (l:List AV):AV:=match unpvs l with
 |some xs=>.pv (.agg xs)
 |none=>.agg l
def splice {α:Type}(l:List α)(off:Nat)(c:List α):List α:=l.take off++c++l.drop (off+c.length)
theorem Zbr:∀{l:List AV} {xs:List PV},unpvs l=some xs→l=xs.map .pv
 |[],xs,h=>by simp[unpvs]at h;subst h;rfl
 |a::r,xs,h=>by
  unfold unpvs at h;split at h
  ·rename_i x l h1;cases h;rw[ZxZ,Zbr h1]
  ·cases h
section
variable {N:Nat}{w0:World}{m0:Env w0}{pl:List Nat}{σ:AS}{ρ:Site→Loc}{m:Mem}{act:Act}{w w':World}
def AV.wide:AV→Bool
 |.agg _=>true
 |.pv (.agg _)=>true
 |_=>false
theorem RdA.Zw1 {v:Value}{a:AV}(h:RdA ρ m v a)(ha:a≠.any):v.cells.size=a.cells.length∧∀(j:Nat) (d:Value) (c:AV),v.cells[j]?=some d→a.cells[j]?=some c→RdA ρ m d c∧(a.wide=true→d.oneCell'=true):=by
 have single:∀{v:Value} {a:AV},RdA ρ m v a→v.cells=#[v]→a.cells=[a]→a.wide=false→v.cells.size=a.cells.length∧∀(j:Nat) (d:Value) (c:AV),v.cells[j]?=some d→a.cells[j]?=some c→RdA ρ m d c∧(a.wide=true→d.oneCell'=true):=by
  intro v a h h1 h2 h3;rw[h1,h2];refine⟨rfl,fun j d c k1 k2=>?_⟩;cases j with
  |zero=>simp at k1 k2;subst k1 k2;exact⟨h,fun e=>by rw[h3]at e;cases e⟩
  |succ j=>simp at k2
 have h':=h;cases h with
 |any=>exact absurd rfl ha
 |agg vs cs h0 h1 h2=>exact⟨h0,fun j d c k1 k2=>⟨h2 j d c k1 k2,fun _=>h1 d (Array.mem_of_getElem? k1)⟩⟩
 |pv v x hx=>
  cases hx with
  |agg vs cs h0 h1 h2=>
   refine⟨by simp only[AV.cells,Value.cells,ZxS];exact h0,fun j d c k1 k2=>?_⟩;simp only[AV.cells,ZxM]at k2;obtain⟨x,k3,rfl⟩:=ZxP.1 k2;exact⟨.pv _ _ (h2 j d x k1 k3),fun _=>h1 d (Array.mem_of_getElem? k1)⟩
  |opq _ hv=>exact single h' (by cases v<;>first|rfl|cases hv) rfl rfl
  |_=>exact single h' rfl rfl rfl
 |_=>exact single h' rfl rfl rfl
theorem Sat.opd (h:Sat N w0 m0 pl σ ρ m act w){x:Operand}{y:Opd}(e:Go.Proofs.YtfpmaennjlggeaaGreatDoor.opd x=some y):RdA ρ m (act.eval x) (σ.o y):=by
 cases x with
 |tmp k=>
  simp[Go.Proofs.YtfpmaennjlggeaaGreatDoor.opd]at e;subst e;show RdA ρ m (act.tmps.getD k undef) ((σ.t k).getD .any);cases ht:σ.t k with
  |none=>exact .any _
  |some a=>
   obtain⟨v,k1,k2⟩:=h.tm k a ht;rw[Array.getD_eq_getD_getElem?,k1];exact k2
 |const v=>
  simp only[Go.Proofs.YtfpmaennjlggeaaGreatDoor.opd,ZxP]at e;obtain⟨x,k1,rfl⟩:=e;exact .pv _ _ (Zhe k1 m)
 |func f=>
  simp[Go.Proofs.YtfpmaennjlggeaaGreatDoor.opd]at e;subst e;exact .pv _ _ (.fn f #[] #[] [] [] rfl rfl (fun j d c k=>by simp at k) (fun j d c k=>by simp at k))
 |global g=>simp[Go.Proofs.YtfpmaennjlggeaaGreatDoor.opd]at e
theorem Zcw {vs:Array Value}{l:List AV}(h0:vs.size=l.length)(h1:∀d∈vs,d.oneCell'=true)(h2:∀(j:Nat) (d:Value) (c:AV),vs[j]?=some d→l[j]?=some c→RdA ρ m d c):RdA ρ m (.agg vs) (Zb3 l):=by
 unfold Zb3;split
 ·rename_i xs hx;have e:=Zbr hx;subst e;refine .pv _ _ (.agg vs xs (by simpa using h0) h1 (fun j d c k1 k2=>?_))
  have:=h2 j d (.pv c) k1 (by rw[ZxM,k2];rfl)
  cases this with
  |pv _ _ h=>exact h
 ·exact .agg vs l h0 h1 h2
def tupA (l:List AV):AV:=match unpvs l with
 |some xs=>.pv (.tup xs)
 |none=>.tup l
def fnA (f:FuncId)(fs cs:List AV):AV:=match unpvs fs,unpvs cs with
 |some a,some b=>.pv (.fn f a b)
 |_,_=>.fn f fs cs
theorem Zr7 {vs:Array Value}{l:List AV}(h0:vs.size=l.length)(h2:∀(j:Nat) (d:Value) (c:AV),vs[j]?=some d→l[j]?=some c→RdA ρ m d c):RdA ρ m (.tuple vs) (tupA l):=by
 unfold tupA;split
 ·rename_i xs hx;have e:=Zbr hx;subst e;refine .pv _ _ (.tup vs xs (by simpa using h0) (fun j d c k1 k2=>?_))
  have:=h2 j d (.pv c) k1 (by rw[ZxM,k2];rfl)
  cases this with
  |pv _ _ h=>exact h
 ·exact .tup vs l h0 h2
theorem Zuz {f:FuncId}{vf vc:Array Value}{fs cs:List AV}(h0:vf.size=fs.length)(h1:vc.size=cs.length)(h2:∀(j:Nat) (d:Value) (c:AV),vf[j]?=some d→fs[j]?=some c→RdA ρ m d c)
  (h3:∀(j:Nat) (d:Value) (c:AV),vc[j]?=some d→cs[j]?=some c→RdA ρ m d c):RdA ρ m (.func (.func f) vf vc) (fnA f fs cs):=by
 unfold fnA;split
 ·rename_i a b hx hy;have e:=Zbr hx;have e':=Zbr hy;subst e e';refine .pv _ _ (.fn f vf vc a b (by simpa using h0) (by simpa using h1) (fun j d c k1 k2=>?_) (fun j d c k1 k2=>?_))
  ·have:=h2 j d (.pv c) k1 (by rw[ZxM,k2];rfl)
   cases this with
   |pv _ _ h=>exact h
  ·have:=h3 j d (.pv c) k1 (by rw[ZxM,k2];rfl)
   cases this with
   |pv _ _ h=>exact h
 ·exact .fn f vf vc fs cs h0 h1 h2 h3
def binI (op:BinOp)(k k':IntKind)(a b:Int):Option PV:=
 match op with
 |.shl=>if b<0 then none else some (.int k (k.wrap (a*2^(min b.toNat k.bits))))
 |.shr=>if b<0 then none else some (.int k (a.fdiv (2^(min b.toNat k.bits))))
 |.add=>if k=k' then some (.int k (k.wrap (a+b)))else none
 |.sub=>if k=k' then some (.int k (k.wrap (a-b)))else none
 |.mul=>if k=k' then some (.int k (k.wrap (a*b)))else none
 |.quo=>if k=k' then(if b=0 then none else some (.int k (k.wrap (a.tdiv b))))else none
 |.rem=>if k=k' then(if b=0 then none else some (.int k (a.tmod b)))else none
 |.eql=>if k=k' then some (.bool (decide (a=b)))else none
 |.neq=>if k=k' then some (.bool (decide (a≠b)))else none
 |.lss=>if k=k' then some (.bool (decide (a<b)))else none
 |.leq=>if k=k' then some (.bool (decide (a≤b)))else none
 |.gtr=>if k=k' then some (.bool (decide (b<a)))else none
 |.geq=>if k=k' then some (.bool (decide (b≤a)))else none
 |.and=>if k=k' then some (.int k (k.wrap (BitVec.ofInt k.bits a&&& BitVec.ofInt k.bits b).toNat))else none
 |.or=>if k=k' then some (.int k (k.wrap (BitVec.ofInt k.bits a||| BitVec.ofInt k.bits b).toNat))else none
 |.xor=>if k=k' then some (.int k (k.wrap (BitVec.ofInt k.bits a ^^^ BitVec.ofInt k.bits b).toNat))else none
 |.andNot=>none
def binB (op:BinOp)(a b:Bool):Option PV:=
 match op with
 |.eql=>some (.bool (a==b))
 |.neq=>some (.bool (a != b))
 |_=>none
theorem Ztu (a b:Int):decide (a=b)=(a==b):=by rw[Zyr];simp
theorem Ztt (a b:Int):decide (a≠b)=(a != b):=by rw[Zyr];simp
theorem Zq0 {P:Program}{op:BinOp}{k k':IntKind}{a b:Int}{r:PV}(h:binI op k k' a b=some r)(t:TypeId)(x y:Operand):
  ∃v,(∀w:World,(do eqGuard op t x y (.int k a) (.int k' b);binOp op t (.int k a) (.int k' b):Sem Value).run P w=.ok v w)∧∀m,RdP m v r:=by
 have hg:∀w,(eqGuard op t x y (.int k a) (.int k' b)).run P w=.ok () w:=by
  intro w;unfold eqGuard;cases op<;>simp
 simp only[Sem.run_bind,hg,Result.andThen_ok];unfold binI at h;cases op<;>simp only at h
 case shl=>
  split at h
  ·cases h
  ·rename_i hb;cases h
   (refine⟨_,?_,fun m=>.int _ _⟩;intro w;simp[binOp,Op.shift,hb])
 case shr=>
  split at h
  ·cases h
  ·rename_i hb;cases h
   (refine⟨_,?_,fun m=>.int _ _⟩;intro w;simp[binOp,Op.shift,hb])
 case quo=>
  split at h
  ·rename_i hk;subst hk;split at h
   ·cases h
   ·rename_i hb;cases h
    (refine⟨_,?_,fun m=>.int _ _⟩;intro w;simp[binOp,Op.intDiv,hb])
  ·cases h
 case rem=>
  split at h
  ·rename_i hk;subst hk;split at h
   ·cases h
   ·rename_i hb;cases h
    (refine⟨_,?_,fun m=>.int _ _⟩;intro w;simp[binOp,Op.intDiv,hb])
  ·cases h
 case andNot=>cases h
 case eql=>
  split at h
  ·rename_i hk;subst hk;cases h;exact⟨.bool (a==b),by intro w;simp[binOp,Op.intCmp],fun m=>by rw[Ztu];exact .bool _⟩
  ·cases h
 case neq=>
  split at h
  ·rename_i hk;subst hk;cases h;exact⟨.bool (a != b),by intro w;simp[binOp,Op.intCmp],fun m=>by rw[Ztt];exact .bool _⟩
  ·cases h
 all_goals
  split at h
  ·rename_i hk;subst hk;cases h;first
   |(refine⟨_,?_,fun m=>.int _ _⟩;intro w;simp[binOp,Op.intArith];done)
   |(refine⟨_,?_,fun m=>.int _ _⟩;intro w;simp[binOp,Op.intBits];done)
   |(refine⟨_,?_,fun m=>.bool _⟩;intro w;simp[binOp,Op.intCmp];done)
  ·cases h
theorem Zq1 {P:Program}{op:BinOp}{a b:Bool}{r:PV}(h:binB op a b=some r)(t:TypeId)(x y:Operand)(ht:P.underlying t=some .bool):
  ∃v,(∀w:World,(do eqGuard op t x y (.bool a) (.bool b);binOp op t (.bool a) (.bool b):Sem Value).run P w=.ok v w)∧∀m,RdP m v r:=by
 have hg:∀w,(eqGuard op t x y (.bool a) (.bool b)).run P w=.ok () w:=by
  intro w;unfold eqGuard;cases op<;>simp
 simp only[Sem.run_bind,hg,Result.andThen_ok];unfold binB at h;cases op<;>simp only at h<;>cases h
 ·(refine⟨_,?_,fun m=>.bool _⟩;intro w;simp only[binOp,Sem.run_bind,run_equal_bool w t a b ht,Result.andThen_ok];rfl)
 ·(refine⟨_,?_,fun m=>.bool _⟩;intro w;simp only[binOp,Sem.run_bind,run_equal_bool w t a b ht,Result.andThen_ok];rfl)
end
end
section
mutual
def AV.frz (s:Site)(nb:Nat)(xs:List PV):AV→AV
 |.any=>.any
 |.pv x=>.pv x
 |.ptr s' off=>if s'=s then(if nb=0 then .pv (.ref (xs.drop off))else .any)else .ptr s' off
 |.elt s' n i off=>if s'=s then .any else .elt s' n i off
 |.vec s' n lo len=>if s'=s then(if 0<n∧n=nb∧lo+len≤xs.length then .pv (.lst false n ((xs.drop lo).take len))else .any)else .vec s' n lo len
 |.mp s'=>if s'=s then .any else .mp s'
 |.yld s'=>if s'=s then .any else .yld s'
 |.fn f fs cs=>fnA f (AV.frzL s nb xs fs) (AV.frzL s nb xs cs)
 |.agg cs=>Zb3 (AV.frzL s nb xs cs)
 |.tup vs=>tupA (AV.frzL s nb xs vs)
def AV.frzL (s:Site)(nb:Nat)(xs:List PV):List AV→List AV
 |[]=>[]
 |a::r=>AV.frz s nb xs a::AV.frzL s nb xs r
end
def Box.frz (s:Site)(nb:Nat)(xs:List PV):Box→Box
 |.rows e e2 n els=>.rows e e2 n (els.map (RowE.map (AV.frz s nb xs)))
 |.cells azz=>.cells (AV.frzL s nb xs azz)
 |.loop C ps nt tm st=>.loop C ps nt (tm.map fun p=>(p.1,p.2.frz s nb xs)) st
 |b=>b
mutual
def AV.Zu3 (q:Site→Bool):AV→Bool
 |.any=>true
 |.pv _=>true
 |.ptr s _=>q s
 |.elt s _ _ _=>q s
 |.vec s _ _ _=>q s
 |.mp s=>q s
 |.yld s=>q s
 |.fn _ fs cs=>AV.Zu4 q fs&&AV.Zu4 q cs
 |.agg cs=>AV.Zu4 q cs
 |.tup vs=>AV.Zu4 q vs
def AV.Zu4 (q:Site→Bool):List AV→Bool
 |[]=>true
 |a::r=>AV.Zu3 q a&&AV.Zu4 q r
end
def AV.live (q:Site→Bool)(a:AV):AV:=match a.Zu3 q with
 |true=>a
 |false=>.any
def Box.live (q:Site→Bool):Box→Box
 |.rows e e2 n els=>.rows e e2 n (els.map (RowE.map (AV.live q)))
 |.cells azz=>.cells (azz.map (AV.live q))
 |.loop C ps nt tm st=>.loop C ps nt (tm.map fun p=>(p.1,p.2.live q)) st
 |b=>b
def AS.tidy (σ:AS):AS:=⟨σ.tm,σ.bx.map fun p=>(p.1,p.2.live fun s=>(σ.b s).isSome)⟩
def AS.frz (s:Site)(σ:AS):AS:=match σ.b s with
 |none=>σ.tidy
 |some (.arr _ n xs)=>⟨σ.tm.map fun p=>(p.1,p.2.frz s n xs),(σ.bx.filter fun p=>!decide (p.1=s)).map fun p=>(p.1,p.2.frz s n xs)⟩
 |some (.cells as')=>match unpvs as' with
  |some xs=>⟨σ.tm.map fun p=>(p.1,p.2.frz s 0 xs),(σ.bx.filter fun p=>!decide (p.1=s)).map fun p=>(p.1,p.2.frz s 0 xs)⟩
  |none=>σ
 |_=>σ
def AS.ZwZ (a:AV)(σ:AS):AS:=match a with
 |.vec s _ _ _=>σ.frz s
 |_=>σ
def AS.ZvF:List AV→AS→AS
 |[],σ=>σ
 |a::r,σ=>AS.ZvF r (σ.ZwZ a)
def AS.Zv7 (a:AV)(σ:AS):AS:=match a with
 |.agg cs=>σ.ZvF cs
 |a=>σ.ZwZ a
def AS.ZwT:List Opd→AS→AS
 |[],σ=>σ
 |x::r,σ=>AS.ZwT r (σ.Zv7 (σ.o x))
def AS.pvs (σ:AS):List Opd→Option (List PV)
 |[]=>some []
 |x::r=>match σ.o x,σ.pvs r with
  |.pv x,some l=>some (x::l)
  |_,_=>none
def fillA (σ:AS):List AV→List (Nat×Nat×Opd)→Option (List AV)
 |l,[]=>some l
 |l,(off,n,x)::r=>if(σ.o x).cells.length=n∧off+n≤l.length∧((σ.o x).wide=true∨(σ.o x).one=true)then fillA σ (splice l off (σ.o x).cells) r else none
def setAt (x:PV)(off:Nat)(p:PV):PV:=match x with
 |.agg l=>.agg (splice l off p.cells)
 |_=>p
def AS.cont (σ:AS)(a:AV)(n:Nat):Option (List PV):=match a with
 |.pv (.lst _ n' xs)=>if n'=n then some xs else none
 |.pv (.emp _)=>some []
 |.vec s n' lo len=>match σ.b s with
  |some (.arr _ n'' xs)=>if n'=n∧n''=n∧lo+len≤xs.length then some ((xs.drop lo).take len)else none
  |_=>none
 |_=>none
inductive QK where
 |sl
 |pt
 |mp
 deriving Inhabited,DecidableEq
def nilOf:QK→AV→Option Bool
 |.sl,.pv (.emp nl)=>nl
 |.sl,.pv (.lst nn _ xs)=>if nn=true then some false else match xs with
  |[]=>none
  |_::_=>some false
 |.sl,.vec _ _ _ len=>if len=0 then none else some false
 |.pt,.pv .nilp=>some true
 |.pt,.pv (.ref _)=>some false
 |.pt,.ptr _ _=>some false
 |.pt,.elt _ _ _ _=>some false
 |.mp,.pv .nilmap=>some true
 |.mp,.mp _=>some false
 |_,_=>none
def ZaB:QK→AV→Prop
 |.sl,.pv (.emp _)=>True
 |.sl,.pv (.lst _ _ _)=>True
 |.sl,.vec _ _ _ _=>True
 |_,_=>False
inductive CK where
 |int (k:IntKind)
 |bool
 |str
 deriving DecidableEq,Inhabited
structure KT where
 wide:Bool
 ks:List CK
 deriving DecidableEq,Inhabited
def CK.ok:CK→PV→Bool
 |.int k,.int k' _=>decide (k'=k)
 |.bool,.bool _=>true
 |.str,.str _=>true
 |_,_=>false
def ckAll:List CK→List PV→Bool
 |[],[]=>true
 |k::ks,x::xs=>k.ok x&&ckAll ks xs
 |_,_=>false
def KT.ok (t:KT):PV→Bool
 |.agg cs=>t.wide&&ckAll t.ks cs
 |x=>!t.wide&&ckAll t.ks [x]
def eqC:PV→PV→Bool
 |.int _ a,.int _ b=>a==b
 |.bool a,.bool b=>a==b
 |.str a,.str b=>a.toList==b.toList
 |_,_=>false
def eqL:List PV→List PV→Bool
 |[],[]=>true
 |x::xs,y::ys=>eqC x y&&eqL xs ys
 |_,_=>false
def eqK (x y:PV):Bool:=eqL x.cells y.cells
def findV (k:PV):List (PV×PV)→Option PV
 |[]=>none
 |(k',v)::r=>match eqK k k' with
  |true=>some v
  |false=>findV k r
def putK (k v:PV):List (PV×PV)→List (PV×PV)
 |[]=>[(k,v)]
 |(k',v')::r=>match eqK k k' with
  |true=>(k,v)::r
  |false=>(k',v')::putK k v r
def Zbi (kt:KT)(es:List (PV×PV)):Bool:=es.all fun p=>kt.ok p.1
def lookA (ok:Bool)(v:Option PV)(z:PV):AV:=match ok with
 |true=>.pv (.tup [v.getD z,.bool v.isSome])
 |false=>.pv (v.getD z)
def packW (W:Nat):Nat→List PV→List PV
 |0,_=>[]
 |k+1,xs=>.agg (xs.take W)::packW W k (xs.drop W)
def sAt (s:ByteArray)(z:Int):Option UInt8:=if 0≤z then s[z.toNat]? else none
def ZaG (s:ByteArray):List PV:=s.data.toList.map fun b=>.int .u8 b.toNat
def Zc2:List PV→Option (List Int)
 |[]=>some []
 |.int .u8 n::r=>(Zc2 r).map (n::·)
 |_=>none
def ZeN (ns:List Int):ByteArray:=⟨(ns.map fun n=>UInt8.ofNat n.toNat).toArray⟩
def bldRd (T e:TypeId)(l:List UInt8)(q:Loc)(_:Mem)(w:World):Prop:=
 ∃p v,w.heap[q.b]?=some (.cells #[p,v] T (0,0))∧(p=.pointer none∨p=.pointer (some ⟨q.b,0,none⟩))∧
  ((v=.slice none 0 0∧l=[])∨∃g c cur,v=.slice (some ⟨g,0,none⟩) l.length (c+1)∧g≠q.b∧w.heap[g]?=some (.cells cur e (0,0))∧l.length≤c+1∧c+1≤cur.size∧c+1≤maxLen∧∀(i:Nat) (b:UInt8),l[i]?=some b→cur[i]?=some (.int .u8 b.toNat))
def Zba (q:Loc)(w:World):List Nat:=match w.heap[q.b]? with
 |some (.cells cs _ _)=>match cs[(1:Nat)]? with
  |some (.slice (some A) _ (_+1))=>[A.block]
  |_=>[]
 |_=>[]
theorem Zc3 {q:Loc}{w:World}{p:Value}{T:TypeId}{t:Nat×Nat}{g o n c:Nat}(h:w.heap[q.b]?=some (.cells #[p,.slice (some ⟨g,o,none⟩) n (c+1)] T t)):Zba q w=[g]:=by
 unfold Zba;rw[h];rfl
theorem Zi4 {q:Loc}{w:World}{p:Value}{T:TypeId}{t:Nat×Nat}(h:w.heap[q.b]?=some (.cells #[p,.slice none 0 0] T t)):Zba q w=[]:=by
 unfold Zba;rw[h];rfl
def bldE (T e:TypeId)(l:List UInt8):ExtB where
 rd:=bldRd T e l
 ins:=Zba
 same q w w' h:=by unfold Zba;rw[h]
 obj q m w h:=by
  obtain⟨p,v,h1,_⟩:=h;exact⟨_,_,h1⟩
 insObj q m w k h hk:=by
  obtain⟨p,v,h1,_,⟨rfl,_⟩|⟨g,c,cur,rfl,_,h3,_⟩⟩:=h
  ·rw[Zi4 h1]at hk;cases hk
  ·rw[Zc3 h1]at hk;rw[Zyi]at hk;subst hk;exact⟨_,_,h3⟩
 more q m m' w w' h _ hb hk:=by
  obtain⟨p,v,h1,h2,⟨rfl,h3⟩|⟨g,c,cur,rfl,h4,h3,h5⟩⟩:=h
  ·exact⟨p,_,by rw[hb];exact h1,h2,.inl ⟨rfl,h3⟩⟩
  ·have hg:=hk g (by rw[Zc3 h1];exact List.mem_singleton_self _);exact⟨p,_,by rw[hb];exact h1,h2,.inr ⟨g,c,cur,rfl,h4,by rw[hg];exact h3,h5⟩⟩
inductive XOp where
 |eqv (neg:Bool) (kt:KT) (x y:Opd)
 |mmk
 |look (kt:KT) (z:PV) (ok:Bool) (x i:Opd)
 |upd (kt:KT) (x i v:Opd)
 |mlen (x:Opd)
 |copy (n:Nat) (x y:Opd)
 |clear (n:Nat) (z:PV) (x:Opd)
 |sla (n:Nat) (x hi:Opd)
 |slw (n W:Nat) (x hi:Opd)
 |slen (x:Opd)
 |sidx (x i:Opd)
 |ssl (x:Opd) (lo hi:Option Opd)
 |scat (x y:Opd)
 |sbyt (e:TypeId) (x:Opd)
 |sof (x:Opd)
 |mif (t:TypeId) (x:Opd)
 |nif (neg:Bool) (x:Opd)
 |tas (t:TypeId) (z:PV) (x:Opd)
 |pan (x:Opd)
 |aps (e:TypeId) (n bytes:Nat) (x y:Opd)
 |alB (T e:TypeId)
 deriving Inhabited
inductive LOp where
 |mov (x:Opd)
 |pick (c a b:Opd)
 |bin (bt:Bool) (op:BinOp) (x y:Opd)
 |not (x:Opd)
 |neg (x:Opd)
 |box (n:Nat) (x:Opd)
 |alloc (z:PV)
 |build (z:PV) (ps:List (Nat×Nat×Opd))
 |bslice (e n:Nat) (ps:List Opd)
 |load (row:Bool) (n:Nat) (x:Opd)
 |store (n:Nat) (x y:Opd)
 |fa (off:Nat) (x:Opd)
 |fld (row:Bool) (off n:Nat) (x:Opd)
 |ia (n:Nat) (arr:Option Nat) (x i:Opd)
 |len (arr:Option Nat) (x:Opd)
 |ext (x:Opd) (i:Nat)
 |mkf (f:FuncId) (fs cs:List Opd)
 |nilc (x:Opd)
 |minmax (mx:Bool) (x y:Opd)
 |conv (k:IntKind) (x:Opd)
 |app (e n bytes:Nat) (x y:Opd)
 |app0 (e n bytes:Nat) (x y:Opd)
 |mks (e n bytes:Nat) (z:PV) (l c:Opd)
 |slc (n:Nat) (arr:Option Nat) (x:Opd) (lo hi mx:Option Opd)
 |call (f:Opd) (args:List Opd)
 |nilq (k:QK) (neg:Bool) (x:Opd)
 |x (y:XOp)
 |other
 deriving Inhabited
def AS.ob (σ:AS)(x:Option Opd)(z:Int):Option Int:=match x with
 |none=>some z
 |some x=>match σ.o x with
  |.pv (.int _ a)=>some a
  |_=>none
def opWpX (l:XOp)(d:Nat)(K:AV→AS→Prop)(σ:AS):Prop:=
 match l with
 |.eqv neg kt x y=>match σ.o x,σ.o y with
  |.pv a,.pv b=>kt.ok a=true∧kt.ok b=true∧K (.pv (.bool (eqK a b != neg))) σ
  |_,_=>False
 |.mmk=>K (.mp (.loc d 0)) ((σ.Zu0 d).add (.loc d 0) (.map []))
 |.look kt z ok x i=>match σ.o i with
  |.pv k=>kt.ok k=true∧match σ.o x with
   |.mp s=>match σ.b s with
    |some (.map es)=>Zbi kt es=true∧K (lookA ok (findV k es) z) σ
    |_=>False
   |.pv .nilmap=>K (lookA ok none z) σ
   |_=>False
  |_=>False
 |.upd kt x i v=>match σ.o i with
  |.pv k=>kt.ok k=true∧match σ.o x with
   |.mp s=>match(σ.Zv7 (σ.o v)).b s,(σ.Zv7 (σ.o v)).o v with
    |some (.map es),.pv val=>Zbi kt es=true∧K .any ((σ.Zv7 (σ.o v)).set s (.map (putK k val es)))
    |_,_=>False
   |_=>False
  |_=>False
 |.mlen x=>match σ.o x with
  |.mp s=>match σ.b s with
   |some (.map es)=>K (.pv (.int .i64 es.length)) σ
   |_=>False
  |.pv .nilmap=>K (.pv (.int .i64 0)) σ
  |_=>False
 |.copy n x y=>match σ.cont (σ.o y) n with
  |some ys=>match σ.o x with
   |.pv (.emp _)=>K (.pv (.int .i64 0)) σ
   |.vec s n' lo len=>match σ.b s with
    |some (.arr e n'' xs)=>(n'=n∧n''=n∧lo+len≤xs.length)∧K (.pv (.int .i64 (ys.take len).length)) (σ.set s (.arr e n (splice xs lo (ys.take len))))
    |_=>False
   |_=>False
  |none=>False
 |.clear n z x=>match σ.o x with
  |.pv (.emp _)=>K (.pv (.tup [])) σ
  |.vec s n' lo len=>match σ.b s with
   |some (.arr e n'' xs)=>(n'=n∧n''=n∧lo+len≤xs.length)∧K (.pv (.tup [])) (σ.set s (.arr e n (splice xs lo (List.replicate len z))))
   |_=>False
  |_=>False
 |.sla n x hi=>match σ.o hi with
  |.pv (.int _ h)=>match σ.o x with
   |.ptr s off=>match σ.b s with
    |some (.cells as')=>match unpvs as' with
     |some xs=>(0≤h∧h≤n∧off+n≤xs.length)∧K (.pv (.lst false 1 ((xs.drop off).take h.toNat))) (σ.frz s)
     |none=>False
    |_=>False
   |.pv (.ref xs)=>(0≤h∧h≤n∧n≤xs.length)∧K (.pv (.lst false 1 (xs.take h.toNat))) σ
   |_=>False
  |_=>False
 |.slw n W x hi=>match σ.o hi with
  |.pv (.int _ h)=>match σ.o x with
   |.ptr s off=>match σ.b s with
    |some (.cells as')=>match unpvs as' with
     |some xs=>(0≤h∧h≤n∧off+n*W≤xs.length)∧K (.pv (.lst false W (packW W h.toNat (xs.drop off)))) (σ.frz s)
     |none=>False
    |_=>False
   |_=>False
  |_=>False
 |.slen x=>match σ.o x with
  |.pv (.str s)=>K (.pv (.int .i64 s.size)) σ
  |_=>False
 |.sidx x i=>match σ.o x,σ.o i with
  |.pv (.str s),.pv (.int _ z)=>match sAt s z with
   |some b=>K (.pv (.int .u8 b.toNat)) σ
   |none=>False
  |_,_=>False
 |.ssl x lo hi=>match σ.o x with
  |.pv (.str s)=>match σ.ob lo 0,σ.ob hi s.size with
   |some l,some h=>(0≤l∧l≤h∧h≤s.size)∧K (.pv (.str (s.extract l.toNat h.toNat))) σ
   |_,_=>False
  |_=>False
 |.scat x y=>match σ.o x,σ.o y with
  |.pv (.str a),.pv (.str b)=>a.size+b.size≤9223372036854775807∧K (.pv (.str (a++b))) σ
  |_,_=>False
 |.sbyt e x=>match σ.o x with
  |.pv (.str s)=>s.size≤1000000∧K (.pv (.lst false 1 (ZaG s))) σ
  |_=>False
 |.sof x=>match σ.cont (σ.o x) 1 with
  |some xs=>match Zc2 xs with
   |some ns=>K (.pv (.str (ZeN ns))) σ
   |none=>False
  |none=>False
 |.mif t x=>match σ.o x with
  |.pv a=>K (.pv (.iface t a)) σ
  |_=>False
 |.nif neg x=>match σ.o x with
  |.pv .nilif=>K (.pv (.bool (!neg))) σ
  |.pv (.iface _ _)=>K (.pv (.bool neg)) σ
  |_=>False
 |.tas t z x=>match σ.o x with
  |.pv .nilif=>K (.pv (.tup [z,.bool false])) σ
  |.pv (.iface u a)=>K (.pv (.tup (if u=t then[a,.bool true]else[z,.bool false]))) σ
  |_=>False
 |.pan _=>False
 |.aps e n bytes x y=>match σ.o y with
  |.pv (.str s0)=>match σ.o x with
   |.pv (.emp _)=>(ZaG s0).length*bytes≤140737488355328∧(ZaG s0).length≤9223372036854775807∧K (.vec (.loc d 0) n 0 (ZaG s0).length) ((σ.Zu0 d).add (.loc d 0) (.arr e n (ZaG s0)))
   |.vec s n' lo len=>match σ.b s with
    |some (.arr e' n'' xs)=>(e'=e∧n'=n∧n''=n∧lo+len=xs.length)∧(len+(ZaG s0).length)*bytes≤140737488355328∧len+(ZaG s0).length≤9223372036854775807∧K (.vec (.loc d 0) n 0 (len+(ZaG s0).length)) (((σ.drop s).Zu0 d).add (.loc d 0) (.arr e n (xs.drop lo++ZaG s0)))
    |_=>False
   |_=>False
  |_=>False
 |.alB T e=>K (.ptr (.loc d 0) 0) ((σ.Zu0 d).add (.loc d 0) (.ext (bldE T e [])))
def opWp (l:LOp)(d:Nat)(K:AV→AS→Prop)(σ:AS):Prop:=
 match l with
 |.mov x=>K (σ.o x) σ
 |.pick c a b=>match σ.o c with
  |.pv (.bool t)=>K (if t=true then σ.o a else σ.o b) σ
  |_=>False
 |.bin bt op x y=>match σ.o x,σ.o y with
  |.pv (.int k a),.pv (.int k' b)=>match binI op k k' a b with
   |some r=>K (.pv r) σ
   |none=>False
  |.pv (.bool a),.pv (.bool b)=>bt=true∧match binB op a b with
   |some r=>K (.pv r) σ
   |none=>False
  |_,_=>False
 |.not x=>match σ.o x with
  |.pv (.bool a)=>K (.pv (.bool (!a))) σ
  |_=>False
 |.nilq k neg x=>match nilOf k (σ.o x)with
  |some b=>K (.pv (.bool (b != neg))) σ
  |none=>ZaB k (σ.o x)∧K (.pv (.bool true)) σ∧K (.pv (.bool false)) σ
 |.x y=>opWpX y d K σ
 |.neg x=>match σ.o x with
  |.pv (.int k a)=>K (.pv (.int k (k.wrap (0-a)))) σ
  |_=>False
 |.box n x=>((σ.Zu0 d).o x).cells.length=n∧(((σ.Zu0 d).o x).wide=true∨((σ.Zu0 d).o x).one=true)∧K (.ptr (.loc d 0) 0) ((σ.Zu0 d).add (.loc d 0) (.cells ((σ.Zu0 d).o x).cells))
 |.alloc z=>K (.ptr (.loc d 0) 0) ((σ.Zu0 d).add (.loc d 0) (.cells (z.cells.map .pv)))
 |.build z ps=>match fillA σ (z.cells.map .pv) ps with
  |some l=>K (Zb3 l) σ
  |none=>False
 |.bslice e n ps=>match(σ.ZwT ps).pvs ps with
  |some []=>K (.pv (.emp (some false))) σ
  |some xs=>(∀x∈xs,x.cells.length=n∧((AV.pv x).wide=true∨(AV.pv x).one=true))∧K (.vec (.loc d 0) n 0 xs.length) (((σ.ZwT ps).Zu0 d).add (.loc d 0) (.arr e n xs))
  |none=>(n=1∧0<ps.length∧∀p∈ps,((σ.Zu0 d).o p).one=true)∧K (.vec (.loc d 0) 1 0 ps.length) ((σ.Zu0 d).add (.loc d 0) (.rows e e 1 (ps.map fun p=>.av ((σ.Zu0 d).o p))))
 |.load row n x=>match σ.o x with
  |.pv (.ref cs)=>if row=true then n≤cs.length∧K (.pv (.agg (cs.take n))) σ else match cs with
   |c::_=>K (.pv c) σ
   |[]=>False
  |.ptr s off=>match σ.b s with
   |some (.cells azz)=>if row=true then off+n≤azz.length∧K (Zb3 ((azz.drop off).take n)) σ else match azz[off]? with
    |some a=>K a σ
    |none=>False
   |_=>False
  |.elt s n' i off=>match σ.b s with
   |some (.arr _ n'' xs)=>match xs[i]? with
    |some x=>n'=n''∧if row=true then off+n≤x.cells.length∧K (.pv (.agg ((x.cells.drop off).take n))) σ else match x.cells[off]? with
     |some c=>K (.pv c) σ
     |none=>False
    |none=>False
   |some (.rows _ _ _ els)=>match els[i]? with
    |some (.av a)=>(n'=1∧off=0∧row=false)∧K a σ
    |_=>False
   |_=>False
  |_=>False
 |.store n x y=>match σ.o x with
  |.ptr s off=>match σ.b s with
   |some (.cells azz)=>(σ.o y).cells.length=n∧((σ.o y).wide=true∨(σ.o y).one=true)∧off+n≤azz.length∧K .any (σ.set s (.cells (splice azz off (σ.o y).cells)))
   |_=>False
  |.elt s n' i off=>match σ.b s with
   |some (.rows e e2 n2 els)=>(n=1∧n'=1∧off=0∧i<els.length∧(σ.o y).one=true)∧K .any (σ.set s (.rows e e2 n2 (els.set i (.av (σ.o y)))))
   |_=>match(σ.Zv7 (σ.o y)).b s,(σ.Zv7 (σ.o y)).o y with
    |some (.arr e n'' xs),.pv p=>match xs[i]? with
     |some x=>n'=n''∧0<n∧p.cells.length=n∧((AV.pv p).wide=true∨(AV.pv p).one=true)∧off+n≤x.cells.length∧K .any ((σ.Zv7 (σ.o y)).set s (.arr e n'' (xs.set i (setAt x off p))))
     |none=>False
    |_,_=>False
  |_=>False
 |.fa off x=>match σ.o x with
  |.pv (.ref cs)=>off≤cs.length∧K (.pv (.ref (cs.drop off))) σ
  |.ptr s o=>K (.ptr s (o+off)) σ
  |.elt s n i o=>K (.elt s n i (o+off)) σ
  |_=>False
 |.fld row off n x=>if row=true then off+n≤(σ.o x).cells.length∧(σ.o x).wide=true∧K (Zb3 (((σ.o x).cells.drop off).take n)) σ else match(σ.o x).cells[off]? with
  |some a=>(σ.o x).wide=true∧K a σ
  |none=>False
 |.ia n arr x i=>match σ.o i with
  |.pv (.int _ z)=>match arr with
   |none=>match σ.o x with
    |.pv (.lst _ n' xs)=>if 0≤z then match xs[z.toNat]? with
      |some y=>n'=n∧K (.pv (.ref y.cells)) σ
      |none=>False
     else False
    |.vec s n' lo len=>n'=n∧0≤z∧z<len∧K (.elt s n (lo+z.toNat) 0) σ
    |_=>False
   |some l=>0≤z∧z<l∧match σ.o x with
    |.pv (.ref cs)=>z.toNat*n≤cs.length∧K (.pv (.ref (cs.drop (z.toNat*n)))) σ
    |.ptr s o=>K (.ptr s (o+z.toNat*n)) σ
    |.elt s n' j o=>K (.elt s n' j (o+z.toNat*n)) σ
    |_=>False
  |_=>False
 |.len arr x=>match arr with
  |some l=>K (.pv (.int .i64 l)) σ
  |none=>match σ.o x with
   |.pv (.lst _ _ xs)=>K (.pv (.int .i64 xs.length)) σ
   |.pv (.emp _)=>K (.pv (.int .i64 0)) σ
   |.vec _ _ _ len=>K (.pv (.int .i64 len)) σ
   |_=>False
 |.ext x i=>match σ.o x with
  |.pv (.tup vs)=>match vs[i]? with
   |some v=>K (.pv v) σ
   |none=>False
  |.tup vs=>match vs[i]? with
   |some v=>K v σ
   |none=>False
  |_=>False
 |.mkf f fs cs=>match σ.pvs fs,σ.pvs cs with
  |some a,some b=>K (.pv (.fn f a b)) σ
  |_,_=>K (.fn f (fs.map σ.o) (cs.map σ.o)) σ
 |.nilc x=>match σ.o x with
  |.pv (.ref cs)=>K (.pv (.ref cs)) σ
  |.ptr s o=>K (.ptr s o) σ
  |.elt s n i o=>K (.elt s n i o) σ
  |_=>False
 |.minmax mx x y=>match σ.o x,σ.o y with
  |.pv (.int k a),.pv (.int _ b)=>K (.pv (.int k (if mx=true then(if b>a then b else a)else(if b<a then b else a)))) σ
  |_,_=>False
 |.conv k x=>match σ.o x with
  |.pv (.int _ a)=>K (.pv (.int k (k.wrap a))) σ
  |_=>False
 |.app e n bytes x y=>match σ.cont (σ.o y) n with
  |some ys=>match σ.o x with
   |.pv (.emp _)=>ys.length*bytes≤140737488355328∧ys.length≤9223372036854775807∧K (.vec (.loc d 0) n 0 ys.length) ((σ.Zu0 d).add (.loc d 0) (.arr e n ys))
   |.vec s n' lo len=>match σ.b s with
    |some (.arr e' n'' xs)=>((e'=e∧n'=n∧n''=n∧lo+len=xs.length)∧(len+ys.length)*bytes≤140737488355328∧len+ys.length≤9223372036854775807∧K (.vec (.loc d 0) n 0 (len+ys.length)) (((σ.drop s).Zu0 d).add (.loc d 0) (.arr e n (xs.drop lo++ys))))∨
      ((e'=e∧n'=n∧n''=n∧lo+len≤xs.length)∧(len+ys.length)*bytes≤140737488355328∧len+ys.length≤9223372036854775807∧K (.vec (.loc d 0) n 0 (len+ys.length)) ((σ.Zu0 d).add (.loc d 0) (.arr e n ((xs.drop lo).take len++ys)))∧K (.vec s n lo (len+ys.length)) (σ.set s (.arr e n (xs.take (lo+len)++ys))))
    |_=>False
   |_=>False
  |none=>False
 |.app0 e n bytes x y=>match σ.cont (σ.o y) n with
  |some ys=>match σ.o x with
   |.pv (.emp _)=>ys.length*bytes≤140737488355328∧ys.length≤9223372036854775807∧K (.vec (.loc d 0) n 0 ys.length) ((σ.Zu0 d).add (.loc d 0) (.arr e n ys))
   |_=>False
  |none=>False
 |.mks e n bytes z l c=>match σ.o l,σ.o c with
  |.pv (.int _ a),.pv (.int _ b)=>0≤a∧a≤b∧b≤1000000∧bytes≤1000∧K (.vec (.loc d 0) n 0 a.toNat) ((σ.Zu0 d).add (.loc d 0) (.arr e n (List.replicate a.toNat z)))
  |_,_=>False
 |.slc n arr x lo hi mx=>match mx with
  |some _=>False
  |none=>match σ.ob lo 0 with
   |some l=>match arr with
    |none=>match σ.o x with
     |.pv (.lst nn n' xs)=>match σ.ob hi xs.length with
      |some h=>0≤l∧l≤h∧h≤xs.length∧n'=n∧K (.pv (.lst nn n ((xs.take h.toNat).drop l.toNat))) σ
      |none=>False
     |.pv (.emp nl)=>match σ.ob hi 0 with
      |some h=>l=0∧h=0∧K (.pv (.emp nl)) σ
      |none=>False
     |.vec s n' lo0 len=>match σ.ob hi len with
      |some h=>0≤l∧l≤h∧h≤len∧n'=n∧K (.vec s n (lo0+l.toNat) (h.toNat-l.toNat)) σ
      |none=>False
     |_=>False
    |some _=>False
   |none=>False
 |_=>False
section
variable {N:Nat}{w0:World}{m0:Env w0}{pl:List Nat}{σ:AS}{ρ:Site→Loc}{m m':Mem}{act:Act}{w w':World}
def Mem.with (m:Mem)(w:World)(l:Loc):Mem:=fun b o=>if l.real=true∧b=l.b then w.cell? ⟨b,o,none⟩else m b o
theorem Mem.Zwu {m:Mem}(h:Le m w.mem)(l:Loc):Le m (m.with w l):=fun b o v hv=>by
 unfold Mem.with
 split
 ·exact h b o v hv
 ·exact hv
theorem Mem.Zw4 {m:Mem}(h:Le m w.mem)(l:Loc):Le (m.with w l) w.mem:=fun b o v hv=>by
 unfold Mem.with at hv;split at hv
 ·exact hv
 ·exact h b o v hv
theorem ZaO {cs:Array Value}{k n j:Nat}:((cs.toList.drop k).take n)[j]?=if j<n then cs[k+j]? else none:=by
 rw[Zx1];split
 ·rw[Zx3,Zyu]
 ·rfl
theorem ZcP {cs:Array Value}{k n:Nat}(h:k+n≤cs.size):((cs.toList.drop k).take n).length=n:=by
 rw[ZxT,Zyn,Zyf];omega
theorem ZaI {a c n:Nat}(h:a<c):a*n+n≤c*n:=by
 have:(a+1)*n≤c*n:=Zyx _ h
 rw[Nat.add_mul]at this;omega
theorem Zo5 {s:Site}{e n:Nat}{xs:List PV}(hb:RdB ρ m w s (.arr e n xs))(hm:Le m m')(hm2:(ρ s).real=true→∀o v,w.cell? ⟨(ρ s).b,o,none⟩=some v→m' (ρ s).b o=some v){lo len:Nat}(hl:lo+len≤xs.length){v:Value}(hv:RdA ρ m v (.vec s n lo len)):
  RdP m' v (.lst false n ((xs.drop lo).take len)):=by
 have hlen:((xs.drop lo).take len).length=len:=by rw[ZxT,Zyn];omega
 cases hv with
 |vec0 _ _ _ a h=>
  have e0:((xs.drop lo).take 0)=[]:=by simp
  rw[e0];exact .lst a 0 false n [] (fun _=>[]) (by simp) (by simp) (fun _=>rfl) h (fun e=>(by cases e)) (fun i x hx=>by simp at hx) (fun i x hx=>by simp at hx) (fun i x j d c hx=>by simp at hx)
 |vec _ _ _ _ cap h0 h1 h2=>
  obtain⟨hn,hb|⟨_,cs,k1,k2,k3,k4,k5⟩⟩:=hb
  ·rw[hb.1]at h2;cases h2
  have get:∀i x,((xs.drop lo).take len)[i]?=some x→xs[lo+i]?=some x∧i<len:=fun i x hx=>by
   rw[Zx1]at hx;split at hx
   ·rename_i hi;rw[Zx3]at hx;exact⟨hx,hi⟩
   ·cases hx
  have fit:∀i,i<len→(ρ s).o+(lo+i)*n+n≤cs.size:=fun i hi=>by
   have:(lo+i)*n+n≤(ρ s).cap*n:=ZaI (by omega)
   omega
  have hh:=RdP.lst (m:=m') (some ⟨(ρ s).b,(ρ s).o+lo*n,none⟩) cap false n ((xs.drop lo).take len) (fun i=>(cs.toList.drop ((ρ s).o+(lo+i)*n)).take n) (by rw[hlen];exact h0) (by have:(ρ s).cap≤9223372036854775807:=(by simpa[maxLen]using k4);omega)
   (fun e=>(by cases e)) (fun A hA=>(by cases hA;rfl)) (fun e=>(by cases e)) (fun i x hx=>?_) (fun i x hx=>?_) (fun i x j d c hx hd hc=>?_)
  ·rw[hlen]at hh;exact hh
  ·obtain⟨g1,g2⟩:=get i x hx;refine⟨_,_,rfl,At.Zvm (fun j u hj=>?_)⟩;rw[ZaO]at hj;split at hj
   ·refine hm2 h2 _ _ ?_;rw[show(ρ s).o+lo*n+i*n+j=(ρ s).o+(lo+i)*n+j by rw[Nat.add_mul];omega];simp[World.cell?,k1,hj]
   ·cases hj
  ·obtain⟨g1,g2⟩:=get i x hx;refine⟨ZcP (fit i g2),(k5 _ _ g1).1,fun d hd=>?_⟩;obtain⟨j,hj⟩:=ZxV.1 hd;rw[ZaO]at hj;split at hj
   ·rename_i hjn;obtain⟨kc,kx⟩:=k5 _ _ g1;have hjc:j<x.cells.length:=by omega
    obtain⟨d',q1,q2,_⟩:=kx j _ (ZxL hjc);rw[hj]at q1;cases q1;exact q2
   ·cases hj
  ·obtain⟨g1,g2⟩:=get i x hx;rw[ZaO]at hd;split at hd
   ·obtain⟨kc,kx⟩:=k5 _ _ g1;obtain⟨d',q1,_,q3⟩:=kx j c hc;rw[hd]at q1;cases q1;exact q3.mono hm
   ·cases hd
theorem Zd0 {s:Site}{nb:Nat}{xs:List PV}:∀{l:List AV} {i:Nat},(AV.frzL s nb xs l)[i]?=(l[i]?).map (AV.frz s nb xs)
 |[],i=>by simp[AV.frzL]
 |a::r,0=>by simp[AV.frzL]
 |a::r,i+1=>by
  simp only[AV.frzL,List.getElem?_cons_succ];exact Zd0
theorem ZdZ {s:Site}{nb:Nat}{xs:List PV}:∀{l:List AV},(AV.frzL s nb xs l).length=l.length
 |[]=>rfl
 |a::r=>by simp only[AV.frzL,Zyg,ZdZ]
theorem RdA.Zxv {s:Site}{nb:Nat}{xs:List PV}(hm:Le m m')(ptrc:∀v off,RdA ρ m v (.ptr s off)→RdA ρ m' v (if nb=0 then .pv (.ref (xs.drop off))else .any))
  (vecc:∀v n lo len,RdA ρ m v (.vec s n lo len)→RdA ρ m' v (if 0<n∧n=nb∧lo+len≤xs.length then .pv (.lst false n ((xs.drop lo).take len))else .any)) {v:Value} {a:AV} (h:RdA ρ m v a):RdA ρ m' v (a.frz s nb xs):=by
 induction h with
 |any v=>exact .any v
 |pv v x h=>exact .pv v x (h.mono hm)
 |ptr s' off=>
  rw[AV.frz];split
  ·rename_i e;subst e;exact ptrc _ off (.ptr _ off)
  ·exact .ptr s' off
 |elt s' n i off=>
  rw[AV.frz];split
  ·exact .any _
  ·exact .elt s' n i off
 |vec s' n lo len cap h0 h1 h2=>
  rw[AV.frz];split
  ·rename_i e;subst e;exact vecc _ n lo len (.vec _ n lo len cap h0 h1 h2)
  ·exact .vec s' n lo len cap h0 h1 h2
 |vec0 s' n lo a h=>
  rw[AV.frz];split
  ·rename_i e;subst e;exact vecc _ n lo 0 (.vec0 _ n lo a h)
  ·exact .vec0 s' n lo a h
 |mp s'=>
  rw[AV.frz];split
  ·exact .any _
  ·exact .mp s'
 |yld s'=>
  rw[AV.frz];split
  ·exact .any _
  ·exact .yld s'
 |fn f vf vc fs cs h0 h1 h2 h3 ih2 ih3=>
  rw[AV.frz];refine Zuz (by rw[ZdZ];exact h0) (by rw[ZdZ];exact h1) (fun j d c k1 k2=>?_) (fun j d c k1 k2=>?_)
  ·rw[Zd0]at k2;obtain⟨a,k3,rfl⟩:=ZxP.1 k2;exact ih2 j d a k1 k3
  ·rw[Zd0]at k2;obtain⟨a,k3,rfl⟩:=ZxP.1 k2;exact ih3 j d a k1 k3
 |agg vs cs h0 h1 h2 ih=>
  rw[AV.frz];refine Zcw (by rw[ZdZ];exact h0) h1 (fun j d c k1 k2=>?_);rw[Zd0]at k2;obtain⟨a,k3,rfl⟩:=ZxP.1 k2;exact ih j d a k1 k3
 |tup vs cs h0 h2 ih=>
  rw[AV.frz];refine Zr7 (by rw[ZdZ];exact h0) (fun j d c k1 k2=>?_);rw[Zd0]at k2;obtain⟨a,k3,rfl⟩:=ZxP.1 k2;exact ih j d a k1 k3
theorem RdA.frz {s:Site}{e nb:Nat}{xs:List PV}(hb:RdB ρ m w s (.arr e nb xs))(hm:Le m m')(hm2:(ρ s).real=true→∀o v,w.cell? ⟨(ρ s).b,o,none⟩=some v→m' (ρ s).b o=some v){v:Value}{a:AV}(h:RdA ρ m v a):RdA ρ m' v (a.frz s nb xs):=by
 have h0:¬nb=0:=by have:=hb.1;omega
 refine RdA.Zxv hm (fun v off _=>?_) (fun v n lo len hv=>?_) h
 ·rw[if_neg h0];exact .any v
 ·split
  ·rename_i hc;obtain⟨_,rfl,hl⟩:=hc;exact .pv _ _ (Zo5 hb hm hm2 hl hv)
  ·exact .any v
theorem RdP.ZwF {v:Value}{x:PV}(h:RdP m v x)(hv:v.oneCell'=true):x.cells=[x]:=by
 cases h<;>first|rfl|(simp[Value.oneCell']at hv)
theorem Zf3 {s:Site}{as':List AV}{xs:List PV}(hb:RdB ρ m w s (.cells as'))(hx:unpvs as'=some xs)(hm:Le m m')(hm2:∀o v,w.cell? ⟨(ρ s).b,o,none⟩=some v→m' (ρ s).b o=some v):
  ∃ds:List Value,ds.length=xs.length∧At m' (ρ s).b 0 ds∧∀(j:Nat) (d:Value) (c:PV),ds[j]?=some d→xs[j]?=some c→d.oneCell'=true∧RdP m' d c:=by
 obtain⟨_,cs,T,k1,k2,k3⟩:=hb;have hu:=Zbr hx;subst hu;refine⟨cs.toList,by rw[Zyf,k2,ZxS],At.Zvm (fun j u hj=>hm2 _ _ ?_),fun j d c h1 h2=>?_⟩
 ·rw[Zyu]at hj;simp[World.cell?,k1,hj]
 ·rw[Zyu]at h1;have h3:(xs.map AV.pv)[j]?=some (.pv c):=by rw[ZxM,h2];rfl
  obtain⟨q1,q2⟩:=k3 j d _ h1 h3;refine⟨q1,?_⟩;cases q2 with
  |pv _ _ h=>exact h.mono hm
theorem RdA.ZxK {s:Site}{as':List AV}{xs:List PV}(hb:RdB ρ m w s (.cells as'))(hx:unpvs as'=some xs)(hm:Le m m')(hm2:∀o v,w.cell? ⟨(ρ s).b,o,none⟩=some v→m' (ρ s).b o=some v){v:Value}{a:AV}(h:RdA ρ m v a):RdA ρ m' v (a.frz s 0 xs):=by
 obtain⟨ds,hl,hat,hrd⟩:=Zf3 hb hx hm hm2;refine RdA.Zxv hm (fun v off hv=>?_) (fun v n lo len hv=>?_) h
 ·rw[if_pos rfl];cases hv;refine .pv _ _ (.ref (ρ s).b off (xs.drop off) (ds.drop off) (At.Zvm (fun j u hj=>?_)) (by simp[hl]) (fun d hd=>?_) (fun j d c h1 h2=>?_))
  ·rw[Zx3]at hj
   have:=hat.get _ _ hj
   rwa [Zyj]at this
  ·obtain⟨j,hj⟩:=ZxV.1 hd;rw[Zx3]at hj;have hlt:off+j<xs.length:=by rw[←hl];exact(ZxN.1 hj).1
   exact(hrd _ d _ hj (ZxL hlt)).1
  ·rw[Zx3]at h1 h2;exact(hrd _ d c h1 h2).2
 ·rw[if_neg (fun e=>by omega)];exact .any v
theorem RdB.live (q:Site→Bool){s:Site}{b:Box}(h:RdB ρ m w s b):RdB ρ m w s (b.live q):=by
 have hl:∀(v:Value) (a:AV),RdA ρ m v a→RdA ρ m v (a.live q):=fun v a h=>by
  unfold AV.live;split
  ·exact h
  ·exact .any v
 exact h.gen (AV.live q) (by cases b<;>rfl) (Le.refl m) rfl (fun v a hv _=>hl v a hv) (fun _ _=>rfl)
theorem Zqg {w:World}{l:Loc}{b:Box}{q:Site→Bool}:ins w l (b.live q)=ins w l b:=by
 cases b with
 |rows e e2 n els=>exact Zhz rfl
 |_=>rfl
theorem Ztf {w:World}{l:Loc}{b:Box}{s:Site}{n:Nat}{xs:List PV}:ins w l (b.frz s n xs)=ins w l b:=by
 cases b with
 |rows e e2 n els=>exact Zhz rfl
 |_=>rfl
theorem Zlf {s:Site}{nb:Nat}{xs:List PV}:∀l:List AV,AV.frzL s nb xs l=l.map (AV.frz s nb xs)
 |[]=>rfl
 |a::r=>by simp only[AV.frzL,ZxZ,Zlf r]
theorem Sat.tidy (h:Sat N w0 m0 pl σ ρ m act w):Sat N w0 m0 pl σ.tidy ρ m act w:=by
 have hb:∀s b,σ.tidy.b s=some b→∃b',σ.b s=some b'∧b=b'.live fun s=>(σ.b s).isSome:=fun s b k=>by
  have k':(σ.bx.map fun p=>(p.1,p.2.live fun s=>(σ.b s).isSome)).lookup s=some b:=k;rw[Zbu (Box.live fun s=>(σ.b s).isSome) s]at k';obtain⟨b',k1,rfl⟩:=ZxP.1 k';exact⟨b',k1,rfl⟩
 have hq:∀s b i,blk ρ w s (b.live fun s=>(σ.b s).isSome) i↔blk ρ w s b i:=fun s b i=>by unfold blk;rw[Zqg]
 refine⟨h.nod,h.sz,h.tm,fun s b k=>?_,fun s s' b b' i k k' r r'=>?_,h.mem,fun s b i k r=>?_,fun s b i k r=>?_,h.keep,h.base,h.fro,h.par⟩
 ·obtain⟨b',k1,rfl⟩:=hb s b k;exact(h.bx s b' k1).live _
 ·obtain⟨c,k1,rfl⟩:=hb s b k;obtain⟨c',k1',rfl⟩:=hb s' b' k';exact h.injk s s' c c' i k1 k1' ((hq _ _ _).1 r) ((hq _ _ _).1 r')
 ·obtain⟨c,k1,rfl⟩:=hb s b k;exact h.offk s c i k1 ((hq _ _ _).1 r)
 ·obtain⟨c,k1,rfl⟩:=hb s b k;exact h.ownk s c i k1 ((hq _ _ _).1 r)
theorem Sat.Zxv (h:Sat N w0 m0 pl σ ρ m act w)(s:Site){b0:Box}(hs:σ.b s=some b0)(n:Nat)(xs:List PV)(H:∀v a,RdA ρ m v a→RdA ρ (m.with w (ρ s)) v (a.frz s n xs)):
  Sat N w0 m0 pl ⟨σ.tm.map fun p=>(p.1,p.2.frz s n xs),(σ.bx.filter fun p=>!decide (p.1=s)).map fun p=>(p.1,p.2.frz s n xs)⟩ ρ (m.with w (ρ s)) act w:=by
 have hm:=Mem.Zwu h.mem (ρ s);have bq:∀s' b,AS.b ⟨σ.tm.map fun p=>(p.1,p.2.frz s n xs),(σ.bx.filter fun p=>!decide (p.1=s)).map fun p=>(p.1,p.2.frz s n xs)⟩ s'=some b→s'≠s∧∃b',σ.b s'=some b'∧b=b'.frz s n xs:=fun s' b k=>by
  have k':List.lookup s' ((σ.bx.filter fun p=>!decide (p.1=s)).map fun p=>(p.1,p.2.frz s n xs))=some b:=k;rw[Zbu (Box.frz s n xs) s',show List.lookup s' (σ.bx.filter fun p=>!decide (p.1=s))=_ from ZaU (fun x=>!decide (x=s)) s' σ.bx]at k';obtain⟨b',k1,rfl⟩:=ZxP.1 k';split at k1
  ·rename_i hne;exact⟨by simpa using hne,b',k1,rfl⟩
  ·cases k1
 have hq:∀s' b i,blk ρ w s' (b.frz s n xs) i↔blk ρ w s' b i:=fun s b i=>by unfold blk;rw[Ztf]
 refine⟨h.nod,h.sz,fun t a k=>?_,fun s' b k=>?_,fun s1 s2 b1 b2 i k1 k2 r1 r2=>?_,Mem.Zw4 h.mem _,fun s' b i k r o=>?_,fun s' b i k r=>?_,h.keep,h.base.trans hm,fun b o v hv=>?_,h.par⟩
 ·have k':List.lookup t (σ.tm.map fun p=>(p.1,p.2.frz s n xs))=some a:=k;rw[Zbu (AV.frz s n xs) t]at k';obtain⟨a',k1,rfl⟩:=ZxP.1 k';obtain⟨v,k2,k3⟩:=h.tm t a' k1;exact⟨v,k2,H _ _ k3⟩
 ·obtain⟨hne,b',k1,rfl⟩:=bq s' b k;exact(h.bx s' b' k1).gen (AV.frz s n xs) (by cases b'<;>first|rfl|(show Box.cells _=_;rw[Zlf])) hm rfl (fun v a hv _=>H v a hv) (fun _ _=>rfl)
 ·obtain⟨_,b1',g1,rfl⟩:=bq s1 b1 k1;obtain⟨_,b2',g2,rfl⟩:=bq s2 b2 k2;exact h.injk s1 s2 b1' b2' i g1 g2 ((hq _ _ _).1 r1) ((hq _ _ _).1 r2)
 ·obtain⟨hne,b',k1,rfl⟩:=bq s' b k;have r':=(hq _ _ _).1 r;unfold Mem.with
  rw[if_neg (fun e=>hne (h.injk s' s b' _ i k1 hs r' (.inl ⟨e.1,e.2.symm⟩)))];exact h.offk s' b' i k1 r' o
 ·obtain⟨_,b',g1,rfl⟩:=bq s' b k;exact h.ownk s' b' i g1 ((hq _ _ _).1 r)
 ·unfold Mem.with at hv;split at hv
  ·rename_i e;rw[e.2];exact .inr (h.own s _ hs e.1)
  ·exact h.fro b o v hv
theorem Sat.Zxh (h:Sat N w0 m0 pl σ ρ m act w){s:Site}{as':List AV}{xs:List PV}(hs:σ.b s=some (.cells as'))(hx:unpvs as'=some xs):
  σ.frz s=⟨σ.tm.map fun p=>(p.1,p.2.frz s 0 xs),(σ.bx.filter fun p=>!decide (p.1=s)).map fun p=>(p.1,p.2.frz s 0 xs)⟩∧Sat N w0 m0 pl (σ.frz s) ρ (m.with w (ρ s)) act w∧Le m (m.with w (ρ s))∧∀o v,w.cell? ⟨(ρ s).b,o,none⟩=some v→m.with w (ρ s) (ρ s).b o=some v:=by
 have hb:=h.bx s _ hs;have hm:=Mem.Zwu h.mem (ρ s);have hm2:∀o v,w.cell? ⟨(ρ s).b,o,none⟩=some v→m.with w (ρ s) (ρ s).b o=some v:=fun o v hv=>by
  unfold Mem.with;rw[if_pos ⟨hb.1,rfl⟩];exact hv
 have e:σ.frz s=⟨σ.tm.map fun p=>(p.1,p.2.frz s 0 xs),(σ.bx.filter fun p=>!decide (p.1=s)).map fun p=>(p.1,p.2.frz s 0 xs)⟩:=by
  unfold AS.frz;rw[hs];dsimp only;rw[hx]
 refine⟨e,?_,hm,hm2⟩;rw[e];exact h.Zxv s hs 0 xs (fun v a hv=>hv.ZxK hb hx hm hm2)
theorem Sat.frz (h:Sat N w0 m0 pl σ ρ m act w)(s:Site):∃m',Le m m'∧Sat N w0 m0 pl (σ.frz s) ρ m' act w:=by
 cases hs:σ.b s with
 |none=>
  have e:σ.frz s=σ.tidy:=by unfold AS.frz;rw[hs]
  rw[e];exact⟨m,Le.refl m,h.tidy⟩
 |some bb=>
  cases bb with
  |arr e n xs=>
   have hb:=h.bx s _ hs;have hm:=Mem.Zwu h.mem (ρ s);have hm2:(ρ s).real=true→∀o v,w.cell? ⟨(ρ s).b,o,none⟩=some v→m.with w (ρ s) (ρ s).b o=some v:=fun hr o v hv=>by
    unfold Mem.with;rw[if_pos ⟨hr,rfl⟩];exact hv
   have e:σ.frz s=⟨σ.tm.map fun p=>(p.1,p.2.frz s n xs),(σ.bx.filter fun p=>!decide (p.1=s)).map fun p=>(p.1,p.2.frz s n xs)⟩:=by unfold AS.frz;rw[hs]
   rw[e];exact⟨m.with w (ρ s),hm,h.Zxv s hs n xs (fun v a hv=>hv.frz hb hm hm2)⟩
  |cells as'=>
   cases hx:unpvs as' with
   |some xs=>
    obtain⟨_,h2,h3,_⟩:=h.Zxh hs hx;exact⟨_,h3,h2⟩
   |none=>
    have e:σ.frz s=σ:=by unfold AS.frz;rw[hs];dsimp only;rw[hx]
    rw[e];exact⟨m,Le.refl m,h⟩
  |map es=>
   have e:σ.frz s=σ:=by unfold AS.frz;rw[hs]
   rw[e];exact⟨m,Le.refl m,h⟩
  |loop C ps nt tm st=>
   have e:σ.frz s=σ:=by unfold AS.frz;rw[hs]
   rw[e];exact⟨m,Le.refl m,h⟩
  |rows e1 e2 n els=>
   have e:σ.frz s=σ:=by unfold AS.frz;rw[hs]
   rw[e];exact⟨m,Le.refl m,h⟩
  |ext E=>
   have e:σ.frz s=σ:=by unfold AS.frz;rw[hs]
   rw[e];exact⟨m,Le.refl m,h⟩
theorem Sat.ZwZ (a:AV)(h:Sat N w0 m0 pl σ ρ m act w):∃m',Le m m'∧Sat N w0 m0 pl (σ.ZwZ a) ρ m' act w:=by
 unfold AS.ZwZ;split
 ·exact h.frz _
 ·exact⟨m,Le.refl m,h⟩
theorem Sat.ZvF:∀(l:List AV) {σ:AS} {m:Mem},Sat N w0 m0 pl σ ρ m act w→∃m',Le m m'∧Sat N w0 m0 pl (σ.ZvF l) ρ m' act w
 |[],σ,m,h=>⟨m,Le.refl m,h⟩
 |a::r,σ,m,h=>by
  obtain⟨m1,l1,h1⟩:=h.ZwZ a;obtain⟨m2,l2,h2⟩:=Sat.ZvF r h1;exact⟨m2,l1.trans l2,h2⟩
theorem Sat.Zv7 (a:AV)(h:Sat N w0 m0 pl σ ρ m act w):∃m',Le m m'∧Sat N w0 m0 pl (σ.Zv7 a) ρ m' act w:=by
 unfold AS.Zv7;split
 ·exact h.ZvF _
 ·exact h.ZwZ _
theorem Sat.ZwT:∀(ps:List Opd) {σ:AS} {m:Mem},Sat N w0 m0 pl σ ρ m act w→∃m',Le m m'∧Sat N w0 m0 pl (σ.ZwT ps) ρ m' act w
 |[],σ,m,h=>⟨m,Le.refl m,h⟩
 |x::r,σ,m,h=>by
  have step:∃m',Le m m'∧Sat N w0 m0 pl (σ.Zv7 (σ.o x)) ρ m' act w:=by
   unfold AS.Zv7;split
   ·exact h.ZvF _
   ·exact h.ZwZ _
  obtain⟨m1,l1,h1⟩:=step;obtain⟨m2,l2,h2⟩:=Sat.ZwT r h1;exact⟨m2,l1.trans l2,h2⟩
end
end
section
def pvz (v:Value):Option PV:=match v with
 |.agg cs=>(cs.toList.mapM pvOf).map .agg
 |v=>pvOf v
theorem Zju {m:Mem}:∀{l:List Value} {xs:List PV},l.mapM pvOf=some xs→l.length=xs.length∧∀(j:Nat) (d:Value) (c:PV),l[j]?=some d→xs[j]?=some c→RdP m d c
 |[],xs,h=>by simp at h;subst h;exact⟨rfl,fun j d c k=>by simp at k⟩
 |v::r,xs,h=>by
  simp only[List.mapM_cons,Option.bind_eq_bind,Option.pure_def]at h;cases hv:pvOf v with
  |none=>simp[hv]at h
  |some x=>
   cases hr:r.mapM pvOf with
   |none=>simp[hv,hr]at h
   |some l=>
    simp[hv,hr]at h;subst h;obtain⟨h1,h2⟩:=Zju (m:=m) hr;refine⟨by simp[h1],fun j d c k1 k2=>?_⟩;cases j with
    |zero=>simp at k1 k2;subst k1 k2;exact Zhe hv m
    |succ j=>exact h2 j d c (by simpa using k1) (by simpa using k2)
theorem ZkD {v:Value}{x:PV}(h:pvOf v=some x):v.oneCell'=true∧x.cells=[x]:=by
 unfold pvOf at h;split at h<;>first|(cases h;exact⟨rfl,rfl⟩)|(cases h)
theorem Zb1 {v:Value}{x:PV}(h:pvz v=some x)(m:Mem):v.cells.size=x.cells.length∧(∀d∈v.cells,d.oneCell'=true)∧∀(j:Nat) (d:Value) (c:PV),v.cells[j]?=some d→x.cells[j]?=some c→RdP m d c:=by
 unfold pvz at h;split at h
 ·rename_i cs;obtain⟨xs,k1,rfl⟩:=ZxP.1 h;obtain⟨k2,k3⟩:=Zju (m:=m) k1;refine⟨by simpa[Value.cells,PV.cells]using k2,fun d hd=>?_,fun j d c h1 h2=>k3 j d c (by simpa[Value.cells]using h1) h2⟩;have hd':d∈cs.toList:=by simpa[Value.cells]using hd
  obtain⟨j,hj⟩:=ZxV.1 hd';have hall:∀{l:List Value} {xs:List PV},l.mapM pvOf=some xs→∀d∈l,d.oneCell'=true:=by
   intro l;induction l with
   |nil=>intro xs _ d hd;cases hd
   |cons v r ih=>
    intro xs h d hd;simp only[List.mapM_cons,Option.bind_eq_bind,Option.pure_def]at h;cases hv:pvOf v with
    |none=>simp[hv]at h
    |some x=>
     cases hr:r.mapM pvOf with
     |none=>simp[hv,hr]at h
     |some l=>
      rcases Zx2.1 hd with rfl|hd
      ·exact(ZkD hv).1
      ·exact ih hr d hd
  exact hall k1 d hd'
 ·rename_i hne;obtain⟨k1,k2⟩:=ZkD h;have hv:v.cells=#[v]:=by cases v<;>first|rfl|(exact(hne _ rfl).elim)
  rw[hv,k2];refine⟨rfl,fun d hd=>by simp at hd;subst hd;exact k1,fun j d c h1 h2=>?_⟩;cases j with
  |zero=>simp at h1 h2;subst h1 h2;exact Zhe h m
  |succ j=>simp at h2
def ZaN (P:Program)(t:TypeId):Option PV:=(zeroT P t).bind pvz
def opds:List Operand→Option (List Opd)
 |[]=>some []
 |x::r=>match opd x,opds r with
  |some y,some l=>some (y::l)
  |_,_=>none
def Zjp (P:Program)(t:TypeId):Option (List (Nat×Nat)):=match P.underlying t with
 |some (.struct fs)=>fs.toList.mapM fun f=>(sizeT P f.type).map fun n=>(f.offset,n)
 |some (.array l e)=>(sizeT P e).map fun n=>(List.range l).map fun i=>(i*n,n)
 |_=>none
def Zgm (pl:List (Nat×Nat)):List (Nat×Operand)→Option (List (Nat×Nat×Opd))
 |[]=>some []
 |(i,x)::r=>match pl[i]?,opd x,Zgm pl r with
  |some (o,n),some y,some l=>some ((o,n,y)::l)
  |_,_,_=>none
def oopd:Option Operand→Option (Option Opd)
 |none=>some none
 |some x=>(opd x).map some
def nilK (k:QK)(op:BinOp)(x:Opd):LOp:=match op with
 |.eql=>.nilq k false x
 |.neq=>.nilq k true x
 |_=>.other
def Zay (P:Program):Op→LOp
 |.move x=>match opd x with
  |some y=>.mov y
  |none=>.other
 |.assign x=>match opd x with
  |some y=>.mov y
  |none=>.other
 |.pick c a b=>match opd c,opd a,opd b with
  |some c,some a,some b=>.pick c a b
  |_,_,_=>.other
 |.binOp op t x y _=>match opd x,opd y,P.underlying t with
  |some x,some y,some (.int _)=>.bin false op x y
  |some x,some y,some .bool=>.bin true op x y
  |some x,some (.c (.emp (some true))),some (.slice _)=>nilK .sl op x
  |some x,some (.c .nilp),some (.pointer _)=>nilK .pt op x
  |some x,some (.c .nilmap),some (.map _ _)=>nilK .mp op x
  |_,_,_=>.other
 |.unOp .not _ x=>match opd x with
  |some y=>.not y
  |none=>.other
 |.unOp .neg _ x=>match opd x with
  |some y=>.neg y
  |none=>.other
 |.box t x=>match opd x,sizeT P t with
  |some y,some n=>.box n y
  |_,_=>.other
 |.alloc t=>match ZaN P t with
  |some z=>.alloc z
  |none=>.other
 |.build t ps=>match ZaN P t,Zjp P t with
  |some z,some pl=>match Zgm pl ps.toList with
   |some l=>.build z l
   |none=>.other
  |_,_=>.other
 |.buildSlice t len ps=>match elemT P t,opds (ps.toList.map (·.2))with
  |some (e,n,none),some l=>if ps.toList.map (·.1)=List.range len∧0<n∧len*n≤2^24∧(zeroT P e).isSome=true then .bslice e n l else .other
  |_,_=>.other
 |.load t x=>match opd x,sizeT P t,P.underlying t with
  |some y,some n,some _=>.load (rowT P t) n y
  |_,_,_=>.other
 |.store t x y=>match opd x,opd y,sizeT P t with
  |some x,some y,some n=>.store n x y
  |_,_,_=>.other
 |.fieldAddr t x f=>match opd x,offT P t f with
  |some y,some o=>.fa o y
  |_,_=>.other
 |.indexAddr t x i=>match opd x,opd i,elemT P t with
  |some x,some i,some (_,n,a)=>.ia n a x i
  |_,_,_=>.other
 |.extract x i=>match opd x with
  |some y=>.ext y i
  |none=>.other
 |.makeFunc (.func f) fs cs=>match opds fs.toList,opds cs.toList with
  |some a,some b=>.mkf f a b
  |_,_=>.other
 |.nilCheck x=>match opd x with
  |some y=>.nilc y
  |none=>.other
 |.convert src dst x=>match opd x,P.underlying src,P.underlying dst with
  |some y,some _,some (.int k)=>.conv k y
  |_,_,_=>.other
 |.slice t x lo hi none=>match opd x,elemT P t,oopd lo,oopd hi with
  |some x,some (_,n,none),some lo,some hi=>.slc n none x lo hi none
  |_,_,_,_=>.other
 |.field t x f=>match opd x,P.underlying t with
  |some y,some (.struct fs)=>match fs[f]? with
   |some fl=>match sizeT P fl.type,P.underlying fl.type with
    |some n,some _=>.fld (rowT P fl.type) fl.offset n y
    |_,_=>.other
   |none=>.other
  |_,_=>.other
 |.makeSlice t l c=>match elemT P t,opd l,opd c with
  |some (e,n,none),some l,some c=>match ZaN P e,P.info? e with
   |some z,some i=>if 0<n∧z.cells.length=n then .mks e n i.bytes z l c else .other
   |_,_=>.other
  |_,_,_=>.other
 |.call c=>match c.callee with
  |.builtin .len=>match c.args.toList,c.argTypes.toList with
   |[x],[t]=>match opd x,elemT P t with
    |some y,some (_,_,a)=>.len a y
    |_,_=>.other
   |_,_=>.other
  |.builtin .append=>match c.args.toList,c.argTypes.toList with
   |[x,y],[t,u]=>match opd x,opd y,elemT P t with
    |some x,some y,some (e,n,none)=>match ZaN P e,P.info? e with
     |some z,some i=>if t=u∧0<n∧z.cells.length=n then .app e n i.bytes x y else .other
     |_,_=>.other
    |_,_,_=>.other
   |_,_=>.other
  |.builtin .min=>match opds c.args.toList with
   |some [x,y]=>.minmax false x y
   |_=>.other
  |.builtin .max=>match opds c.args.toList with
   |some [x,y]=>.minmax true x y
   |_=>.other
  |.value f=>match opd f,opds c.args.toList with
   |some g,some l=>.call g l
   |_,_=>.other
  |_=>.other
 |_=>.other
section
variable {G:World→Prop}{P:Program}{N:Nat}{w0:World}{m0:Env w0}{pl:List Nat}{σ:AS}{ρ:Site→Loc}{m:Mem}{act:Act}{w:World}{o:Oper}{d:Nat}{K:AV→AS→Prop}
def _root_.Go.Op.mild:Op→Bool
 |.store _ _ _=>false
 |.call _=>false
 |.mapUpdate _ _ _ _=>false
 |.insert _ _ _ _=>false
 |.entryStore _ _ _ _=>false
 |_=>true
def ResE (E:Prop)(P:Program)(N:Nat)(w0:World)(m0:Env w0)(pl:List Nat)(o:Oper)(act:Act)(w:World)(K:AV→AS→Prop):Prop:=
 ∃v w' a σ' ρ' m',((execOp act.eval o).run P w=.ok (.value v) w'∨((execOp act.eval o).run P w=.ok .skip w'∧v=undef))∧K a σ'∧Sat N w0 m0 pl σ' ρ' m' act w'∧RdA ρ' m' v a∧(E→Ext w w')
def Res (P:Program)(N:Nat)(w0:World)(m0:Env w0)(pl:List Nat)(o:Oper)(act:Act)(w:World)(K:AV→AS→Prop):Prop:=ResE (o.op.mild=true) P N w0 m0 pl o act w K
def Stay (σ:AS)(ρ:Site→Loc)(m:Mem)(w w':World):Prop:=Le m w'.mem∧∀s b,σ.b s=some b→(ρ s).real=true→w'.heap[(ρ s).b]?=w.heap[(ρ s).b]?
def ResP (G:World→Prop)(P:Program)(σ:AS)(ρ:Site→Loc)(m:Mem)(o:Oper)(act:Act)(w:World)(K:AV→AS→Prop):Prop:=
 ∃v a,(∀w',G w'→(execOp act.eval o).run P w'=.ok (.value v) w')∧RdA ρ m v a∧K a σ
theorem ResP.pure (_:Sat N w0 m0 pl σ ρ m act w){v:Value}{a:AV}(hr:∀w',G w'→(execOp act.eval o).run P w'=.ok (.value v) w')(hv:RdA ρ m v a)(hK:K a σ):ResP G P σ ρ m o act w K:=
 ⟨v,a,hr,hv,hK⟩
theorem Stay.refl (h:Sat N w0 m0 pl σ ρ m act w):Stay σ ρ m w w:=⟨h.mem,fun _ _ _ _=>rfl⟩
theorem Stay.at' {w':World}(h:Stay σ ρ m w w'){s:Site}{b:Box}(hs:σ.b s=some b)(hr:(ρ s).real=true){o:Nat}{ds:List Value}(k:At w.mem (ρ s).b o ds):At w'.mem (ρ s).b o ds:=
 At.Zvm (fun j u hj=>(World.cell?_of_block (a:=⟨(ρ s).b,o+j,none⟩) (h.2 s b hs hr)).trans (k.get j u hj))
theorem ResP.res (h:ResP G P σ ρ m o act w K)(hG:G w)(hS:Sat N w0 m0 pl σ ρ m act w):Res P N w0 m0 pl o act w K:=
 let ⟨v,a,h1,h2,h3⟩:=h;⟨v,w,a,σ,ρ,m,.inl (h1 w hG),h3,hS,h2,fun _=>Ext.ZvU _⟩
theorem ZbK:∀{l:List Operand} {ys:List Opd},opds l=some ys→l.length=ys.length∧∀(j:Nat) (x:Operand),l[j]?=some x→∃y:Opd,ys[j]?=some y∧opd x=some y
 |[],ys,h=>by simp[opds]at h;subst h;exact⟨rfl,fun j x k=>by simp at k⟩
 |a::r,ys,h=>by
  unfold opds at h;split at h
  ·rename_i y l h1 h2;cases h;obtain⟨k1,k2⟩:=ZbK h2;refine⟨by simp[k1],fun j x k=>?_⟩;cases j with
   |zero=>simp at k;subst k;exact⟨y,rfl,h1⟩
   |succ j=>simpa using k2 j x (by simpa using k)
  ·cases h
theorem RdA.Zvc {v:Value}{k:IntKind}{n:Int}(h:RdA ρ m v (.pv (.int k n))):v=.int k n:=by
 cases h with
 |pv _ _ h=>cases h;rfl
theorem RdA.Zvo {v:Value}{b:Bool}(h:RdA ρ m v (.pv (.bool b))):v=.bool b:=by
 cases h with
 |pv _ _ h=>cases h;rfl
theorem RdA.Zu5 {v:Value}{x:PV}(h:RdA ρ m v (.pv x)):RdP m v x:=by cases h with|pv _ _ h=>exact h
theorem RdA.Zvk {v:Value}{s:Site}{off:Nat}(h:RdA ρ m v (.ptr s off)):v=.pointer (some ⟨(ρ s).b,off,none⟩):=by cases h;rfl
theorem RdA.ZvN {v:Value}{s:Site}{n i off:Nat}(h:RdA ρ m v (.elt s n i off)):v=.pointer (some ⟨(ρ s).b,(ρ s).o+i*n+off,none⟩):=by cases h;rfl
theorem RdA.Zv3 {v:Value}{cs:List PV}(h:RdA ρ m v (.pv (.ref cs))):∃b o ds,v=.pointer (some ⟨b,o,none⟩)∧At m b o ds∧ds.length=cs.length∧(∀d∈ds,d.oneCell'=true)∧∀(j:Nat) (d:Value) (c:PV),ds[j]?=some d→cs[j]?=some c→RdP m d c:=by
 cases h with
 |pv _ _ h=>cases h with
  |ref b o _ ds h0 h1 h2 h3=>exact⟨b,o,ds,rfl,h0,h1,h2,h3⟩
theorem RdA.Zw5 {v:Value}{vs:List AV}(h:RdA ρ m v (.tup vs)):∃us,v=.tuple us∧us.size=vs.length∧∀(j:Nat) (d:Value) (c:AV),us[j]?=some d→vs[j]?=some c→RdA ρ m d c:=by
 cases h with
 |tup us _ h0 h2=>exact⟨us,rfl,h0,h2⟩
theorem RdA.ZwB {v:Value}{vs:List PV}(h:RdA ρ m v (.pv (.tup vs))):∃us,v=.tuple us∧us.size=vs.length∧∀(j:Nat) (d:Value) (c:PV),us[j]?=some d→vs[j]?=some c→RdP m d c:=by
 cases h with
 |pv _ _ h=>cases h with
  |tup us _ h0 h2=>exact⟨us,rfl,h0,h2⟩
theorem Zg6 {x:Operand}{y:Opd}(he:opd x=some y)(ho:o.op=.move x∨o.op=.assign x)(h:opWp (.mov y) d K σ)(hS:Sat N w0 m0 pl σ ρ m act w):ResP G P σ ρ m o act w K:=by
 refine .pure hS (v:=act.eval x) ?_ (hS.opd he) h;rcases ho with ho|ho<;>· (intro w' hst;unfold execOp;simp only[ho];rfl)
theorem Zkq {c a b:Operand}{c' a' b':Opd}(hc:opd c=some c')(ha:opd a=some a')(hb:opd b=some b')(ho:o.op=.pick c a b)(h:opWp (.pick c' a' b') d K σ)(hS:Sat N w0 m0 pl σ ρ m act w):ResP G P σ ρ m o act w K:=by
 simp only[opWp]at h;split at h
 ·rename_i t ht;have h1:=(hS.opd hc);rw[ht]at h1;have e:=h1.Zvo;refine .pure hS (v:=if t=true then act.eval a else act.eval b) ?_ ?_ h
  ·intro w' hst;unfold execOp;simp only[ho,e];simp[asBool]
  ·cases t
   ·exact hS.opd hb
   ·exact hS.opd ha
 ·exact h.elim
theorem Zg7 {bt:Bool}{op:BinOp}{t u:TypeId}{x y:Operand}{x' y':Opd}(hx:opd x=some x')(hy:opd y=some y')(ho:o.op=.binOp op t x y u)(h:opWp (.bin bt op x' y') d K σ)(hS:Sat N w0 m0 pl σ ρ m act w)
  (hbool:bt=true→P.underlying t=some .bool):ResP G P σ ρ m o act w K:=by
 simp only[opWp]at h;have h1:=hS.opd hx;have h2:=hS.opd hy;split at h
 ·rename_i k a k' b e1 e2;rw[e1]at h1;rw[e2]at h2;split at h
  ·rename_i r hr;obtain⟨v,k1,k2⟩:=Zq0 (P:=P) hr t x y;refine .pure hS (v:=v) ?_ (.pv _ _ (k2 m)) h;intro w' hst;unfold execOp;simp only[ho,h1.Zvc,h2.Zvc];simp only[Sem.run_bind]at k1 ⊢;rw[k1];rfl
  ·exact h.elim
 ·rename_i a b e1 e2;rw[e1]at h1;rw[e2]at h2;obtain⟨hbt,h⟩:=h;split at h
  ·rename_i r hr;obtain⟨v,k1,k2⟩:=Zq1 (P:=P) hr t x y (hbool hbt);refine .pure hS (v:=v) ?_ (.pv _ _ (k2 m)) h;intro w' hst;unfold execOp;simp only[ho,h1.Zvo,h2.Zvo];simp only[Sem.run_bind]at k1 ⊢;rw[k1];rfl
  ·exact h.elim
 ·exact h.elim
def nilTy (P:Program)(t:TypeId):QK→Prop
 |.sl=>∃e,P.underlying t=some (.slice e)
 |.pt=>∃e,P.underlying t=some (.pointer e)
 |.mp=>∃k e,P.underlying t=some (.map k e)
def Zdo:QK→Value
 |.sl=>.slice none 0 0
 |.pt=>.pointer none
 |.mp=>.map none
theorem ZsX {P:Program}{t:TypeId}{k:QK}(ht:nilTy P t k){v:Value}{a:AV}(hv:RdA ρ m v a)(ha:(∃b,nilOf k a=some b)∨ZaB k a):∃b,(∀w:World,(Op.equal t v (Zdo k)).run P w=.ok b w)∧(∀b',nilOf k a=some b'→b'=b):=by
 cases k with
 |sl=>
  obtain⟨e,he⟩:=ht;have hs:∃A l c,v=.slice A l c:=by
   cases hv with
   |pv v x h=>cases h<;>first|exact⟨_,_,_,rfl⟩|(simp[nilOf,ZaB]at ha)
   |vec=>exact⟨_,_,_,rfl⟩
   |vec0=>exact⟨_,_,_,rfl⟩
   |_=>simp[nilOf,ZaB]at ha
  obtain⟨A,l,c,rfl⟩:=hs;refine⟨A.isNone,fun w=>run_equal_slice_nil w t e A l c he,fun b' hb=>?_⟩;clear ha;cases hv with
  |pv _ x h=>cases h with
   |emp _ nl h0 h1 h2=>
    simp only[nilOf]at hb;subst hb;cases b' with
    |true=>rw[h0 rfl];rfl
    |false=>cases A with
     |none=>exact absurd rfl (h1 rfl)
     |some A=>rfl
   |lst _ cap nn n xs ds h0 h1 h2 h3 h4 h5 h6 h7=>
    simp only[nilOf]at hb;split at hb
    ·rename_i hn;cases hb;cases A with
     |none=>exact absurd rfl (h4 hn)
     |some A=>rfl
    ·split at hb
     ·cases hb
     ·cases hb;obtain⟨b,o,e1,_⟩:=h5 0 _ rfl;subst e1;rfl
   |opq=>simp[nilOf]at hb
  |vec s n lo len cap h0 h1 h2=>
   simp only[nilOf]at hb;split at hb
   ·cases hb
   ·cases hb;rfl
  |vec0 s n lo a h=>
   simp[nilOf]at hb
  |_=>simp[nilOf]at hb
 |pt=>
  obtain⟨e,he⟩:=ht;have hp:P.underlying t=some (.pointer (P.pointee t)):=by simp[Program.pointee,he]
  have hs:∃A,v=.pointer A:=by
   cases hv with
   |pv v x h=>cases h<;>first|exact⟨_,rfl⟩|(simp[nilOf,ZaB]at ha)
   |ptr=>exact⟨_,rfl⟩
   |elt=>exact⟨_,rfl⟩
   |_=>simp[nilOf,ZaB]at ha
  obtain⟨A,rfl⟩:=hs;refine⟨A.isNone,fun w=>run_equal_pointer_nil w t A hp,fun b' hb=>?_⟩;clear ha;cases hv with
  |pv _ x h=>cases h<;>simp[nilOf]at hb<;>subst hb<;>rfl
  |ptr=>simp[nilOf]at hb;subst hb;rfl
  |elt=>simp[nilOf]at hb;subst hb;rfl
  |_=>simp[nilOf]at hb
 |mp=>
  obtain⟨k,e,he⟩:=ht;have hs:∃A,v=.map A:=by
   cases hv with
   |pv v x h=>cases h<;>first|exact⟨_,rfl⟩|(simp[nilOf,ZaB]at ha)
   |mp=>exact⟨_,rfl⟩
   |_=>simp[nilOf,ZaB]at ha
  obtain⟨A,rfl⟩:=hs;refine⟨A.isNone,fun w=>run_equal_map_nil w t k e A he,fun b' hb=>?_⟩;clear ha;cases hv with
  |pv _ x h=>cases h<;>simp[nilOf]at hb<;>subst hb<;>rfl
  |mp=>simp[nilOf]at hb;subst hb;rfl
  |_=>simp[nilOf]at hb
theorem Zc6 {k:QK}{op:BinOp}{t u:TypeId}{x y:Operand}{x':Opd}(hx:opd x=some x')(hy:act.eval y=Zdo k)(ht:nilTy P t k)(ho:o.op=.binOp op t x y u)(h:opWp (nilK k op x') d K σ)(hS:Sat N w0 m0 pl σ ρ m act w):ResP G P σ ρ m o act w K:=by
 have h1:=hS.opd hx;have hg:∀w,(eqGuard op t x y (act.eval x) (Zdo k)).run P w=.ok () w:=by
  intro w;unfold eqGuard;cases k<;>cases op<;>cases act.eval x<;>rfl
 have main:∀neg,opWp (.nilq k neg x') d K σ→(op=.eql∧neg=false∨op=.neq∧neg=true)→ResP G P σ ρ m o act w K:=fun neg h hop=>by
  simp only[opWp]at h;obtain⟨b,hb1,hb2⟩:=ZsX (P:=P) (k:=k) ht h1 (by
   split at h
   ·rename_i b hb;exact .inl ⟨b,hb⟩
   ·exact .inr h.1)
  have hK:K (.pv (.bool (b != neg))) σ:=by
   split at h
   ·rename_i b' hb;rw[←hb2 b' hb];exact h
   ·cases b<;>cases neg<;>first|exact h.2.1|exact h.2.2
  refine .pure hS (v:=.bool (b != neg)) ?_ (.pv _ _ (.bool _)) hK;intro w' hst;unfold execOp;simp only[ho,hy];rcases hop with⟨rfl,rfl⟩|⟨rfl,rfl⟩
  ·cases k<;>simp[hg,binOp,hb1,Zdo]<;>simp_all [Zdo,binOp]
  ·cases k<;>simp[hg,binOp,hb1,Zdo]<;>simp_all [Zdo,binOp]
 unfold nilK at h;split at h
 ·exact main false h (.inl ⟨rfl,rfl⟩)
 ·exact main true h (.inr ⟨rfl,rfl⟩)
 ·exact h.elim
theorem ZmL {t:TypeId}{x:Operand}{x':Opd}(hx:opd x=some x')(ho:o.op=.unOp .not t x)(h:opWp (.not x') d K σ)(hS:Sat N w0 m0 pl σ ρ m act w):ResP G P σ ρ m o act w K:=by
 simp only[opWp]at h;split at h
 ·rename_i a e;have h1:=hS.opd hx;rw[e]at h1;refine .pure hS (v:=.bool (!a)) ?_ (.pv _ _ (.bool _)) h;intro w' hst;unfold execOp;simp only[ho,h1.Zvo];rfl
 ·exact h.elim
theorem ZmM {t:TypeId}{x:Operand}{x':Opd}(hx:opd x=some x')(ho:o.op=.unOp .neg t x)(h:opWp (.neg x') d K σ)(hS:Sat N w0 m0 pl σ ρ m act w):ResP G P σ ρ m o act w K:=by
 simp only[opWp]at h;split at h
 ·rename_i k a e;have h1:=hS.opd hx;rw[e]at h1;refine .pure hS (v:=.int k (k.wrap (0-a))) ?_ (.pv _ _ (.int _ _)) h;intro w' hst;unfold execOp;simp only[ho,h1.Zvc];rfl
 ·exact h.elim
theorem Zkt {src dst:TypeId}{e:TypeDesc}{k:IntKind}{x:Operand}{x':Opd}(hx:opd x=some x')(hs:P.underlying src=some e)(hd:P.underlying dst=some (.int k))(ho:o.op=.convert src dst x)(h:opWp (.conv k x') d K σ)(hS:Sat N w0 m0 pl σ ρ m act w):ResP G P σ ρ m o act w K:=by
 simp only[opWp]at h;split at h
 ·rename_i k' a e';have h1:=hS.opd hx;rw[e']at h1;refine .pure hS (v:=.int k (k.wrap a)) ?_ (.pv _ _ (.int _ _)) h;intro w' hst;unfold execOp;simp only[ho,h1.Zvc];simp[convert,run_underlying hs,run_underlying hd,Conv.intToInt]
 ·exact h.elim
theorem ZmQ {x:Operand}{i:Nat}{x':Opd}(hx:opd x=some x')(ho:o.op=.extract x i)(h:opWp (.ext x' i) d K σ)(hS:Sat N w0 m0 pl σ ρ m act w):ResP G P σ ρ m o act w K:=by
 simp only[opWp]at h;have h1:=hS.opd hx;have key:∀(vs:Array Value) (a:AV),act.eval x=.tuple vs→(∃v,vs[i]?=some v∧RdA ρ m v a)→K a σ→ResP G P σ ρ m o act w K:=by
  intro vs a e ⟨v,k1,k2⟩ hK;refine .pure hS (v:=v) ?_ k2 hK;intro w' hst;unfold execOp;simp only[ho,e];simp[Instr.extract,k1]
 split at h
 ·rename_i vs e;rw[e]at h1;obtain⟨us,hX,h0,h2⟩:=h1.ZwB;split at h
  ·rename_i v hv;have hlt:i<us.size:=by rw[h0];exact(ZxN.1 hv).1
   exact key us (.pv v) hX ⟨us[i],Zys hlt,.pv _ _ (h2 i _ _ (Zys hlt) hv)⟩ h
  ·exact h.elim
 ·rename_i vs e;rw[e]at h1;obtain⟨us,hX,h0,h2⟩:=h1.Zw5;split at h
  ·rename_i v hv;have hlt:i<us.size:=by rw[h0];exact(ZxN.1 hv).1
   exact key us v hX ⟨us[i],Zys hlt,h2 i _ _ (Zys hlt) hv⟩ h
  ·exact h.elim
 ·exact h.elim
theorem Zkr {x:Operand}{x':Opd}(hx:opd x=some x')(ho:o.op=.nilCheck x)(h:opWp (.nilc x') d K σ)(hS:Sat N w0 m0 pl σ ρ m act w):ResP G P σ ρ m o act w K:=by
 simp only[opWp]at h;have h1:=hS.opd hx;have key:∀(A:Addr) (a:AV),act.eval x=.pointer (some A)→RdA ρ m (act.eval x) a→K a σ→ResP G P σ ρ m o act w K:=by
  intro A a e k2 hK;refine .pure hS (v:=act.eval x) ?_ k2 hK;intro w' hst;unfold execOp;simp only[ho,e];rfl
 split at h
 ·rename_i cs e;rw[e]at h1;obtain⟨b,o,ds,hX,_⟩:=h1.Zv3;exact key _ _ hX h1 h
 ·rename_i s off e;rw[e]at h1;exact key _ _ h1.Zvk h1 h
 ·rename_i s n i off e;rw[e]at h1;exact key _ _ h1.ZvN h1 h
 ·exact h.elim
theorem Zc7 {mx:Bool}{c:Call}{x y:Operand}{x' y':Opd}(hx:opd x=some x')(hy:opd y=some y')(hc:c.callee=.builtin (if mx=true then .max else .min))(ha:c.args.toList=[x,y])(ho:o.op=.call c)(h:opWp (.minmax mx x' y') d K σ)(hS:Sat N w0 m0 pl σ ρ m act w):ResP G P σ ρ m o act w K:=by
 simp only[opWp]at h;have h1:=hS.opd hx;have h2:=hS.opd hy;have hargs:c.args=#[x,y]:=Zyv.1 (by simpa using ha);split at h
 ·rename_i k a k' b e1 e2;rw[e1]at h1;rw[e2]at h2;refine .pure hS (v:=.int k (if mx=true then(if b>a then b else a)else(if b<a then b else a))) ?_ (.pv _ _ (.int _ _)) h;intro w' hst;unfold execOp;simp only[ho];cases mx
  ·simp[resolve,hc,hargs,invoke,builtin,Builtin.min_,h1.Zvc,h2.Zvc,Builtin.min2]
  ·simp[resolve,hc,hargs,invoke,builtin,Builtin.max_,h1.Zvc,h2.Zvc,Builtin.max2]
 ·exact h.elim
end
end
section
section
variable {G:World→Prop}{P:Program}{N:Nat}{w0:World}{m0:Env w0}{pl:List Nat}{σ:AS}{ρ:Site→Loc}{m:Mem}{act:Act}{w:World}{o:Oper}{d:Nat}{K:AV→AS→Prop}
theorem Za6 {v:Value}{a:AV}(h:RdA ρ m v a)(hw:a.wide=true∨a.one=true):v.cells.size=a.cells.length∧(∀u∈v.cells,u.oneCell'=true)∧∀(j:Nat) (d:Value) (c:AV),v.cells[j]?=some d→a.cells[j]?=some c→RdA ρ m d c:=by
 have hne:a≠.any:=fun e=>by subst e;rcases hw with h|h<;>cases h
 obtain⟨h1,h2⟩:=h.Zw1 hne;refine⟨h1,fun u hu=>?_,fun j d c k1 k2=>(h2 j d c k1 k2).1⟩;obtain⟨j,hj,rfl⟩:=Array.mem_iff_getElem.1 hu;have hj':j<a.cells.length:=by omega
 obtain⟨k1,k2⟩:=h2 j _ _ (Zys hj) (ZxL hj');rcases hw with hw|hw
 ·exact k2 hw
 ·refine k1.one ?_
  have:a.cells=[a]:=by
   cases a with
   |agg cs=>cases hw
   |pv x=>cases x<;>first|rfl|cases hw
   |_=>rfl
  have hj0:j=0:=by rw[this]at hj';simp at hj';exact hj'
  subst hj0;simp only[this,List.getElem_cons_zero];exact hw
theorem Res.ZwD (h:Sat N w0 m0 pl σ ρ m act w){cs:Array Value}{T:TypeId}{azz:List AV}(h0:cs.size=azz.length)(h1:∀u∈cs,u.oneCell'=true)(h2:∀(j:Nat) (d:Value) (c:AV),cs[j]?=some d→azz[j]?=some c→RdA ρ m d c)
  (hn:NoD d σ) (has:AV.ZvL d azz=false) (hr:(execOp act.eval o).run P w=.ok (.value (.pointer (some ⟨w.heap.size,0,none⟩))) (w.alloc (.cells cs T))) (hK:K (.ptr (.loc d 0) 0) (σ.add (.loc d 0) (.cells azz))):Res P N w0 m0 pl o act w K:=by
 have hu:=ZaL ρ (.loc d 0) ⟨w.heap.size,0,0,true⟩;refine⟨_,_,_,_,_,_,.inl hr,hK,h.new d 0 hn cs T 0 ?_,?_,fun _=>Ext.al _ _⟩
 ·refine⟨by rw[hu],cs,T,by rw[hu];exact heap_alloc_new w _,h0,fun i c a k1 k2=>⟨h1 c (Array.mem_of_getElem? k1),?_⟩⟩;exact(h2 i c a k1 k2).mono (Le.refl m) (Zfa ρ d 0 _) (AV.Zvn has k2)
 ·have:=RdA.ptr (ρ:=upd ρ (.loc d 0) ⟨w.heap.size,0,0,true⟩) (m:=m) (.loc d 0) 0
  rw[hu]at this;exact this
theorem ZjH {d:Nat}:∀{l:List AV},(∀a∈l,a.has d=false)→AV.ZvL d l=false
 |[],_=>rfl
 |a::r,h=>by
  rw[AV.ZvL,h a (by simp),ZjH (fun b hb=>h b (by simp[hb]))];rfl
theorem ZoJ {d:Nat}{a:AV}(h:a.has d=false):AV.ZvL d a.cells=false:=by
 cases a with
 |agg cs=>exact h
 |pv x=>
  cases x with
  |agg cs=>exact ZjH (fun a ha=>by obtain⟨c,_,rfl⟩:=ZxY.1 ha;rfl)
  |_=>rfl
 |_=>simp only[AV.cells,AV.ZvL,h,Bool.or_false]
theorem o_has {d:Nat}(hn:NoD d σ)(x:Opd):(σ.o x).has d=false:=by
 cases x with
 |t k=>
  show((σ.t k).getD .any).has d=false;cases ht:σ.t k with
  |none=>rfl
  |some a=>exact hn.t k a ht
 |c x=>rfl
theorem Zsp {t n:Nat}{x:Operand}{x':Opd}(hx:opd x=some x')(hs:sizeT P t=some n)(ho:o.op=.box t x)(h:opWp (.box n x') d K σ)(hS:Sat N w0 m0 pl σ ρ m act w):Res P N w0 m0 pl o act w K:=by
 obtain⟨h1,h2,h3⟩:=h;have hP:=hS.Zu0 d;obtain⟨k1,k2,k3⟩:=Za6 (hP.opd hx) h2;refine Res.ZwD hP k1 k2 k3 (NoD.Zu0 d σ) (ZoJ (o_has (NoD.Zu0 d σ) x')) ?_ h3 (T:=t);unfold execOp;simp only[ho,Sem.run_bind,r_box,Result.andThen_ok];rfl
theorem ZmS {t:Nat}{z:PV}(hz:ZaN P t=some z)(ho:o.op=.alloc t)(h:opWp (.alloc z) d K σ)(hS:Sat N w0 m0 pl σ ρ m act w):Res P N w0 m0 pl o act w K:=by
 unfold ZaN at hz;cases hv:zeroT P t with
 |none=>simp[hv]at hz
 |some v=>
  simp only[hv,Option.bind_some]at hz;obtain⟨k1,k2,k3⟩:=Zb1 hz m;refine Res.ZwD (hS.Zu0 d) (cs:=v.cells) (T:=t) (azz:=z.cells.map .pv) (by simpa using k1) k2 (fun j dd c q1 q2=>?_) (NoD.Zu0 d σ) (ZjH (fun a ha=>by obtain⟨c,_,rfl⟩:=ZxY.1 ha;rfl)) ?_ h
  ·rw[ZxM]at q2;obtain⟨x,q3,rfl⟩:=ZxP.1 q2;exact .pv _ _ (k3 j dd x q1 q3)
  ·unfold execOp;simp only[ho,Sem.run_bind,Znf hv,Result.andThen_ok];rfl
theorem Zrx {t f off:Nat}{x:Operand}{x':Opd}(hx:opd x=some x')(hf:offT P t f=some off)(ho:o.op=.fieldAddr t x f)(h:opWp (.fa off x') d K σ)(hS:Sat N w0 m0 pl σ ρ m act w):ResP G P σ ρ m o act w K:=by
 simp only[opWp]at h;have h1:=hS.opd hx;have key:∀(b q:Nat) (a:AV),act.eval x=.pointer (some ⟨b,q,none⟩)→RdA ρ m (.pointer (some ⟨b,q+off,none⟩)) a→K a σ→ResP G P σ ρ m o act w K:=by
  intro b q a e k2 hK;refine .pure hS ?_ k2 hK;intro w' hst;unfold execOp;simp only[ho,e,Sem.run_bind,r_fa hf,Result.andThen_ok];rfl
 split at h
 ·rename_i cs e;rw[e]at h1;obtain⟨b,q,ds,hX,k1,k2,k3,k4⟩:=h1.Zv3;refine key b q _ hX ?_ h.2;refine .pv _ _ (.ref b (q+off) (cs.drop off) (ds.drop off) (At.Zvm (fun j u hj=>?_)) (by simp[k2]) (fun u hu=>k3 u (List.mem_of_mem_drop hu)) (fun j u c q1 q2=>?_))
  ·rw[Zx3]at hj
   have:=k1.get _ u hj
   rwa [show q+off+j=q+(off+j) by omega]
  ·rw[Zx3]at q1 q2;exact k4 _ u c q1 q2
 ·rename_i s q e;rw[e]at h1;exact key _ q _ h1.Zvk (.ptr s (q+off)) h
 ·rename_i s n i q e;rw[e]at h1;refine key _ _ _ h1.ZvN ?_ h
  have:=RdA.elt (ρ:=ρ) (m:=m) s n i (q+off)
  rwa [show(ρ s).o+i*n+(q+off)=(ρ s).o+i*n+q+off by omega]at this
 ·exact h.elim
theorem ZcZ {s:Site}{azz:List AV}(hb:RdB ρ m w s (.cells azz)){off n:Nat}(hl:off+n≤azz.length):
  ∃ds:List Value,ds.length=n∧At w.mem (ρ s).b off ds∧(∀u∈ds,u.oneCell'=true)∧∀(j:Nat) (d:Value) (c:AV),ds[j]?=some d→((azz.drop off).take n)[j]?=some c→RdA ρ m d c:=by
 obtain⟨h0,cs,T,h1,h2,h3⟩:=hb;refine⟨(cs.toList.drop off).take n,ZcP (by omega),At.Zvm (fun j u hj=>?_),fun u hu=>?_,fun j u c k1 k2=>?_⟩
 ·rw[ZaO]at hj;split at hj
  ·show w.cell? _=_;simp[World.cell?,h1,hj]
  ·cases hj
 ·obtain⟨j,hj⟩:=ZxV.1 hu;rw[ZaO]at hj;split at hj
  ·rename_i hjn;exact(h3 _ u _ hj (ZxL (by omega))).1
  ·cases hj
 ·rw[ZaO]at k1;rw[Zx1]at k2;split at k1
  ·rename_i hjn;rw[if_pos hjn,Zx3]at k2;exact(h3 _ u c k1 k2).2
  ·cases k1
theorem Zks {t n:Nat}{dd:TypeDesc}{x:Operand}{x':Opd}(hx:opd x=some x')(hs:sizeT P t=some n)(hu:P.underlying t=some dd)(ho:o.op=.load t x)(h:opWp (.load (rowT P t) n x') d K σ)(hS:Sat N w0 m0 pl σ ρ m act w):ResP (Stay σ ρ m w) P σ ρ m o act w K:=by
 simp only[opWp]at h;have h1:=hS.opd hx;have row:∀(b q:Nat) (ds:List Value) (a:AV),rowT P t=true→act.eval x=.pointer (some ⟨b,q,none⟩)→(∀w',Stay σ ρ m w w'→At w'.mem b q ds)→ds.length=n→RdA ρ m (.agg ds.toArray) a→K a σ→ResP (Stay σ ρ m w) P σ ρ m o act w K:=by
  intro b q ds a hr e k1 k2 k3 hK;refine .pure hS ?_ k3 hK;intro w' hst;unfold execOp;simp only[ho,e,Sem.run_bind,Znc hu hr (k1 w' hst) (by rw[hs,k2]),Result.andThen_ok];rfl
 have one:∀(b q:Nat) (v:Value) (a:AV),rowT P t=false→act.eval x=.pointer (some ⟨b,q,none⟩)→(∀w',Stay σ ρ m w w'→w'.cell? ⟨b,q,none⟩=some v)→RdA ρ m v a→K a σ→ResP (Stay σ ρ m w) P σ ρ m o act w K:=by
  intro b q v a hr e k1 k3 hK;refine .pure hS ?_ k3 hK;intro w' hst;unfold execOp;simp only[ho,e,Sem.run_bind,Znd hu hr (k1 w' hst),Result.andThen_ok];rfl
 split at h
 ·rename_i cs e;rw[e]at h1;obtain⟨b,q,ds,hX,k1,k2,k3,k4⟩:=h1.Zv3;split at h
  ·rename_i hr;obtain⟨hn,hK⟩:=h;refine row b q (ds.take n) _ hr hX (fun w' hst=>At.Zvm (fun j u hj=>?_)) (by rw[ZxT];omega) (.pv _ _ (.agg _ _ (by simp;omega) (fun u hu=>k3 u (List.mem_of_mem_take (by simpa using hu))) (fun j u c q1 q2=>?_))) hK
   ·rw[Zx1]at hj;split at hj
    ·exact hst.1 _ _ _ (k1.get j u hj)
    ·cases hj
   ·have q1':(ds.take n)[j]?=some u:=by simpa using q1
    rw[Zx1]at q1' q2;split at q1'
    ·rename_i hjn;rw[if_pos hjn]at q2;exact k4 j u c q1' q2
    ·cases q1'
  ·rename_i hr;split at h
   ·rename_i c cs';cases ds with
    |nil=>simp at k2
    |cons v ds'=>exact one b q v _ (by simpa using hr) hX (fun w' hst=>hst.1 _ _ _ k1.1) (.pv _ _ (k4 0 v c rfl rfl)) h
   ·exact h.elim
 ·rename_i s off e;rw[e]at h1;split at h
  ·rename_i azz hb;have hB:=hS.bx s _ hb;split at h
   ·rename_i hr;obtain⟨hl,hK⟩:=h;obtain⟨ds,k1,k2,k3,k4⟩:=ZcZ hB hl;refine row _ off ds _ hr h1.Zvk (fun w' hst=>hst.at' hb hB.1 k2) k1 (Zcw (by simp[k1,ZxT,Zyn];omega) (fun u hu=>k3 u (by simpa using hu)) (fun j u c q1 q2=>k4 j u c (by simpa using q1) q2)) hK
   ·rename_i hr;split at h
    ·rename_i a ha;have hlt:=(ZxN.1 ha).1;obtain⟨ds,k1,k2,k3,k4⟩:=ZcZ hB (off:=off) (n:=1) (by omega)
     match ds,k1 with
     |[v],_=>exact one _ off v _ (by simpa using hr) h1.Zvk (fun w' hst=>(hst.at' hb hB.1 k2).1) (k4 0 v a rfl (by rw[Zx1,if_pos (by omega),Zx3];exact ha)) h
    ·exact h.elim
  ·exact h.elim
 ·rename_i s n' i off e;rw[e]at h1;split at h
  ·rename_i ee n'' xs hb;have hB:=hS.bx s _ hb;split at h
   ·rename_i y hy;obtain⟨rfl,h⟩:=h;obtain⟨hn0,hB|⟨hr0,cs,g1,g2,g3,g4,g5⟩⟩:=hB
    ·rw[hB.2.1]at hy;simp at hy
    obtain⟨g6,g7⟩:=g5 i y hy;have hX:=h1.ZvN;have getc:∀j c,y.cells[j]?=some c→∃u,w.cell? ⟨(ρ s).b,(ρ s).o+i*n'+j,none⟩=some u∧u.oneCell'=true∧RdP m u c:=fun j c hc=>by
     obtain⟨u,q1,q2,q3⟩:=g7 j c hc;exact⟨u,by simp[World.cell?,g1,q1],q2,q3⟩
    split at h
    ·rename_i hr;obtain⟨hl,hK⟩:=h;have hfit:(ρ s).o+i*n'+off+n≤cs.size:=by
      have:i*n'+n'≤(ρ s).cap*n':=ZaI (by have:=(ZxN.1 hy).1;omega)
      omega
     have hlen:=ZcP hfit;have geta:∀(j:Nat) (u:Value),((cs.toList.drop ((ρ s).o+i*n'+off)).take n)[j]?=some u→j<n∧∃c,y.cells[off+j]?=some c∧u.oneCell'=true∧RdP m u c:=fun j u hj=>by
      rw[ZaO]at hj;split at hj
      ·rename_i hjn;have hlt:off+j<y.cells.length:=by omega
       obtain⟨u',q1,q2,q3⟩:=g7 (off+j) _ (ZxL hlt);rw[show(ρ s).o+i*n'+(off+j)=(ρ s).o+i*n'+off+j by omega,hj]at q1;cases q1;exact⟨hjn,_,ZxL hlt,q2,q3⟩
      ·cases hj
     refine row _ _ ((cs.toList.drop ((ρ s).o+i*n'+off)).take n) _ hr hX (fun w' hst=>hst.at' hb hr0 (At.Zvm (fun j u hj=>?_))) hlen (.pv _ _ (.agg _ _ (by simp only[Zyd];rw[hlen,ZxT,Zyn];omega) (fun u hu=>?_) (fun j u c q1 q2=>?_))) hK
     ·rw[ZaO]at hj;split at hj
      ·show w.cell? _=_;simp[World.cell?,g1,hj]
      ·cases hj
     ·obtain⟨j,hj⟩:=ZxV.1 (show u∈(cs.toList.drop ((ρ s).o+i*n'+off)).take n by simpa using hu);obtain⟨_,c,_,q2,_⟩:=geta j u hj;exact q2
     ·obtain⟨hjn,c',q3,_,q4⟩:=geta j u (by simpa using q1);rw[Zx1,if_pos hjn,Zx3]at q2;rw[q2]at q3;cases q3;exact q4
    ·rename_i hr;split at h
     ·rename_i c hc;obtain⟨u,q1,_,q3⟩:=getc off c hc;exact one _ _ u _ (by simpa using hr) hX (fun w' hst=>(World.cell?_of_block (a:=⟨(ρ s).b,(ρ s).o+i*n'+off,none⟩) (hst.2 s _ hb hr0)).trans q1) (.pv _ _ q3) h
     ·exact h.elim
   ·exact h.elim
  ·rename_i ee e2 n2 els hb;have hB:=hS.bx s _ hb;split at h
   ·rename_i a ha;obtain⟨⟨rfl,rfl,hr⟩,hK⟩:=h;obtain⟨_,⟨_,rfl,_⟩|⟨hr0,cs,g1,g2,g3,g4,g5,_⟩⟩:=hB
    ·cases ha
    obtain⟨u,q1,q2,q3⟩:=g5 i a ha;have hX:=h1.ZvN;rw[Nat.mul_one,Nat.add_zero]at hX;exact one _ _ u _ hr hX (fun w' hst=>(World.cell?_of_block (a:=⟨(ρ s).b,(ρ s).o+i,none⟩) (hst.2 s _ hb hr0)).trans (by simp[World.cell?,g1,q1])) q3 hK
   ·exact h.elim
  ·exact h.elim
 ·exact h.elim
end
end
section
section
variable {P:Program}{N:Nat}{w0:World}{m0:Env w0}{pl:List Nat}{σ:AS}{ρ:Site→Loc}{m:Mem}{act:Act}{w:World}{o:Oper}{d:Nat}{K:AV→AS→Prop}
theorem Keep.setRow (w:World)(b:Nat)(cs:Array Value):Keep [b] w (w.setRow b cs):=by
 refine⟨rfl,rfl,rfl,by simp[World.setRow],fun k _ hn=>?_⟩;exact setRow_other w b k cs (by simpa using hn)
theorem Zao {α:Type}{l c:List α}{off:Nat}(h:off+c.length≤l.length)(i:Nat):(splice l off c)[i]?=if i<off then l[i]? else if i<off+c.length then c[i-off]? else l[i]?:=by
 unfold splice;rw[Zyl,Zyl];simp only[ZxU,ZxT];rw[show min off l.length=off by omega];by_cases h1:i<off
 ·have h3:i<off+c.length:=by omega
  simp only[h1,h3,if_true,Zx1]
 ·by_cases h2:i<off+c.length
  ·simp only[h1,h2,if_true,if_false]
  ·simp only[h1,h2,if_false,Zx3];congr 1;omega
theorem Zat {α:Type}{l c:List α}{off:Nat}(h:off+c.length≤l.length):(splice l off c).length=l.length:=by
 unfold splice
 simp;omega
theorem Zil {a:AV}(h:a.one=true):a.cells=[a]:=by
 cases a with
 |agg cs=>cases h
 |pv x=>cases x<;>first|rfl|cases h
 |_=>rfl
theorem Sat.Zxo (hS:Sat N w0 m0 pl σ ρ m act w){s:Site}{e e2:TypeId}{n2:Nat}{els:List RowE}(hb:σ.b s=some (.rows e e2 n2 els)){i:Nat}(hi:i<els.length){u:Value}{a:AV}(h1:u.oneCell'=true)(hu:RdA ρ m u a){cs:Array Value}(g1:w.heap[(ρ s).b]?=some (.cells cs e (0,0))):
  Sat N w0 m0 pl (σ.set s (.rows e e2 n2 (els.set i (.av a)))) ρ m act (w.setRow (ρ s).b (splice cs.toList ((ρ s).o+i) [u]).toArray):=by
 obtain⟨hn,⟨_,rfl,_⟩|⟨hr,cs',g1',g2,g3,g4,g5,g6,g7,g8⟩⟩:=hS.bx s _ hb
 ·cases hi
 rw[g1]at g1';cases g1';have hq:(ρ s).o+i+[u].length≤cs.toList.length:=by simp;omega
 have hW:=setRow_heap w (ρ s).b cs (splice cs.toList ((ρ s).o+i) [u]).toArray e (0,0) g1;have hget:∀j,j≠i→(splice cs.toList ((ρ s).o+i) [u]).toArray[(ρ s).o+j]?=cs[(ρ s).o+j]?:=fun j hj=>by
  rw[Zyo,Zao hq];simp only[List.length_singleton,Zyu];by_cases c1:(ρ s).o+j<(ρ s).o+i
  ·rw[if_pos c1]
  ·rw[if_neg c1,if_neg (by omega)]
 have hself:(splice cs.toList ((ρ s).o+i) [u]).toArray[(ρ s).o+i]?=some u:=by
  rw[Zyo,Zao hq,if_neg (by omega),if_pos (by simp)];simp
 have hins:∀j k,insAt (w.setRow (ρ s).b (splice cs.toList ((ρ s).o+i) [u]).toArray) (ρ s) (els.set i (.av a)) j=some k→j≠i∧insAt w (ρ s) els j=some k:=fun j k h=>by
  obtain⟨xs,cs2,T,t,A,len,cap,k1,k2,k3,rfl⟩:=ZfO h;rw[hW]at k2;cases k2;by_cases e1:j=i
  ·subst e1;rw[ZyA hi]at k1;cases k1
  ·rw[ZyC (fun e=>e1 e.symm)]at k1;rw[hget j e1]at k3;exact⟨e1,ZeY k1 g1 k3⟩
 refine hS.ZwJ hb hr (Keep.setRow w _ _) ⟨hn,.inr ⟨hr,_,hW,?_,by rw[List.length_set];exact g3,g4,fun j a' k=>?_,fun j xs k=>?_,fun j j' k h h'=>g7 j j' k (hins j k h).2 (hins j' k h').2,fun j k h=>g8 j k (hins j k h).2⟩⟩ (fun k hk=>?_)
 ·rw[Zyd,Zat hq,Zyf];exact g2
 ·by_cases e1:j=i
  ·subst e1;rw[ZyA hi]at k;cases k;exact⟨u,hself,h1,hu⟩
  ·rw[ZyC (fun e=>e1 e.symm)]at k;rw[hget j e1];exact g5 j a' k
 ·by_cases e1:j=i
  ·subst e1;rw[ZyA hi]at k;cases k
  ·rw[ZyC (fun e=>e1 e.symm)]at k;obtain⟨d,q1,q2⟩:=g6 j xs k;refine⟨d,by rw[hget j e1];exact q1,q2.more (Le.refl m) (fun A len cap ed=>?_)⟩;subst ed;exact(Keep.setRow w (ρ s).b _).block _ (hS.ltk hb (.inr (Zeo.2 ⟨j,ZeY k g1 q1⟩))) (by
    rw[Zyi];exact g8 j _ (ZeY k g1 q1))
 ·obtain⟨j,hj⟩:=Zeo.1 hk;exact Zeo.2 ⟨j,(hins j k hj).2⟩
theorem ZmJ {t n:Nat}{x y:Operand}{x' y':Opd}(hx:opd x=some x')(hy:opd y=some y')(hs:sizeT P t=some n)(ho:o.op=.store t x y)(h:opWp (.store n x' y') d K σ)(hS:Sat N w0 m0 pl σ ρ m act w):Res P N w0 m0 pl o act w K:=by
 simp only[opWp]at h;have h1:=hS.opd hx;have h2:=hS.opd hy;have run:∀(b q:Nat) (cur:Array Value) (T:TypeId),act.eval x=.pointer (some ⟨b,q,none⟩)→w.heap[b]?=some (.cells cur T (0,0))→(act.eval y).cells.size=n→q+n≤cur.size→(∀u∈(act.eval y).cells,u.oneCell'=true)→
   (execOp act.eval o).run P w=.ok .skip (w.setRow b (splice cur.toList q (act.eval y).cells.toList).toArray):=by
  intro b q cur T e hh hn hl h1;unfold execOp;simp only[ho,e,Sem.run_bind];rw[ZsJ (by rw[hs,hn]) hh (by rw[hn];exact hl) h1];simp only[Result.andThen_ok,Sem.run_pure,splice,Zyf]
 split at h
 ·rename_i s off e;rw[e]at h1;split at h
  ·rename_i azz hb;obtain⟨c1,c2,c3,hK⟩:=h;obtain⟨k1,k2,k3⟩:=Za6 h2 c2;obtain⟨hr,cs,T,g1,g2,g3⟩:=hS.bx s _ hb;have hq:off+(act.eval y).cells.toList.length≤cs.toList.length:=by rw[Zyf,Zyf];omega
   refine⟨undef,_,.any,_,ρ,m,.inr ⟨run _ off cs T h1.Zvk g1 (by omega) (by omega) k2,rfl⟩,hK,?_,.any _,fun hm=>by rw[ho]at hm;cases hm⟩;refine hS.Zwn hb hr (Keep.setRow w _ _) ⟨hr,_,T,setRow_heap w _ cs _ T _ g1,?_,fun i c a q1 q2=>?_⟩
   ·rw[Zyd,Zat hq,Zat (by omega)];simpa using g2
   ·have q1':(splice cs.toList off (act.eval y).cells.toList)[i]?=some c:=by simpa using q1
    rw[Zao hq]at q1';rw[Zao (by omega)]at q2;rw[show(act.eval y).cells.toList.length=(σ.o y').cells.length by simp[k1]]at q1';split at q1'
    ·rename_i hi;rw[if_pos hi]at q2;exact g3 i c a (by simpa using q1') q2
    ·rename_i hi;rw[if_neg hi]at q2;split at q1'
     ·rename_i hi2;rw[if_pos hi2]at q2;have q3:(act.eval y).cells[i-off]?=some c:=by simpa using q1'
      exact⟨k2 c (Array.mem_of_getElem? q3),k3 _ c a q3 q2⟩
     ·rename_i hi2;rw[if_neg hi2]at q2;exact g3 i c a (by simpa using q1') q2
  ·exact h.elim
 ·rename_i s n' i off e;rw[e]at h1;split at h
  ·rename_i ee e2 n2 els hb;obtain⟨⟨rfl,rfl,rfl,hi,hone⟩,hK⟩:=h;obtain⟨k1,k2,k3⟩:=Za6 h2 (.inr hone);obtain⟨_,⟨_,rfl,_⟩|⟨hr,cs,g1,g2,g3,_⟩⟩:=hS.bx s _ hb
   ·cases hi
   have hX:=h1.ZvN;rw[Nat.mul_one,Nat.add_zero]at hX;rw[Zil hone]at k1;have hvs:(act.eval y).cells.size=1:=k1;obtain⟨u,hu⟩:∃u,(act.eval y).cells=#[u]:=by
    generalize(act.eval y).cells=cc at hvs;exact⟨cc[0],by apply Array.ext (by simpa using hvs);intro j h1 h2;have:j=0:=(by omega);subst this;rfl⟩
   have hrun:=run _ ((ρ s).o+i) cs ee hX g1 hvs (by omega) k2;rw[hu]at hrun;refine⟨undef,_,.any,_,ρ,m,.inr ⟨hrun,rfl⟩,hK,?_,.any _,fun hm=>by rw[ho]at hm;cases hm⟩;exact hS.Zxo hb hi (k2 u (by rw[hu];simp)) (k3 0 u _ (by rw[hu];rfl) (by rw[Zil hone];rfl)) g1
  obtain⟨m2,hm2,hS2⟩:=Sat.Zv7 (σ.o y') hS;replace h2:=hS2.opd hy;generalize σ.Zv7 (σ.o y')=σ2 at h h2 hS2;split at h
  ·rename_i ee n'' xs p hb hpc;split at h
   ·rename_i z hz;obtain⟨rfl,c0,c1,c2,c3,hK⟩:=h;rw[hpc]at h2;obtain⟨k1,k2,k3⟩:=Za6 h2 c2;have hpl:(AV.pv p).cells.length=p.cells.length:=by cases p<;>simp[AV.cells,PV.cells]
    have hpg:∀j:Nat,(AV.pv p).cells[j]?=(p.cells[j]?).map AV.pv:=fun j=>by
     cases p<;>simp only[AV.cells,PV.cells,ZxM]<;>cases j<;>rfl
    obtain⟨hn0,hB|⟨hr,cs,g1,g2,g3,g4,g5⟩⟩:=hS2.bx s _ hb
    ·rw[hB.2.1]at hz;simp at hz
    obtain⟨g6,g7⟩:=g5 i z hz;have hilt:i<xs.length:=(ZxN.1 hz).1;have hin:i*n'+n'≤(ρ s).cap*n':=ZaI (by omega);have hfit:(ρ s).o+i*n'+off+n≤cs.size:=by omega
    have hX:=h1.ZvN;have hvs:(act.eval y).cells.size=n:=by omega
    have hvl:(act.eval y).cells.toList.length=n:=by rw[Zyf];exact hvs
    have hspl:(ρ s).o+i*n'+off+(act.eval y).cells.toList.length≤cs.toList.length:=by rw[hvl,Zyf];exact hfit
    refine⟨undef,_,.any,_,ρ,m2,.inr ⟨run _ ((ρ s).o+i*n'+off) cs ee hX g1 hvs hfit k2,rfl⟩,hK,?_,.any _,fun hm=>by rw[ho]at hm;cases hm⟩;have hset:(setAt z off p).cells=splice z.cells off p.cells:=by
     unfold setAt;split
     ·rfl
     ·rename_i hne;have hz1:z.cells=[z]:=by cases z<;>first|rfl|(exact(hne _ rfl).elim)
      rw[hz1]at c3 ⊢;simp only[List.length_singleton]at c3;have hn1:n=1∧off=0∨n=0:=by omega
      rcases hn1 with⟨e1,e2⟩|e0
      ·subst e2;simp[splice,c1,e1]
      ·omega
    refine hS2.Zwn hb hr (Keep.setRow w _ _) ⟨hn0,.inr ⟨hr,_,setRow_heap w _ cs _ ee _ g1,?_,by rw[List.length_set];exact g3,g4,fun k x hk=>?_⟩⟩
    ·rw[Zyd,Zat hspl];simpa using g2
    ·have getn:∀q u,((splice cs.toList ((ρ s).o+i*n'+off) (act.eval y).cells.toList).toArray)[q]?=some u↔(if q<(ρ s).o+i*n'+off then cs[q]? else if q<(ρ s).o+i*n'+off+n then(act.eval y).cells[q-((ρ s).o+i*n'+off)]? else cs[q]?)=some u:=fun q u=>by
      rw[Zyo,Zao hspl,hvl];simp only[Zyu]
     rcases Nat.decEq k i with hne|rfl
     ·rw[ZyC (fun e=>hne e.symm)]at hk;obtain⟨q1,q2⟩:=g5 k x hk;refine⟨q1,fun j c hj=>?_⟩;obtain⟨u,r1,r2,r3⟩:=q2 j c hj;have hjn:j<n':=by have:=(ZxN.1 hj).1;omega
      refine⟨u,(getn _ u).2 ?_,r2,r3⟩;rcases Nat.lt_or_gt_of_ne hne with hki|hki
      ·have:=ZaI (n:=n') hki
       rw[if_pos (by omega)];exact r1
      ·have:=ZaI (n:=n') hki
       rw[if_neg (by omega),if_neg (by omega)];exact r1
     ·rw[ZyA hilt]at hk;cases hk;refine⟨by rw[hset,Zat (by omega)];exact g6,fun j c hj=>?_⟩;rw[hset,Zao (by omega)]at hj;split at hj
      ·rename_i hjo;obtain⟨u,r1,r2,r3⟩:=g7 j c hj;exact⟨u,(getn _ u).2 (by rw[if_pos (by omega)];exact r1),r2,r3⟩
      ·rename_i hjo;split at hj
       ·rename_i hjo2;have hjl:j-off<(act.eval y).cells.size:=by omega
        refine⟨(act.eval y).cells[j-off],(getn _ _).2 ?_,k2 _ (Array.getElem_mem hjl),?_⟩
        ·rw[if_neg (by omega),if_pos (by omega),show(ρ s).o+k*n'+j-((ρ s).o+k*n'+off)=j-off by omega];exact Zys hjl
        ·have:=k3 (j-off) _ (.pv c) (Zys hjl) (by rw[hpg,hj];rfl)
         exact this.Zu5
       ·rename_i hjo2;obtain⟨u,r1,r2,r3⟩:=g7 j c hj;have hjn:j<n':=by have:=(ZxN.1 hj).1;omega
        exact⟨u,(getn _ u).2 (by rw[if_neg (by omega),if_neg (by omega)];exact r1),r2,r3⟩
   ·exact h.elim
  ·exact h.elim
 ·exact h.elim
end
end
section
section
variable {G:World→Prop}{P:Program}{N:Nat}{w0:World}{m0:Env w0}{pl:List Nat}{σ:AS}{ρ:Site→Loc}{m:Mem}{act:Act}{w:World}{o:Oper}{d:Nat}{K:AV→AS→Prop}
theorem RdA.Zwj {v:Value}{nn:Bool}{n:Nat}{xs:List PV}(h:RdA ρ m v (.pv (.lst nn n xs))):∃(a:Option Addr) (cap:Nat) (ds:Nat→List Value),v=.slice a xs.length cap∧xs.length≤cap∧cap≤9223372036854775807∧(a=none→cap=0)∧(∀A,a=some A→ZcL A)∧
  (∀(i:Nat) (x:PV),xs[i]?=some x→∃b o,a=some ⟨b,o,none⟩∧At m b (o+i*n) (ds i))∧(∀(i:Nat) (x:PV),xs[i]?=some x→(ds i).length=n∧x.cells.length=n∧∀d∈ds i,d.oneCell'=true)∧
  (∀(i:Nat) (x:PV) (j:Nat) (d:Value) (c:PV),xs[i]?=some x→(ds i)[j]?=some d→x.cells[j]?=some c→RdP m d c):=by
 cases h.Zu5 with
 |lst a cap _ _ _ ds h0 h1 h2 h3 h4 h5 h6 h7=>exact⟨a,cap,ds,rfl,h0,h1,h2,h3,h5,h6,h7⟩
theorem RdA.Zxu {v:Value}{n:Nat}{xs:List PV}(h:RdA ρ m v (.pv (.lst true n xs))){a:Option Addr}{len cap:Nat}(hv:v=.slice a len cap):a≠none:=by
 cases h.Zu5 with
 |lst a' cap' _ _ _ ds h0 h1 h2 h3 h4 h5 h6 h7=>cases hv;exact h4 rfl
theorem RdA.Zve {v:Value}{s:Site}{n lo len:Nat}(h:RdA ρ m v (.vec s n lo len)):(∃cap,v=.slice (some ⟨(ρ s).b,(ρ s).o+lo*n,none⟩) len cap∧len≤cap∧lo+cap≤(ρ s).cap∧(ρ s).real=true)∨(∃a,v=.slice a 0 0∧len=0∧∀A,a=some A→ZcL A):=by
 cases h with
 |vec _ _ _ _ cap h0 h1 h2=>exact .inl ⟨cap,rfl,h0,h1,h2⟩
 |vec0 _ _ _ a h=>exact .inr ⟨a,rfl,rfl,h⟩
theorem RdA.ZvM {v:Value}{nl:Option Bool}(h:RdA ρ m v (.pv (.emp nl))):∃a,v=.slice a 0 0∧(∀A,a=some A→ZcL A):=by
 cases h.Zu5 with
 |emp a _ h0 h1 h2=>exact⟨a,rfl,h2⟩
theorem Zrw {t n:Nat}{arr:Option Nat}{e:Nat}{x i:Operand}{x' i':Opd}(hx:opd x=some x')(hi:opd i=some i')(he:elemT P t=some (e,n,arr))(ho:o.op=.indexAddr t x i)(h:opWp (.ia n arr x' i') d K σ)(hS:Sat N w0 m0 pl σ ρ m act w):ResP G P σ ρ m o act w K:=by
 simp only[opWp]at h;have h1:=hS.opd hx;have h2:=hS.opd hi;split at h
 ·rename_i k z ez;rw[ez]at h2;have hz:=h2.Zvc;split at h
  ·
   have sl:∀(b q len cap:Nat) (a:AV),act.eval x=.slice (some ⟨b,q,none⟩) len cap→0≤z→z<len→RdA ρ m (.pointer (some ⟨b,q+z.toNat*n,none⟩)) a→K a σ→ResP G P σ ρ m o act w K:=by
    intro b q len cap a e0 z0 z1 k2 hK;refine .pure hS ?_ k2 hK;intro w' hst;unfold execOp;simp only[ho,e0,hz,Sem.run_bind,r_ia he b q len cap k z0 z1,Result.andThen_ok];rfl
   split at h
   ·rename_i nn n' xs ex;rw[ex]at h1;obtain⟨a,cap,ds,hv,l0,l1,l2,l3,l5,l6,l7⟩:=h1.Zwj;split at h
    ·rename_i z0;split at h
     ·rename_i y hy;obtain⟨rfl,hK⟩:=h;obtain⟨b,q,rfl,k1⟩:=l5 _ y hy;obtain⟨k2,k3,k4⟩:=l6 _ y hy;have hlt:=(ZxN.1 hy).1;exact sl b q _ cap _ hv z0 (by omega) (.pv _ _ (.ref b (q+z.toNat*n') y.cells _ k1 (by rw[k2,k3]) k4 (fun j u c q1 q2=>l7 _ y j u c hy q1 q2))) hK
     ·exact h.elim
    ·exact h.elim
   ·rename_i s n' lo len ex;rw[ex]at h1;obtain⟨rfl,z0,z1,hK⟩:=h;rcases h1.Zve with⟨cap,hv,c0,c1,c2⟩|⟨a,hv,c0,_⟩
    ·refine sl _ _ _ cap _ hv z0 z1 ?_ hK
     have:=RdA.elt (ρ:=ρ) (m:=m) s n' (lo+z.toNat) 0
     rwa [show(ρ s).o+(lo+z.toNat)*n'+0=(ρ s).o+lo*n'+z.toNat*n' by rw[Nat.add_mul];omega]at this
    ·omega
   ·exact h.elim
  ·rename_i l;obtain⟨z0,z1,h⟩:=h;have ar:∀(b q:Nat) (a:AV),act.eval x=.pointer (some ⟨b,q,none⟩)→RdA ρ m (.pointer (some ⟨b,q+z.toNat*n,none⟩)) a→K a σ→ResP G P σ ρ m o act w K:=by
    intro b q a e0 k2 hK;refine .pure hS ?_ k2 hK;intro w' hst;unfold execOp;simp only[ho,e0,hz,Sem.run_bind,ZpA he b q k z0 z1,Result.andThen_ok];rfl
   split at h
   ·rename_i cs ex;rw[ex]at h1;obtain⟨b,q,ds,hX,k1,k2,k3,k4⟩:=h1.Zv3;refine ar b q _ hX ?_ h.2;refine .pv _ _ (.ref b (q+z.toNat*n) (cs.drop (z.toNat*n)) (ds.drop (z.toNat*n)) (At.Zvm (fun j u hj=>?_)) (by simp[k2]) (fun u hu=>k3 u (List.mem_of_mem_drop hu)) (fun j u c q1 q2=>?_))
    ·rw[Zx3]at hj
     have:=k1.get _ u hj
     rwa [show q+z.toNat*n+j=q+(z.toNat*n+j) by omega]
    ·rw[Zx3]at q1 q2;exact k4 _ u c q1 q2
   ·rename_i s q ex;rw[ex]at h1;exact ar _ q _ h1.Zvk (.ptr s (q+z.toNat*n)) h
   ·rename_i s n' j q ex;rw[ex]at h1;refine ar _ _ _ h1.ZvN ?_ h
    have:=RdA.elt (ρ:=ρ) (m:=m) s n' j (q+z.toNat*n)
    rwa [show(ρ s).o+j*n'+(q+z.toNat*n)=(ρ s).o+j*n'+q+z.toNat*n by omega]at this
   ·exact h.elim
 ·exact h.elim
theorem ZmO {t n:Nat}{arr:Option Nat}{e:Nat}{c:Call}{x:Operand}{x':Opd}(hx:opd x=some x')(he:elemT P t=some (e,n,arr))(hc:c.callee=.builtin .len)(ha:c.args.toList=[x])(ht:c.argTypes.toList=[t])(ho:o.op=.call c)(h:opWp (.len arr x') d K σ)(hS:Sat N w0 m0 pl σ ρ m act w):ResP G P σ ρ m o act w K:=by
 simp only[opWp]at h;have h1:=hS.opd hx;have hargs:c.args=#[x]:=Zyv.1 (by simpa using ha);have htys:c.argTypes=#[t]:=Zyv.1 (by simpa using ht);have go:∀(L:Nat),(∀w:World,(Builtin.len_ #[t] o.type #[act.eval x]).run P w=.ok (.int .i64 L) w)→K (.pv (.int .i64 L)) σ→ResP G P σ ρ m o act w K:=by
  intro L k hK;refine .pure hS ?_ (.pv _ _ (.int _ _)) hK;intro w' hst;unfold execOp;simp only[ho];simp[resolve,hc,hargs,htys,invoke,builtin,k]
 split at h
 ·rename_i l;exact go l (fun w=>Zne he _ _) h
 ·split at h
  ·rename_i ex;rw[ex]at h1;obtain⟨a,cap,ds,hv,_⟩:=h1.Zwj;exact go _ (by intro w;rw[hv];exact r_len he _ _ _ _) h
  ·rename_i ex;rw[ex]at h1;obtain⟨a,hv,_⟩:=h1.ZvM;exact go 0 (by intro w;rw[hv];exact r_len he _ _ _ _) h
  ·rename_i s n' lo len ex;rw[ex]at h1;rcases h1.Zve with⟨cap,hv,c0,c1,c2⟩|⟨a,hv,c0,_⟩
   ·exact go _ (by intro w;rw[hv];exact r_len he _ _ _ _) h
   ·subst c0;exact go 0 (by intro w;rw[hv];exact r_len he _ _ _ _) h
  ·exact h.elim
theorem Zdr:∀{ps:List Opd} {xs:List PV},σ.pvs ps=some xs→ps.length=xs.length∧∀(j:Nat) (y:Opd),ps[j]?=some y→∃x,xs[j]?=some x∧σ.o y=.pv x
 |[],xs,h=>by simp[AS.pvs]at h;subst h;exact⟨rfl,fun j x k=>by simp at k⟩
 |a::r,xs,h=>by
  unfold AS.pvs at h;split at h
  ·rename_i x l h1 h2;cases h;obtain⟨k1,k2⟩:=Zdr h2;refine⟨by simp[k1],fun j y k=>?_⟩;cases j with
   |zero=>simp at k;subst k;exact⟨x,rfl,h1⟩
   |succ j=>simpa using k2 j y (by simpa using k)
  ·cases h
theorem ZmN {f:FuncId}{fs cs:Array Operand}{fs' cs':List Opd}(hf:opds fs.toList=some fs')(hc:opds cs.toList=some cs')(ho:o.op=.makeFunc (.func f) fs cs)(h:opWp (.mkf f fs' cs') d K σ)(hS:Sat N w0 m0 pl σ ρ m act w):ResP G P σ ρ m o act w K:=by
 simp only[opWp]at h;obtain⟨f1,f2⟩:=ZbK hf;obtain⟨c1,c2⟩:=ZbK hc;have hr:∀w',G w'→(execOp act.eval o).run P w'=.ok (.value (.func (.func f) (fs.map act.eval) (cs.map act.eval))) w':=by
  intro w' hst;unfold execOp;simp only[ho];rfl
 have hget:∀(l:Array Operand) (l':List Opd),(∀(j:Nat) (x:Operand),l.toList[j]?=some x→∃y:Opd,l'[j]?=some y∧opd x=some y)→∀(j:Nat) (u:Value),(l.map act.eval)[j]?=some u→∃y:Opd,l'[j]?=some y∧RdA ρ m u (σ.o y):=by
  intro l l' hl j u hu;rw[Array.getElem?_map]at hu;obtain⟨x,k1,rfl⟩:=ZxP.1 hu;obtain⟨y,k2,k3⟩:=hl j x (by simpa using k1);exact⟨y,k2,hS.opd k3⟩
 split at h
 ·rename_i a b ea eb;obtain⟨a1,a2⟩:=Zdr ea;obtain⟨b1,b2⟩:=Zdr eb;refine .pure hS hr (.pv _ _ (.fn f _ _ a b (by simp;simpa using f1.trans a1) (by simp;simpa using c1.trans b1) (fun j u c q1 q2=>?_) (fun j u c q1 q2=>?_))) h
  ·obtain⟨y,k1,k2⟩:=hget fs fs' f2 j u q1;obtain⟨x,k3,k4⟩:=a2 j y k1;rw[q2]at k3;cases k3;rw[k4]at k2;exact k2.Zu5
  ·obtain⟨y,k1,k2⟩:=hget cs cs' c2 j u q1;obtain⟨x,k3,k4⟩:=b2 j y k1;rw[q2]at k3;cases k3;rw[k4]at k2;exact k2.Zu5
 ·refine .pure hS hr (.fn f _ _ _ _ (by simp;simpa using f1) (by simp;simpa using c1) (fun j u c q1 q2=>?_) (fun j u c q1 q2=>?_)) h
  ·obtain⟨y,k1,k2⟩:=hget fs fs' f2 j u q1;rw[ZxM,k1]at q2;cases q2;exact k2
  ·obtain⟨y,k1,k2⟩:=hget cs cs' c2 j u q1;rw[ZxM,k1]at q2;cases q2;exact k2
theorem Zok {place:Nat→Option (Nat×Nat)}{pls:List (Nat×Nat)}(hpl:∀(i:Nat) (p:Nat×Nat),pls[i]?=some p→place i=some p):∀(ps:List (Nat×Operand)) (qs:List (Nat×Nat×Opd)) (cells:Array Value) (l l':List AV),Zgm pls ps=some qs→fillA σ l qs=some l'→Sat N w0 m0 pl σ ρ m act w→
  cells.size=l.length→(∀u∈cells,u.oneCell'=true)→(∀(j:Nat) (u:Value) (c:AV),cells[j]?=some u→l[j]?=some c→RdA ρ m u c)→
  ∃r,Instr.fill place cells (ps.map fun p=>(p.1,act.eval p.2))=some r∧r.size=l'.length∧(∀u∈r,u.oneCell'=true)∧∀(j:Nat) (u:Value) (c:AV),r[j]?=some u→l'[j]?=some c→RdA ρ m u c
 |[],qs,cells,l,l',hq,hl,hS,h0,h1,h2=>by
  simp[Zgm]at hq;subst hq;simp[fillA]at hl;subst hl;exact⟨cells,rfl,h0,h1,h2⟩
 |(i,x)::r,qs,cells,l,l',hq,hl,hS,h0,h1,h2=>by
  unfold Zgm at hq;split at hq
  ·rename_i off n y l0 e1 e2 e3;cases hq;unfold fillA at hl;split at hl
   ·rename_i hc;obtain⟨c1,c2,c3⟩:=hc;obtain⟨k1,k2,k3⟩:=Za6 (hS.opd e2) c3;obtain⟨g1,g2⟩:=Great.foldl_set off (act.eval x).cells.toList 0 cells;have hfold:((act.eval x).cells.zipIdx.foldl (fun cs (p:Value×Nat)=>cs.setIfInBounds (off+p.2) p.1) cells)=(((act.eval x).cells.toList.zipIdx 0).foldl (fun cs (p:Value×Nat)=>cs.setIfInBounds (off+p.2) p.1) cells):=by
     rw[←Array.foldl_toList,Array.toList_zipIdx]
    generalize hC:(((act.eval x).cells.toList.zipIdx 0).foldl (fun cs (p:Value×Nat)=>cs.setIfInBounds (off+p.2) p.1) cells)=C at *;have gC:∀j,C[j]?=if off≤j∧j<off+n then(act.eval x).cells[j-off]? else cells[j]?:=fun j=>by
     rw[g2 j,Zyf,k1,c1,Nat.add_zero,Zyu];by_cases hj:off≤j∧j<off+n
     ·rw[if_pos hj,if_pos ⟨hj.1,hj.2,by omega⟩]
     ·rw[if_neg hj,if_neg (fun e=>hj ⟨e.1,e.2.1⟩)]
    obtain⟨r',q1,q2,q3,q4⟩:=Zok hpl r l0 C _ l' e3 hl hS (by rw[Zat (by omega)];omega) (fun u hu=>by
     obtain⟨j,hj⟩:=Array.mem_iff_getElem?.1 hu;rw[gC j]at hj;split at hj
     ·exact k2 u (Array.mem_of_getElem? hj)
     ·exact h1 u (Array.mem_of_getElem? hj)) (fun j u c a1 a2=>by
     rw[gC j]at a1;rw[Zao (by omega)]at a2;split at a1
     ·rename_i hj;rw[if_neg (by omega),if_pos (by omega)]at a2;exact k3 _ u c a1 a2
     ·rename_i hj;by_cases hj2:j<off
      ·rw[if_pos hj2]at a2;exact h2 j u c a1 a2
      ·rw[if_neg hj2,if_neg (by omega)]at a2;exact h2 j u c a1 a2)
    refine⟨r',?_,q2,q3,q4⟩;rw[ZxZ];unfold Instr.fill;simp only[hpl _ _ e1];rw[if_neg (by simp;omega),hfold];exact q1
   ·cases hl
  ·cases hq
end
end
section
section
variable {G:World→Prop}{P:Program}{N:Nat}{w0:World}{m0:Env w0}{pl:List Nat}{σ:AS}{ρ:Site→Loc}{m:Mem}{act:Act}{w:World}{o:Oper}{d:Nat}{K:AV→AS→Prop}
theorem Zcm {t:TypeId}{z:Value}(h:zeroT P t=some z):∃i,P.info? t=some i∧i.zero=some z:=by
 unfold zeroT at h;cases hx:P.info? t with
 |none=>simp[hx]at h
 |some i=>exact⟨i,rfl,by simpa[hx]using h⟩
theorem Zcr {t:TypeId}{n:Nat}(h:sizeT P t=some n):∃i,P.info? t=some i∧i.size=n:=by
 unfold sizeT at h;cases hx:P.info? t with
 |none=>simp[hx]at h
 |some i=>exact⟨i,rfl,by simpa[hx]using h⟩
theorem Zh2 {t:Nat}{ps:Array (Nat×Operand)}{z:PV}{pls:List (Nat×Nat)}{qs:List (Nat×Nat×Opd)}(hz:ZaN P t=some z)(hp:Zjp P t=some pls)(hq:Zgm pls ps.toList=some qs)(ho:o.op=.build t ps)(h:opWp (.build z qs) d K σ)(hS:Sat N w0 m0 pl σ ρ m act w):ResP G P σ ρ m o act w K:=by
 simp only[opWp]at h;split at h
 ·rename_i l hl;unfold ZaN at hz;cases hv:zeroT P t with
  |none=>simp[hv]at hz
  |some v=>
   simp only[hv,Option.bind_some]at hz;obtain⟨k1,k2,k3⟩:=Zb1 hz m;obtain⟨it,hi1,hi2⟩:=Zcm hv;have fin:∀place:Nat→Option (Nat×Nat),(∀(i:Nat) (p:Nat×Nat),pls[i]?=some p→place i=some p)→(∀r,Instr.fill place v.cells (ps.toList.map fun p=>(p.1,act.eval p.2))=some r→P.built t (ps.map fun(i,x)=>(i,act.eval x)).toList=some r)→ResP G P σ ρ m o act w K:=by
    intro place hpl hb;obtain⟨r,q1,q2,q3,q4⟩:=Zok hpl ps.toList qs v.cells _ l hq hl hS (by simpa using k1) k2 (fun j u c a1 a2=>by
     rw[ZxM]at a2;obtain⟨x,a3,rfl⟩:=ZxP.1 a2;exact .pv _ _ (k3 j u x a1 a3))
    refine .pure hS (v:=.agg r) ?_ (Zcw q2 q3 q4) h;intro w' hst;unfold execOp;simp only[ho,Sem.run_bind];rw[run_build w' t _ r (hb r q1)];rfl
   unfold Zjp at hp;split at hp
   ·rename_i fs hu;have hp':fs.toList.mapM (fun f=>(P.info? f.type).map fun i=>(f.offset,i.size))=some pls:=by
     rw[←hp];congr 1;funext f;unfold sizeT;cases P.info? f.type<;>rfl
    refine fin (pls.toArray[·]?) (fun i p e=>by simpa using e) (fun r hr=>?_);unfold Program.built;simp only[hi1,hu,hi2,hp',Array.toList_map];exact hr
   ·rename_i l' e hu;cases hs:sizeT P e with
    |none=>simp[hs]at hp
    |some n=>
     simp only[hs,Zyq,Option.some.injEq]at hp;obtain⟨ie,hie1,hie2⟩:=Zcr hs;refine fin (fun i=>some (i*n,n)) (fun i p e=>?_) (fun r hr=>?_)
     ·rw[←hp,ZxM]at e;obtain⟨j,e1,rfl⟩:=ZxP.1 e
      have:j=i:=by
       rw[List.getElem?_range]at e1
       ·cases e1;rfl
       ·have:=(ZxN.1 e1).1;simpa using this
      rw[this]
     ·unfold Program.built;simp only[hi1,hu,hi2,hie1,hie2,Array.toList_map];exact hr
   ·cases hp
 ·exact h.elim
theorem ZmP {t f:Nat}{fs:Array Field}{fl:Field}{n:Nat}{x:Operand}{x':Opd}(hx:opd x=some x')(hu:P.underlying t=some (.struct fs))(hf:fs[f]?=some fl)(hs:sizeT P fl.type=some n)(hu2:(P.underlying fl.type).isSome=true)(ho:o.op=.field t x f)(h:opWp (.fld (rowT P fl.type) fl.offset n x') d K σ)(hS:Sat N w0 m0 pl σ ρ m act w):ResP G P σ ρ m o act w K:=by
 obtain⟨dd,hd⟩:=Option.isSome_iff_exists.1 hu2;simp only[opWp]at h;have h1:=hS.opd hx;have wide:(σ.o x').wide=true→∃vs,act.eval x=.agg vs:=by
  intro hw;generalize σ.o x'=a at h1 hw;generalize act.eval x=v at h1;cases h1 with
  |agg vs=>exact⟨vs,rfl⟩
  |pv v x h2=>cases h2 with
   |agg vs=>exact⟨vs,rfl⟩
   |_=>cases hw
  |_=>cases hw
 have run:∀vs,act.eval x=.agg vs→∀v,(∀w:World,(part fl.type vs fl.offset).run P w=.ok v w)→∀w',G w'→(execOp act.eval o).run P w'=.ok (.value v) w':=by
  intro vs e v k;intro w' hst;unfold execOp;simp only[ho,e,Sem.run_bind];simp[Instr.field,run_underlying hu,hf,asAgg,k]
 split at h
 ·rename_i hr;obtain⟨c1,c2,hK⟩:=h;obtain⟨vs,hv⟩:=wide c2;obtain⟨k1,k2,k3⟩:=Za6 h1 (.inl c2);rw[hv]at k1 k2 k3;have hsz:(vs.extract fl.offset (fl.offset+n)).size=n:=by simp[Value.cells]at k1;simp;omega
  have hget:∀j,(vs.extract fl.offset (fl.offset+n))[j]?=if j<n then vs[fl.offset+j]? else none:=fun j=>by
   rw[Array.getElem?_extract];simp only[Value.cells]at k1;by_cases hj:j<n
   ·rw[if_pos (by omega),if_pos hj]
   ·rw[if_neg (by omega),if_neg hj]
  refine .pure hS (v:=.agg (vs.extract fl.offset (fl.offset+n))) (run vs hv _ ?_) (Zcw (by rw[hsz,ZxT,Zyn];omega) (fun u hu'=>?_) (fun j u c q1 q2=>?_)) hK
  ·intro w;simp only[part,Sem.run_bind,Zfk hd,Result.andThen_ok,hr,if_true,run_sizeOf hs];rfl
  ·obtain⟨j,hj⟩:=Array.mem_iff_getElem?.1 hu';rw[hget]at hj;split at hj
   ·exact k2 u (Array.mem_of_getElem? hj)
   ·cases hj
  ·rw[hget]at q1;rw[Zx1]at q2;split at q1
   ·rename_i hj;rw[if_pos hj,Zx3]at q2;exact k3 _ u c q1 q2
   ·cases q1
 ·rename_i hr;split at h
  ·rename_i a ha;obtain⟨c2,hK⟩:=h;obtain⟨vs,hv⟩:=wide c2;obtain⟨k1,k2,k3⟩:=Za6 h1 (.inl c2);rw[hv]at k1 k2 k3;have hlt:fl.offset<vs.size:=by
    have:=(ZxN.1 ha).1
    simp[Value.cells]at k1;omega
   refine .pure hS (v:=vs[fl.offset]) (run vs hv _ ?_) (k3 _ _ a (Zys hlt) ha) hK;intro w;simp only[part,Sem.run_bind,Zfk hd,Result.andThen_ok,hr,if_false,Bool.false_eq_true];simp[Zys hlt]
  ·exact h.elim
theorem ZkW {s s':Site}{b b':Box}(h:(σ.set s b).b s'=some b'):(s'=s∧b'=b)∨(s'≠s∧σ.b s'=some b'):=by
 rw[AS.Zwy]at h;split at h
 ·rename_i e;cases h;exact .inl ⟨e,rfl⟩
 ·rename_i e;exact .inr ⟨e,h⟩
theorem Sat.Zw9 (h:Sat N w0 m0 pl σ ρ m act w){s:Site}{b box:Box}(hs:σ.b s=some b)(hb:RdB ρ m w s box)(hq:∀k,blk ρ w s box k→blk ρ w s b k):Sat N w0 m0 pl (σ.set s box) ρ m act w:=by
 have g:∀s' b' k,(σ.set s box).b s'=some b'→blk ρ w s' b' k→∃c,σ.b s'=some c∧blk ρ w s' c k:=fun s' b' k h1 h2=>by
  rcases ZkW h1 with⟨rfl,rfl⟩|⟨_,h1⟩
  ·exact⟨b,hs,hq k h2⟩
  ·exact⟨b',h1,h2⟩
 refine⟨h.nod,h.sz,h.tm,fun s' b' k=>?_,fun s1 s2 b1 b2 k k1 k2 r1 r2=>?_,h.mem,fun s' b' k k1 r1=>?_,fun s' b' k k1 r1=>?_,h.keep,h.base,h.fro,h.par⟩
 ·rcases ZkW k with⟨rfl,rfl⟩|⟨_,k⟩
  ·exact hb
  ·exact h.bx s' b' k
 ·obtain⟨c1,g1,q1⟩:=g s1 b1 k k1 r1;obtain⟨c2,g2,q2⟩:=g s2 b2 k k2 r2;exact h.injk s1 s2 c1 c2 k g1 g2 q1 q2
 ·obtain⟨c1,g1,q1⟩:=g s' b' k k1 r1;exact h.offk s' c1 k g1 q1
 ·obtain⟨c1,g1,q1⟩:=g s' b' k k1 r1;exact h.ownk s' c1 k g1 q1
theorem Sat.congr {σ':AS}(h:Sat N w0 m0 pl σ ρ m act w)(ht:∀t,σ'.t t=σ.t t)(hb:∀s,σ'.b s=σ.b s):Sat N w0 m0 pl σ' ρ m act w:=
 ⟨h.nod,h.sz,fun t a k=>h.tm t a (ht t▸k),fun s b k=>h.bx s b (hb s▸k),fun s s' b b' k k1 k2=>h.injk s s' b b' k (hb s▸k1) (hb s'▸k2),h.mem,fun s b k k1=>h.offk s b k (hb s▸k1),fun s b k k1=>h.ownk s b k (hb s▸k1),h.keep,h.base,h.fro,h.par⟩
theorem NoD.od {d:Nat}{τ:AS}(h:NoD d τ)(y:Opd):(τ.o y).has d=false:=by
 cases y with
 |c x=>rfl
 |t k=>
  show((τ.t k).getD .any).has d=false;cases hk:τ.t k with
  |none=>rfl
  |some a=>exact h.t k a hk
theorem ZlH {t e n len:Nat}{ps:Array (Nat×Operand)}{qs:List Opd}(he:elemT P t=some (e,n,none))(hq:opds (ps.toList.map (·.2))=some qs)(hi:ps.toList.map (·.1)=List.range len)(hn:0<n)(hsm:len*n≤2^24)(hz:(zeroT P e).isSome=true)(ho:o.op=.buildSlice t len ps)(h:opWp (.bslice e n qs) d K σ)(hS:Sat N w0 m0 pl σ ρ m act w):Res P N w0 m0 pl o act w K:=by
 simp only[opWp]at h;obtain⟨hu,hs⟩:=ZaV he;obtain⟨ie,hie1,hie2⟩:=Zcr hs;obtain⟨z,hz⟩:=Option.isSome_iff_exists.1 hz;obtain⟨i2,hz1,hz2⟩:=Zcm hz;rw[hie1]at hz1;cases hz1;obtain⟨q1,q2⟩:=ZbK hq;rw[ZxS]at q1;have hlen:ps.toList.length=len:=by
  have:=congrArg List.length hi
  simpa using this
 obtain⟨m',hm',hF⟩:=Sat.ZwT qs hS;split at h
 ·rename_i hp;obtain⟨p1,_⟩:=Zdr hp;have h0:len=0:=by rw[List.length_nil]at p1;omega
  subst h0;have hps:ps=#[]:=by
   have:ps.toList=[]:=ZyG hlen
   exact Zyv.1 (by simpa using this)
  have hr:(execOp act.eval o).run P w=.ok (.value (.slice (some ⟨w.heap.size,0,none⟩) 0 0)) (w.alloc (.cells #[] e)):=by
   unfold execOp;simp only[ho,hps,Sem.run_bind];simp[Instr.buildSlice,run_underlying hu,run_sizeOf hs,Instr.fill,newRow];rw[show Array.map (fun _=>(default:Value)) (Array.range 0)=#[] from Array.eq_empty_of_size_eq_zero (by simp)]
  exact⟨_,_,_,_,ρ,m,.inl hr,h,hS.ext (Ext.al w _),.pv _ _ (.emp _ _ (fun e=>(by cases e)) (fun _=>by simp) (fun A hA=>by cases hA;rfl)),fun _=>Ext.al _ _⟩
 ·rename_i xs hp hxs;obtain⟨hx,hK⟩:=h;obtain⟨p1,p2⟩:=Zdr hxs;have hxl:xs.length=len:=by omega
  have hval:∀(j:Nat) (p:Nat×Operand),ps.toList[j]?=some p→p.1=j∧∃x,xs[j]?=some x∧RdP m' (act.eval p.2) x:=fun j p hj=>by
   have hlt:=(ZxN.1 hj).1;have h1:(ps.toList.map (·.1))[j]?=some p.1:=by rw[ZxM,hj];rfl
   rw[hi,List.getElem?_range (by omega)]at h1;obtain⟨y,k1,k2⟩:=q2 j p.2 (by rw[ZxM,hj];rfl);obtain⟨x,k3,k4⟩:=p2 j y k1;have k5:=hF.opd k2;rw[k4]at k5;exact⟨(Option.some.inj h1).symm,x,k3,k5.Zu5⟩
  let vs:List Value:=ps.toList.map fun p=>act.eval p.2
  have hvs:∀(j:Nat) (v:Value),vs[j]?=some v→∃x,xs[j]?=some x∧RdP m' v x:=fun j v hj=>by
   rw[ZxM]at hj;obtain⟨p,k1,rfl⟩:=ZxP.1 hj;exact(hval j p k1).2
  have hpart:(ps.map fun(i,x)=>(i,act.eval x)).toList=(vs.zipIdx 0).map fun x=>(x.2,x.1):=by
   apply List.ext_getElem?;intro j;rw[Array.toList_map,ZxM,ZxM,List.getElem?_zipIdx,ZxM];cases hj:ps.toList[j]? with
   |none=>simp
   |some p=>simp[(hval j p hj).1]
  have hvn:∀v∈vs,v.cells.size=n∧(∀u∈v.cells,u.oneCell'=true):=fun v hv=>by
   obtain⟨j,hj⟩:=ZxV.1 hv;obtain⟨x,k1,k2⟩:=hvs j v hj;obtain⟨k3,k4⟩:=hx x (ZxQ k1);obtain⟨k5,k6,k7⟩:=Za6 (RdA.pv (ρ:=ρ) v x k2) k4
   have:(AV.pv x).cells.length=x.cells.length:=by cases x<;>simp[AV.cells,PV.cells]
   exact⟨by omega,k6⟩
  have hlv:vs.length=len:=by simp[vs];simpa using hlen
  have hpos:¬len*n=0:=by
   intro e;rcases Nat.mul_eq_zero.1 e with e|e
   ·rw[e]at hxl
    have:xs=[]:=ZyG hxl
    exact hp this
   ·omega
  obtain⟨r,f1,f2,f3⟩:=Great.fill_dense (s:=n) hn vs 0 ((Array.range (len*n)).map (z.cells[·%z.cells.size]!)) (fun v hv=>(hvn v hv).1) (by simp[hlv]);have f2':r.size=len*n:=by rw[f2];simp
  have hr:(execOp act.eval o).run P w=.ok (.value (.slice (some ⟨w.heap.size,0,none⟩) len len)) (w.alloc (.cells r e)):=by
   unfold execOp;simp only[ho,Sem.run_bind];rw[run_buildSlice w t e len _ r ie z hu hie1 hz2 (by rw[hie2];omega) (by rw[hie2];exact hpos) (by rw[hie2,hpart];exact f1)];rfl
  have hP:=hF.Zu0 d;have hul:=ZaL ρ (.loc d 0) ⟨w.heap.size,0,len,true⟩;refine⟨_,_,_,_,_,m',.inl hr,hK,hP.new d 0 (NoD.Zu0 d _) r e len ?_,?_,fun _=>Ext.al _ _⟩
  ·refine⟨hn,.inr ⟨by rw[hul],r,by rw[hul];exact heap_alloc_new w _,by rw[hul];simp[f2'],by rw[hul];simp;omega,by
    rw[hul]
    have:len≤len*n:=Nat.le_mul_of_pos_right _ hn
    simp only[maxLen];omega,fun i x hi=>?_⟩⟩
   obtain⟨k3,k4⟩:=hx x (ZxQ hi);refine⟨k3,fun j c hj=>?_⟩;have hjn:j<n:=by have:=(ZxN.1 hj).1;omega
   have hil:i<len:=by have:=(ZxN.1 hi).1;omega
   have hiv:i<vs.length:=by omega
   obtain⟨x',k1,k2⟩:=hvs i _ (ZxL hiv);rw[hi]at k1;cases k1;obtain⟨k5,k6,k7⟩:=Za6 (RdA.pv (ρ:=ρ) _ x k2) k4;have k8:=(hvn _ (Zyh hiv)).1;have hjv:j<vs[i].cells.size:=by omega
   have hdiv:(i*n+j) / n=i:=by rw[Nat.add_comm,Nat.add_mul_div_right _ _ hn,Nat.div_eq_of_lt hjn,Zyj]
   have hmod:(i*n+j)%n=j:=by rw[Nat.add_comm,Nat.add_mul_mod_self_right,Nat.mod_eq_of_lt hjn]
   refine⟨vs[i].cells[j],?_,k6 _ (Array.getElem_mem hjv),?_⟩
   ·rw[hul];have hlt:i*n+j<(0+vs.length)*n:=by
     have:=ZaI (n:=n) hil
     rw[Zyj,hlv];omega
    show r[0+i*n+j]?=_;rw[Zyj,f3,if_pos ⟨by omega,hlt⟩,hdiv,hmod,Nat.sub_zero,ZxL hiv,Option.bind_some,Zys hjv]
   ·have:=k7 j _ (.pv c) (Zys hjv) (by
     cases x<;>simp only[AV.cells,PV.cells,ZxM]at hj ⊢
     all_goals (first|(rw[hj];rfl)|(cases j<;>simp at hj ⊢;exact hj)))
    exact this.Zu5
  ·rw[hxl]
   have:=RdA.vec (ρ:=upd ρ (.loc d 0) ⟨w.heap.size,0,len,true⟩) (m:=m') (.loc d 0) n 0 len len (ZxR _) (by rw[hul];simp) (by rw[hul])
   rw[hul]at this;simpa using this
 ·obtain⟨⟨rfl,hpos,hone⟩,hK⟩:=h;have hP:=hS.Zu0 d;rw[Nat.mul_one]at hsm;have hlq:qs.length=len:=by omega
  let vs:List Value:=ps.toList.map fun p=>act.eval p.2
  have hlv:vs.length=len:=by simp[vs];simpa using hlen
  have hvs:∀(j:Nat) (v:Value),vs[j]?=some v→∃y,qs[j]?=some y∧RdA ρ m v ((σ.Zu0 d).o y)∧v.oneCell'=true:=fun j v hj=>by
   rw[ZxM]at hj;obtain⟨p,k1,rfl⟩:=ZxP.1 hj;obtain⟨y,k2,k3⟩:=q2 j p.2 (by rw[ZxM,k1];rfl);have k4:=hP.opd k3;exact⟨y,k2,k4,k4.one (hone y (ZxQ k2))⟩
  have hpart:(ps.map fun(i,x)=>(i,act.eval x)).toList=(vs.zipIdx 0).map fun x=>(x.2,x.1):=by
   apply List.ext_getElem?;intro j;rw[Array.toList_map,ZxM,ZxM,List.getElem?_zipIdx,ZxM];cases hj:ps.toList[j]? with
   |none=>simp
   |some p=>
    have hlt:=(ZxN.1 hj).1;have h1:(ps.toList.map (·.1))[j]?=some p.1:=by rw[ZxM,hj];rfl
    rw[hi,List.getElem?_range (by omega)]at h1;simp[(Option.some.inj h1).symm]
  have hcell:∀v∈vs,v.cells=#[v]:=fun v hv=>by
   obtain⟨j,hj⟩:=ZxV.1 hv;obtain⟨y,_,_,k3⟩:=hvs j v hj;cases v<;>first|rfl|cases k3
  obtain⟨r,f1,f2,f3⟩:=Great.fill_dense (s:=1) hn vs 0 ((Array.range (len*1)).map (z.cells[·%z.cells.size]!)) (fun v hv=>by rw[hcell v hv];rfl) (by simp[hlv]);have f2':r.size=len:=by rw[f2];simp
  have hr:(execOp act.eval o).run P w=.ok (.value (.slice (some ⟨w.heap.size,0,none⟩) len len)) (w.alloc (.cells r e)):=by
   unfold execOp;simp only[ho,Sem.run_bind];rw[run_buildSlice w t e len _ r ie z hu hie1 hz2 (by rw[hie2];omega) (by rw[hie2];omega) (by rw[hie2,hpart];exact f1)];rfl
  have hget:∀i,i<len→∃v y,r[i]?=some v∧qs[i]?=some y∧RdA ρ m v ((σ.Zu0 d).o y)∧v.oneCell'=true:=fun i hil=>by
   have hiv:i<vs.length:=by omega
   obtain⟨y,k1,k2,k3⟩:=hvs i _ (ZxL hiv);refine⟨vs[i],y,?_,k1,k2,k3⟩;rw[f3,if_pos ⟨by omega,by omega⟩,Nat.div_one,Nat.mod_one,Nat.sub_zero,ZxL hiv,Option.bind_some,hcell _ (Zyh hiv)];rfl
  have hul:=ZaL ρ (.loc d 0) ⟨w.heap.size,0,len,true⟩;have hρ:=Zfa ρ d 0 ⟨w.heap.size,0,len,true⟩;have hNd:=NoD.Zu0 d σ;have hrd:∀(i:Nat) (y:Opd) (v:Value),qs[i]?=some y→RdA ρ m v ((σ.Zu0 d).o y)→RdA (upd ρ (.loc d 0) ⟨w.heap.size,0,len,true⟩) m v ((σ.Zu0 d).o y):=fun i y v _ k=>k.mono (Le.refl m) hρ (hNd.od y)
  have hnone:∀W l i k,insAt W l (qs.map fun y=>RowE.av ((σ.Zu0 d).o y)) i≠some k:=fun W l i k hk=>by
   obtain⟨ys,cs2,T,t',A,le,cap,k1,_⟩:=ZfO hk;rw[ZxM]at k1;obtain⟨_,_,k5⟩:=ZxP.1 k1;cases k5
  have hB1:RdB (upd ρ (.loc d 0) ⟨w.heap.size,0,len,true⟩) m (w.alloc (.cells r e)) (.loc d 0) (.cells (qs.map fun y=>(σ.Zu0 d).o y)):=by
   refine⟨by rw[hul],r,e,by rw[hul];exact heap_alloc_new w _,by rw[ZxS,f2',hlq],fun i c a k1 k2=>?_⟩;rw[ZxM]at k2;obtain⟨y,k3,k4⟩:=ZxP.1 k2;cases k4;obtain⟨v,y',g1,g2,g3,g4⟩:=hget i (by have:=(ZxN.1 k3).1;omega);rw[k3]at g2;cases g2;rw[k1]at g1;cases g1;exact⟨g4,hrd i y c k3 g3⟩
  have hB2:RdB (upd ρ (.loc d 0) ⟨w.heap.size,0,len,true⟩) m (w.alloc (.cells r e)) (.loc d 0) (.rows e e 1 (qs.map fun y=>.av ((σ.Zu0 d).o y))):=by
   refine⟨by omega,.inr ⟨by rw[hul],r,by rw[hul];exact heap_alloc_new w _,by rw[hul];simp[f2'],by rw[hul];simp[hlq],by rw[hul];simp only[maxLen];omega,fun i a k=>?_,fun i ys k=>?_,fun i j k h1=>absurd h1 (hnone _ _ i k),fun i k h1=>absurd h1 (hnone _ _ i k)⟩⟩
   ·rw[ZxM]at k;obtain⟨y,k1,k2⟩:=ZxP.1 k;cases k2;obtain⟨v,y',g1,g2,g3,g4⟩:=hget i (by have:=(ZxN.1 k1).1;omega);rw[k1]at g2;cases g2;exact⟨v,by rw[hul];simpa using g1,g4,hrd i y v k1 g3⟩
   ·rw[ZxM]at k;obtain⟨_,_,k2⟩:=ZxP.1 k;cases k2
  have hnew:=hP.new d 0 hNd r e len hB1;have hfin:=hnew.Zw9 (box:=.rows e e 1 (qs.map fun y=>.av ((σ.Zu0 d).o y))) (by rw[AS.Zv9,if_pos rfl]) hB2 (fun k hk=>by
   rcases hk with hk|hk
   ·exact .inl hk
   ·obtain⟨i,hi⟩:=Zeo.1 hk;exact absurd hi (hnone _ _ i k))
  refine⟨_,_,_,_,upd ρ (.loc d 0) ⟨w.heap.size,0,len,true⟩,m,.inl hr,hK,?_,?_,fun _=>Ext.al _ _⟩
  ·refine hfin.congr (fun _=>rfl) fun s=>?_
   rw[AS.Zwy,AS.Zv9,AS.Zv9]
   split<;>rfl
  ·rw[hlq]
   have:=RdA.vec (ρ:=upd ρ (.loc d 0) ⟨w.heap.size,0,len,true⟩) (m:=m) (.loc d 0) 1 0 len len (ZxR _) (by rw[hul];simp) (by rw[hul])
   rw[hul]at this;simpa using this
end
end
section
structure Flat (m:Mem)(ds:List Value)(n:Nat)(xs:List PV):Prop where
 len:ds.length=xs.length*n
 one:∀u∈ds,u.oneCell'=true
 get:∀(i:Nat) (x:PV),xs[i]?=some x→x.cells.length=n∧∀(j:Nat) (c:PV),x.cells[j]?=some c→∃u,ds[i*n+j]?=some u∧RdP m u c
theorem Flat.app {m:Mem}{ds es:List Value}{n:Nat}{xs ys:List PV}(h:Flat m ds n xs)(k:Flat m es n ys):Flat m (ds++es) n (xs++ys):=by
 refine⟨by rw[ZxU,h.len,k.len,ZxU,Nat.add_mul],fun u hu=>by
  rcases Zyp.1 hu with h'|h'
  ·exact h.one u h'
  ·exact k.one u h',fun i x hi=>?_⟩
 rw[Zyl]at hi;split at hi
 ·rename_i hlt;obtain⟨k1,k2⟩:=h.get i x hi;refine⟨k1,fun j c hj=>?_⟩;obtain⟨u,k3,k4⟩:=k2 j c hj;exact⟨u,by rw[List.getElem?_append_left (ZxN.1 k3).1];exact k3,k4⟩
 ·rename_i hlt;obtain⟨k1,k2⟩:=k.get _ x hi;refine⟨k1,fun j c hj=>?_⟩;obtain⟨u,k3,k4⟩:=k2 j c hj;have e:i*n=ds.length+(i-xs.length)*n:=by rw[h.len,←Nat.add_mul];congr 1;omega
  exact⟨u,by rw[List.getElem?_append_right (by omega),show i*n+j-ds.length=(i-xs.length)*n+j by omega];exact k3,k4⟩
theorem Flat.nil (m:Mem)(n:Nat):Flat m [] n []:=⟨by simp,(fun u h=>by cases h),(fun i x h=>by simp at h)⟩
def Cont (m:Mem)(w:World)(v:Value)(n:Nat)(xs:List PV):Prop:=
 ∃(a:Option Addr) (cap:Nat) (ds:List Value),v=.slice a xs.length cap∧Flat m ds n xs∧∀(k:Nat) (u:Value),ds[k]?=some u→∃b o,a=some ⟨b,o,none⟩∧w.cell? ⟨b,o+k,none⟩=some u
section
variable {P:Program}{N:Nat}{w0:World}{m0:Env w0}{pl:List Nat}{σ:AS}{ρ:Site→Loc}{m:Mem}{act:Act}{w:World}{o:Oper}{d:Nat}{K:AV→AS→Prop}
theorem ZcF {k n L:Nat}(h:k<L*n)(hn:0<n):k / n<L∧k%n<n∧k / n*n+k%n=k:=by
 refine⟨Nat.div_lt_of_lt_mul (by rw[Nat.mul_comm];exact h),Nat.mod_lt _ hn,?_⟩;rw[Nat.mul_comm];exact Nat.div_add_mod k n
theorem ZqG {v:Value}{nn:Bool}{n:Nat}{xs:List PV}(hn:0<n)(hw:Le m w.mem)(h:RdA ρ m v (.pv (.lst nn n xs))):Cont m w v n xs:=by
 obtain⟨a,cap,ds,hv,l0,l1,l2,l3,l5,l6,l7⟩:=h.Zwj;have hL:∀k,k<xs.length*n→∃u,(ds (k / n))[k%n]?=some u:=fun k hk=>by
  obtain⟨h1,h2,h3⟩:=ZcF hk hn;obtain⟨k1,_,_⟩:=l6 _ _ (ZxL h1);exact⟨_,ZxL (by rw[k1];exact h2)⟩
 have hget:∀k u,((List.range (xs.length*n)).map fun k=>((ds (k / n))[k%n]?).getD undef)[k]?=some u→k<xs.length*n∧(ds (k / n))[k%n]?=some u:=fun k u hk=>by
  rw[ZxM]at hk;obtain⟨k',k1,k2⟩:=ZxP.1 hk;have hlt:k<xs.length*n:=by have:=(ZxN.1 k1).1;simpa using this
  rw[List.getElem?_range hlt]at k1;cases k1;obtain⟨u',hu'⟩:=hL k hlt;rw[hu']at k2;simp at k2;subst k2;exact⟨hlt,hu'⟩
 refine⟨a,cap,(List.range (xs.length*n)).map fun k=>((ds (k / n))[k%n]?).getD undef,hv,⟨by simp,fun u hu=>?_,fun i x hi=>?_⟩,fun k u hk=>?_⟩
 ·obtain⟨k,hk⟩:=ZxV.1 hu;obtain⟨hlt,k1⟩:=hget k u hk;obtain⟨h1,_,_⟩:=ZcF hlt hn;exact(l6 _ _ (ZxL h1)).2.2 u (ZxQ k1)
 ·obtain⟨k1,k2,_⟩:=l6 i x hi;refine⟨k2,fun j c hj=>?_⟩;have hjn:j<n:=by have:=(ZxN.1 hj).1;omega
  have hil:i<xs.length:=(ZxN.1 hi).1;have hlt:i*n+j<xs.length*n:=by have:=ZaI (n:=n) hil;omega
  have hdiv:(i*n+j) / n=i:=by rw[Nat.add_comm,Nat.add_mul_div_right _ _ hn,Nat.div_eq_of_lt hjn,Zyj]
  have hmod:(i*n+j)%n=j:=by rw[Nat.add_comm,Nat.add_mul_mod_self_right,Nat.mod_eq_of_lt hjn]
  have hjd:j<(ds i).length:=by omega
  refine⟨(ds i)[j],?_,l7 i x j _ c hi (ZxL hjd) hj⟩;rw[ZxM,List.getElem?_range hlt,Zyq,hdiv,hmod,ZxL hjd];rfl
 ·obtain⟨hlt,k1⟩:=hget k u hk;obtain⟨h1,h2,h3⟩:=ZcF hlt hn;obtain⟨b,q,ha,k2⟩:=l5 _ _ (ZxL h1);refine⟨b,q,ha,?_⟩
  have:=hw _ _ _ (k2.get _ u k1)
  rwa [show q+k / n*n+k%n=q+k by omega]at this
theorem Zez {v:Value}{a:AV}{n:Nat}{xs:List PV}(hn:0<n)(hS:Sat N w0 m0 pl σ ρ m act w)(h:RdA ρ m v a)(hc:σ.cont a n=some xs):Cont m w v n xs:=by
 unfold AS.cont at hc;split at hc
 ·split at hc
  ·rename_i e;subst e;cases hc;exact ZqG hn hS.mem h
  ·cases hc
 ·cases hc;obtain⟨a,hv,_⟩:=h.ZvM;exact⟨a,0,[],hv,Flat.nil m n,fun k u hk=>by simp at hk⟩
 ·rename_i s n' lo len;split at hc
  ·rename_i e n'' ys hb;split at hc
   ·rename_i hcc;obtain⟨rfl,rfl,hl⟩:=hcc;cases hc;have hlen:((ys.drop lo).take len).length=len:=by rw[ZxT,Zyn];omega
    rcases h.Zve with⟨cap,hv,c0,c1,c2⟩|⟨a,hv,c0,_⟩
    ·obtain⟨hn0,hB|⟨hr,cs,g1,g2,g3,g4,g5⟩⟩:=hS.bx s _ hb
     ·rw[hB.1]at c2;cases c2
     have hfit:(ρ s).o+lo*n''+len*n''≤cs.size:=by
      have:(lo+len)*n''≤(ρ s).cap*n'':=Zyx _ (by omega)
      rw[Nat.add_mul]at this;omega
     have el:∀i x,((ys.drop lo).take len)[i]?=some x→i<len∧ys[lo+i]?=some x:=fun i x hx=>by
      rw[Zx1]at hx;split at hx
      ·rename_i hi;rw[Zx3]at hx;exact⟨hi,hx⟩
      ·cases hx
     refine⟨some ⟨(ρ s).b,(ρ s).o+lo*n'',none⟩,cap,(cs.toList.drop ((ρ s).o+lo*n'')).take (len*n''),by rw[hlen];exact hv,⟨by rw[ZcP hfit,hlen],fun u hu=>?_,fun i x hi=>?_⟩,fun k u hk=>⟨_,_,rfl,?_⟩⟩
     ·obtain⟨k,hk⟩:=ZxV.1 hu;rw[ZaO]at hk;split at hk
      ·rename_i hlt;obtain⟨h1,h2,h3⟩:=ZcF hlt hn;have hly:lo+k / n''<ys.length:=by omega
       obtain⟨q1,q2⟩:=g5 _ _ (ZxL hly);have hlc:k%n''<(ys[lo+k / n'']).cells.length:=by omega
       obtain⟨u',q3,q4,_⟩:=q2 _ _ (ZxL hlc);rw[show(ρ s).o+(lo+k / n'')*n''+k%n''=(ρ s).o+lo*n''+k by rw[Nat.add_mul];omega,hk]at q3;cases q3;exact q4
      ·cases hk
     ·obtain⟨hil,hi'⟩:=el i x hi;obtain⟨q1,q2⟩:=g5 _ x hi';refine⟨q1,fun j c hj=>?_⟩;obtain⟨u,q3,_,q5⟩:=q2 j c hj;have hjn:j<n'':=by have:=(ZxN.1 hj).1;omega
      have:=ZaI (n:=n'') hil
      exact⟨u,by rw[ZaO,if_pos (by omega)];rw[←q3];congr 1;rw[Nat.add_mul];omega,q5⟩
     ·rw[ZaO]at hk;split at hk
      ·simp[World.cell?,g1,hk]
      ·cases hk
    ·subst c0;exact⟨a,0,[],by rw[hlen];exact hv,by simpa using Flat.nil m n'',fun k u hk=>by simp at hk⟩
   ·cases hc
  ·cases hc
 ·cases hc
theorem Zd3 {n:Nat}{xs:List PV}{a:Option Addr}{ds:List Value}(hf:Flat m ds n xs)(hc:∀(k:Nat) (u:Value),ds[k]?=some u→∃b o,a=some ⟨b,o,none⟩∧w.cell? ⟨b,o+k,none⟩=some u)(w':World)(hw:∀A,w'.cell? A=w.cell? A)(L:Nat)(hL:L=xs.length)(c cap:Nat):
  (Builtin.firstCells n L (.slice a c cap)).run P w'=.ok ds.toArray w':=by
 subst hL;cases a with
 |none=>
  have:ds=[]:=by
   cases ds with
   |nil=>rfl
   |cons u r=>obtain⟨b,o,e,_⟩:=hc 0 u rfl;cases e
  subst this;rfl
 |some A=>
  by_cases h0:ds=[]
  ·subst h0;have hl:=hf.len;simp only[List.length_nil]at hl;simp only[Builtin.firstCells];rw[←hl];rfl
  ·have h1:0<ds.length:=List.length_pos_iff.2 h0;obtain⟨b,q,e,_⟩:=hc 0 _ (ZxL h1);cases e;refine run_firstCells_some w' n xs.length ⟨b,q,none⟩ c cap ds hf.len (fun j u hj=>?_);obtain⟨b',q',e',k⟩:=hc j u hj;cases e';rw[Zc5,hw];exact k
theorem Zei {t ty e:TypeId}{i:TypeInfo}{z:Value}(ht:P.underlying t=some (.slice e))(hi:P.info? e=some i)(hz:i.zero=some z)(ba:Option Addr)(sLen sCap:Nat)(a':Option Addr)(k c:Nat)(olds news:List Value)
  (ho:∀w',(∀A,w'.cell? A=w.cell? A)→(Builtin.firstCells i.size sLen (.slice ba sLen sCap)).run P w'=.ok olds.toArray w') (hn:∀w',(∀A,w'.cell? A=w.cell? A)→(Builtin.firstCells i.size k (.slice a' k c)).run P w'=.ok news.toArray w')
  (hg:sCap<sLen+k) (h63:((sLen+k:Nat):Int)≤9223372036854775807) (hfit:Builtin.nextslicecap (sLen+k) sCap*i.bytes≤281474976710656):
  (Builtin.append_ #[t,t] ty #[.slice ba sLen sCap,.slice a' k c]).run P w =
   .ok (.slice (some ⟨w.heap.size,0,none⟩) (sLen+k) (grownCap w (sLen+k) sCap e)) (w.drew.alloc (.cells ((olds++news).toArray++Builtin.zeroCells z.cells (grownCap w (sLen+k) sCap e-(sLen+k))) e)):=by
 have hn1:¬(sLen+k≤sCap):=by omega
 have h63':¬(9223372036854775807<((sLen:Int)+(k:Int))):=by omega
 have h48':¬(281474976710656<Builtin.nextslicecap (sLen+k) sCap*i.bytes):=by omega
 have f1:=ho w.drew (fun A=>rfl);have f2:=hn w.drew (fun A=>rfl);simp[Builtin.append_,run_underlying ht,sizeOf,typeInfo,zeroValue,hi,hz,Builtin.lenOf,hn1,h63',h48',Question.forced,f1,f2,newRow,grownCap];rw[←List.append_toArray,Array.append_assoc]
theorem Zdb {t ty e:TypeId}{i:TypeInfo}(ht:P.underlying t=some (.slice e))(hi:P.info? e=some i)(g q sLen sCap:Nat)(cur:Array Value)(hg:w.heap[g]?=some (.cells cur e (0,0)))(a':Option Addr)(k c:Nat)(news:List Value)
  (hn:(Builtin.firstCells i.size k (.slice a' k c)).run P w=.ok news.toArray w) (h1:∀u∈news,u.oneCell'=true) (hroom:sLen+k≤sCap) (hfit:q+sLen*i.size+news.length≤cur.size):
  (Builtin.append_ #[t,t] ty #[.slice (some ⟨g,q,none⟩) sLen sCap,.slice a' k c]).run P w=.ok (.slice (some ⟨g,q,none⟩) (sLen+k) sCap) (w.setRow g (splice cur.toList (q+sLen*i.size) news).toArray):=by
 have hst:=run_storeCells_at P g (q+sLen*i.size) e news 0 cur w hg (by simpa using hfit) h1;simp only[Nat.add_zero]at hst;simp[Builtin.append_,run_underlying ht,sizeOf,typeInfo,hi,Builtin.lenOf,hroom,hn,Zc5,hst,splice]
end
end
section
section
variable {P:Program}{N:Nat}{w0:World}{m0:Env w0}{pl:List Nat}{σ:AS}{ρ:Site→Loc}{m:Mem}{act:Act}{w:World}{o:Oper}{d:Nat}{K:AV→AS→Prop}
theorem RdB.of_flat {ρ:Site→Loc}{s:Site}{e n:Nat}{xs:List PV}{cs:Array Value}{ds:List Value}(hn:0<n)(hr:(ρ s).real=true)(hh:w.heap[(ρ s).b]?=some (.cells cs e (0,0)))(hc:(ρ s).o+(ρ s).cap*n≤cs.size)(hl:xs.length≤(ρ s).cap)(hm:(ρ s).cap≤maxLen)
  (hf:Flat m ds n xs) (hg:∀(k:Nat) (u:Value),ds[k]?=some u→cs[(ρ s).o+k]?=some u):RdB ρ m w s (.arr e n xs):=by
 refine⟨hn,.inr ⟨hr,cs,hh,hc,hl,hm,fun i x hi=>?_⟩⟩;obtain⟨k1,k2⟩:=hf.get i x hi;refine⟨k1,fun j c hj=>?_⟩;obtain⟨u,k3,k4⟩:=k2 j c hj;exact⟨u,by rw[Nat.add_assoc];exact hg _ u k3,hf.one u (ZxQ k3),k4⟩
theorem Sat.ZwN (h:Sat N w0 m0 pl σ ρ m act w){W:World}(hx:Ext w W){cs:Array Value}{e n cap:Nat}{xs:List PV}{ds:List Value}(hN:NoD d σ)(hn:0<n)(hW:W.heap[w.heap.size]?=some (.cells cs e (0,0)))(hc:cap*n≤cs.size)(hl:xs.length≤cap)(hm:cap≤maxLen)
  (hf:Flat m ds n xs) (hg:∀(k:Nat) (u:Value),ds[k]?=some u→cs[k]?=some u):
  ∃ρ',Sat N w0 m0 pl (σ.add (.loc d 0) (.arr e n xs)) ρ' m act W∧RdA ρ' m (.slice (some ⟨w.heap.size,0,none⟩) xs.length cap) (.vec (.loc d 0) n 0 xs.length):=by
 have hu:=ZaL ρ (.loc d 0) ⟨w.heap.size,0,cap,true⟩;refine⟨upd ρ (.loc d 0) ⟨w.heap.size,0,cap,true⟩,(h.ext hx).add hN (.of_flat hn (by rw[hu]) (by rw[hu];exact hW) (by rw[hu];simpa using hc) (by rw[hu];exact hl) (by rw[hu];exact hm) hf (by rw[hu];simpa using hg)) (fun _ s b k r=>?_) (fun _ o=>h.Zv4 (ZxR _) o) (fun _=>.inl h.keep.size),?_⟩
 ·have:=h.ltk k (((h.bx s b k).blk_same (fun r=>hx.block _ (h.lt k r))).1 r)
  simp at this
 ·have:=RdA.vec (ρ:=upd ρ (.loc d 0) ⟨w.heap.size,0,cap,true⟩) (m:=m) (.loc d 0) n 0 xs.length cap hl (by rw[hu];simp) (by rw[hu])
  rw[hu]at this;simpa using this
theorem Sat.Zxr (h:Sat N w0 m0 pl σ ρ m act w){e n:Nat}(hN:NoD d σ)(hn:0<n){a:Option Addr}(ha:∀A,a=some A→ZcL A):
  ∃ρ',Sat N w0 m0 pl (σ.add (.loc d 0) (.arr e n [])) ρ' m act w∧RdA ρ' m (.slice a 0 0) (.vec (.loc d 0) n 0 0):=by
 have hu:=ZaL ρ (.loc d 0) ⟨0,0,0,false⟩;refine⟨upd ρ (.loc d 0) ⟨0,0,0,false⟩,h.add hN ⟨hn,.inl ⟨by rw[hu],rfl,by rw[hu]⟩⟩ (fun e=>by cases e) (fun e=>by cases e) (fun e=>by cases e),.vec0 _ _ _ _ ha⟩
theorem Zbv (z:Array Value)(n:Nat):(Builtin.zeroCells z n).size=n*z.size:=by simp[Builtin.zeroCells]
theorem Ze7 {t:TypeId}{c:Call}{x y:Operand}(hc:c.callee=.builtin .append)(ha:c.args.toList=[x,y])(ht:c.argTypes.toList=[t,t])(ho:o.op=.call c){v:Value}{w':World}(h:(Builtin.append_ #[t,t] o.type #[act.eval x,act.eval y]).run P w=.ok v w'):
  (execOp act.eval o).run P w=.ok (.value v) w':=by
 have hargs:c.args=#[x,y]:=Zyv.1 (by simpa using ha);have htys:c.argTypes=#[t,t]:=Zyv.1 (by simpa using ht);unfold execOp;simp only[ho];simp[resolve,hc,hargs,htys,invoke,builtin,h]
theorem Sat.extend (hS:Sat N w0 m0 pl σ ρ m act w){s:Site}{e n k:Nat}{xs zs:List PV}{ds:List Value}(hb:σ.b s=some (.arr e n xs))(hr:(ρ s).real=true){cs:Array Value}(g1:w.heap[(ρ s).b]?=some (.cells cs e (0,0)))(hf:Flat m ds n zs)(hk:k≤xs.length)(hl:k+zs.length≤(ρ s).cap):
  (ρ s).o+k*n+ds.length≤cs.size∧Sat N w0 m0 pl (σ.set s (.arr e n (xs.take k++zs))) ρ m act (w.setRow (ρ s).b (splice cs.toList ((ρ s).o+k*n) ds).toArray):=by
 obtain⟨hn,hB|⟨_,cs',g1',g2,g3,g4,g5⟩⟩:=hS.bx s _ hb
 ·rw[hB.1]at hr;cases hr
 rw[g1]at g1';cases g1';have hcl:cs.toList.length=cs.size:=Zyf;have htk:(xs.take k).length=k:=by rw[ZxT];omega
 have hfit:(ρ s).o+k*n+ds.length≤cs.size:=by
  have h1:(k+zs.length)*n≤(ρ s).cap*n:=Zyx _ hl;rw[Nat.add_mul]at h1;rw[hf.len];omega
 refine⟨hfit,hS.Zwn hb hr (Keep.setRow w _ _) ⟨hn,.inr ⟨hr,_,setRow_heap w _ cs _ e _ g1,?_,?_,g4,fun i x hi=>?_⟩⟩⟩
 ·rw[Zyd,Zat (by rw[hcl];exact hfit),hcl];exact g2
 ·rw[ZxU,htk];exact hl
 ·rw[Zyl,htk]at hi;split at hi
  ·rename_i hik;rw[Zx1,if_pos hik]at hi;obtain⟨k1,k2⟩:=g5 i x hi;refine⟨k1,fun j c hj=>?_⟩;obtain⟨d,q1,q2,q3⟩:=k2 j c hj;refine⟨d,?_,q2,q3⟩;have hjn:j<n:=by have:=(ZxN.1 hj).1;omega
   have:=ZaI (n:=n) hik
   rw[Zyo,Zao (by rw[hcl];exact hfit),if_pos (by omega),Zyu];exact q1
  ·rename_i hik;obtain⟨k1,k2⟩:=hf.get (i-k) x hi;refine⟨k1,fun j c hj=>?_⟩;obtain⟨u,q1,q2⟩:=k2 j c hj;have hlt:=(ZxN.1 q1).1;have e1:i*n=k*n+(i-k)*n:=by rw[←Nat.add_mul];congr 1;omega
   refine⟨u,?_,hf.one u (ZxQ q1),q2⟩;rw[Zyo,Zao (by rw[hcl];exact hfit),if_neg (by omega),if_pos (by omega),←q1];congr 1;omega
theorem ZmR {t e n bytes:Nat}{i:TypeInfo}{z:PV}{c:Call}{x y:Operand}{x' y':Opd}(hx:opd x=some x')(hy:opd y=some y')(he:elemT P t=some (e,n,none))(hz:ZaN P e=some z)(hi:P.info? e=some i)(hb:i.bytes=bytes)(hn:0<n)(hzl:z.cells.length=n)
  (hc:c.callee=.builtin .append) (ha:c.args.toList=[x,y]) (ht:c.argTypes.toList=[t,t]) (ho:o.op=.call c) (h:opWp (.app e n bytes x' y') d K σ) (hS:Sat N w0 m0 pl σ ρ m act w):ResE (∃nl,σ.o x'=.pv (.emp nl)) P N w0 m0 pl o act w K:=by
 simp only[opWp]at h;obtain⟨hu,hs⟩:=ZaV he;obtain⟨i2,hi2,hsz⟩:=Zcr hs;rw[hi]at hi2;cases hi2;unfold ZaN at hz;cases hv:zeroT P e with
 |none=>simp[hv]at hz
 |some zv=>
 simp only[hv,Option.bind_some]at hz;obtain⟨zi,hzi1,hzi2⟩:=Zcm hv;rw[hi]at hzi1;cases hzi1;have hzs:zv.cells.size=n:=by have:=(Zb1 hz m).1;omega
 split at h
 ·rename_i ys hys;obtain⟨ya,yc,yd,hyv,hyf,hyc⟩:=Zez hn hS (hS.opd hy) hys;have hyrun:∀w',(∀A,w'.cell? A=w.cell? A)→(Builtin.firstCells i.size ys.length (.slice ya ys.length yc)).run P w'=.ok yd.toArray w':=fun w' hw=>by
   rw[hsz];exact Zd3 hyf hyc w' hw _ rfl _ yc
  have grow:∀(τ:AS) (ba:Option Addr) (xs:List PV) (sCap:Nat) (od:List Value),Sat N w0 m0 pl τ ρ m act w→NoD d τ→act.eval x=.slice ba xs.length sCap→Flat m od n xs→(∀(k:Nat) (u:Value),od[k]?=some u→∃b o,ba=some ⟨b,o,none⟩∧w.cell? ⟨b,o+k,none⟩=some u)→
    sCap<xs.length+ys.length→(xs.length+ys.length)*bytes≤140737488355328→xs.length+ys.length≤9223372036854775807→K (.vec (.loc d 0) n 0 (xs.length+ys.length)) (τ.add (.loc d 0) (.arr e n (xs++ys)))→ResE (∃nl,σ.o x'=.pv (.emp nl)) P N w0 m0 pl o act w K:=by
   intro τ ba xs sCap od hτ hN hxv hof hoc hlt hsm hby hK;have hmul:(xs.length+ys.length)*i.bytes≤140737488355328:=by rw[hb];exact hsm
   have hrun:=Zei (P:=P) (w:=w) (ty:=o.type) hu hi hzi2 ba xs.length sCap ya ys.length yc od yd (fun w' hw=>by rw[hsz];exact Zd3 hof hoc w' hw _ rfl _ sCap) hyrun hlt (by omega) (growslice_fits hlt (by omega));rw[←hxv,←hyv]at hrun;have hge:=grownCap_ge w (xs.length+ys.length) sCap e;have hcm:=grownCap_le_maxLen w (xs.length+ys.length) sCap e (by simp only[maxLen];omega);have hl:=hof.len;have hl2:=hyf.len;obtain⟨ρ',k1,k2⟩:=hτ.ZwN (W:=w.drew.alloc (.cells ((od++yd).toArray++Builtin.zeroCells zv.cells (grownCap w (xs.length+ys.length) sCap e-(xs.length+ys.length))) e)) ((Ext.dr w).trans' (Ext.al _ _)) hN hn (heap_alloc_new w.drew _) (cap:=grownCap w (xs.length+ys.length) sCap e) (xs:=xs++ys) (ds:=od++yd) (by
     rw[Array.size_append,Zbv,hzs,Zyd,ZxU,hl,hl2,←Nat.add_mul,←Nat.add_mul];exact Zyx _ (by omega)) (by rw[ZxU];exact hge) hcm (hof.app hyf) (fun k u hk=>by
     rw[Array.getElem?_append,Zyd,if_pos (ZxN.1 hk).1,Zyo];exact hk)
   rw[ZxU]at k2;exact⟨_,_,_,_,ρ',m,.inl (Ze7 hc ha ht ho hrun),hK,k1,k2,fun _=>(Ext.dr w).trans' (Ext.al _ _)⟩
  have none':∀(τ:AS) (ba:Option Addr),Sat N w0 m0 pl τ ρ m act w→NoD d τ→act.eval x=.slice ba 0 0→(∀A,ba=some A→ZcL A)→ys=[]→K (.vec (.loc d 0) n 0 0) (τ.add (.loc d 0) (.arr e n []))→ResE (∃nl,σ.o x'=.pv (.emp nl)) P N w0 m0 pl o act w K:=by
   intro τ ba hτ hN hxv hsp hy0 hK;subst hy0;obtain⟨ρ',k1,k2⟩:=hτ.Zxr (e:=e) (a:=ba) hN hn hsp;refine⟨_,_,_,_,ρ',m,.inl (Ze7 hc ha ht ho (v:=.slice ba 0 0) (w':=w) ?_),hK,k1,k2,fun _=>Ext.ZvU _⟩;have hf:=hyrun w (fun _=>rfl);have hyd:yd=[]:=ZyG (by have:=hyf.len;simpa using this);subst hyd;rw[hxv,hyv];simp only[List.length_nil]at hf ⊢;cases ba<;>simp[Builtin.append_,run_underlying hu,sizeOf,typeInfo,hi,Builtin.lenOf,hf,storeCells]
  have empty:∀(τ:AS) (ba:Option Addr),Sat N w0 m0 pl τ ρ m act w→NoD d τ→act.eval x=.slice ba 0 0→(∀A,ba=some A→ZcL A)→ys.length*bytes≤140737488355328→ys.length≤9223372036854775807→K (.vec (.loc d 0) n 0 ys.length) (τ.add (.loc d 0) (.arr e n ys))→ResE (∃nl,σ.o x'=.pv (.emp nl)) P N w0 m0 pl o act w K:=by
   intro τ ba hτ hN hxv hsp hsm hby hK;by_cases hy0:ys=[]
   ·refine none' τ ba hτ hN hxv hsp hy0 ?_;subst hy0;exact hK
   ·have:=List.length_pos_iff.2 hy0
    exact grow τ ba [] 0 [] hτ hN hxv (Flat.nil m n) (fun k u hk=>by simp at hk) (by simpa using this) (by simpa using hsm) (by simpa using hby) (by simpa using hK)
  split at h
  ·rename_i nl ex;obtain⟨h1,h2,hK⟩:=h;have hxr:=hS.opd hx;rw[ex]at hxr;obtain⟨ba,hxv,hsp⟩:=hxr.ZvM;exact empty (σ.Zu0 d) ba (hS.Zu0 d) (NoD.Zu0 d σ) hxv hsp h1 h2 hK
  ·rename_i s n' lo len ex;have hxr:=hS.opd hx;split at h
   ·rename_i e' n'' xs hbx;rcases h with⟨⟨rfl,rfl,rfl,hlo⟩,hsm,hby,hK⟩|⟨⟨rfl,rfl,rfl,hlo⟩,hsm,hby,hK,hK2⟩
    case inr=>
     have hdl:((xs.drop lo).take len).length=len:=by rw[ZxT,Zyn];omega
     have hcx:σ.cont (.vec s n'' lo len) n''=some ((xs.drop lo).take len):=by
      unfold AS.cont;simp only[hbx,true_and];rw[if_pos hlo]
     rw[ex]at hxr;obtain⟨ba,bc,od,hxv,hof,hoc⟩:=Zez hn hS hxr hcx;rcases hxr.Zve with⟨cap,hv',c0,c1,c2⟩|⟨a,hv',c0,hsp⟩
     ·rw[hxv]at hv';injection hv' with q1 q2 q3;subst q1;subst q3;by_cases hroom:((xs.drop lo).take len).length+ys.length≤bc
      ·obtain⟨hn0,hB|⟨hr,cs,g1,g2,g3,g4,g5⟩⟩:=hS.bx s _ hbx
       ·rw[hB.1]at c2;cases c2
       obtain⟨hfit0,hS2⟩:=hS.extend hbx hr g1 hyf hlo (by rw[hdl]at hroom;omega);have hl2:=hyf.len;rw[Nat.add_mul,←Nat.add_assoc]at hfit0 hS2;have hrun:=Zdb (P:=P) (w:=w) (t:=t) (ty:=o.type) hu hi (ρ s).b ((ρ s).o+lo*n'') ((xs.drop lo).take len).length bc cs g1 ya ys.length yc yd (hyrun w (fun _=>rfl)) hyf.one hroom (by rw[hsz,hdl];exact hfit0);rw[←hxv,←hyv,hsz,hdl]at hrun;exact⟨_,_,_,_,ρ,m,.inl (Ze7 hc ha ht ho hrun),hK2,hS2,.vec s n'' lo (len+ys.length) bc (by rw[←hdl];exact hroom) c1 hr,fun hm=>by obtain⟨nl,hm⟩:=hm;rw[ex]at hm;cases hm⟩
      ·exact grow _ _ ((xs.drop lo).take len) bc od (hS.Zu0 d) (NoD.Zu0 d σ) hxv hof hoc (by omega) (by rw[hdl];exact hsm) (by rw[hdl];exact hby) (by rw[hdl];exact hK)
     ·subst c0;rw[hxv]at hv';have hx0:(xs.drop lo).take 0=[]:=List.take_zero;rw[hx0]at hK;simp only[Zyj,List.nil_append]at hK;exact empty _ a (hS.Zu0 d) (NoD.Zu0 d σ) (by rw[hxv,hv']) hsp (by simpa using hsm) (by simpa using hby) hK
    have hdl:(xs.drop lo).length=len:=by rw[Zyn];omega
    have hD:=(hS.drop s).Zu0 d;have hN:=NoD.Zu0 d (σ.drop s);have hcx:σ.cont (.vec s n'' lo len) n''=some (xs.drop lo):=by
     unfold AS.cont;simp only[hbx,true_and];rw[if_pos (by omega),ZxW (by omega)]
    rw[ex]at hxr;obtain⟨ba,bc,od,hxv,hof,hoc⟩:=Zez hn hS hxr hcx;rcases hxr.Zve with⟨cap,hv',c0,c1,c2⟩|⟨a,hv',c0,hsp⟩
    ·rw[hxv]at hv';injection hv' with q1 q2 q3;subst q1;subst q3;by_cases hroom:(xs.drop lo).length+ys.length≤bc
     ·
      obtain⟨hn0,hB|⟨hr,cs,g1,g2,g3,g4,g5⟩⟩:=hS.bx s _ hbx
      ·rw[hB.1]at c2;cases c2
      have hl:=hof.len;rw[hdl]at hl;have hcl:cs.toList.length=cs.size:=Zyf;have hl2:=hyf.len;have hcapn:(ρ s).o+lo*n''+bc*n''≤cs.size:=by
       have:(lo+bc)*n''≤(ρ s).cap*n'':=Zyx _ c1
       rw[Nat.add_mul]at this;omega
      have hroomn:len*n''+ys.length*n''≤bc*n'':=by rw[←Nat.add_mul,←hdl];exact Zyx _ hroom
      have hfit:(ρ s).o+lo*n''+(xs.drop lo).length*i.size+yd.length≤cs.size:=by rw[hsz,hl2,hdl];omega
      have hrun:=Zdb (P:=P) (w:=w) (t:=t) (ty:=o.type) hu hi (ρ s).b ((ρ s).o+lo*n'') (xs.drop lo).length bc cs g1 ya ys.length yc yd (hyrun w (fun _=>rfl)) hyf.one hroom hfit;rw[←hxv,←hyv,hsz,hdl]at hrun;have hq:(ρ s).o+lo*n''+len*n''+yd.length≤cs.toList.length:=by rw[hcl,hl2];omega
      have hD2:=hD.write (k:=(ρ s).b) (w':=w.setRow (ρ s).b (splice cs.toList ((ρ s).o+lo*n''+len*n'') yd).toArray) (fun s' b' k r=>by
       rw[AS.Zvl]at k;split at k
       ·cases k
       ·obtain⟨b2,k2,rfl⟩:=ZxP.1 k;rw[AS.Zvz]at k2;split at k2
        ·cases k2
        ·rename_i hne;exact hne (hS.injk s' s b2 _ _ k2 hbx (Za4.1 r) (ZaA hr))) (hS.off s _ hbx hr) (hS.own s _ hbx hr) (.inl ((hS.bx s _ hbx).obj hr)) (Keep.setRow w _ _)
      have hu2:=ZaL ρ (.loc d 0) ⟨(ρ s).b,(ρ s).o+lo*n'',bc,true⟩;have hodg:∀k u,od[k]?=some u→cs[(ρ s).o+lo*n''+k]?=some u:=fun k u hk=>by
       obtain⟨b,q,e1,e2⟩:=hoc k u hk;cases e1;simpa[World.cell?,g1]using e2
      have hflat:=hof.app hyf;refine⟨_,_,_,_,upd ρ (.loc d 0) ⟨(ρ s).b,(ρ s).o+lo*n'',bc,true⟩,m,.inl (Ze7 hc ha ht ho hrun),hK,?_,?_,fun hm=>by obtain⟨nl,hm⟩:=hm;rw[ex]at hm;cases hm⟩
      ·refine hD2.add hN (.of_flat hn (by rw[hu2]) (by rw[hu2];exact setRow_heap w _ cs _ e' _ g1) ?_ (by rw[hu2,ZxU];exact hroom) (by rw[hu2];show bc≤_;omega) hflat (fun k u hk=>?_)) (fun _ s' b' k r=>?_) (fun _=>hS.off s _ hbx hr) (fun _=>hS.own s _ hbx hr)
       ·rw[hu2,Zyd,Zat hq,hcl];exact hcapn
       ·rw[hu2,Zyo,Zao hq];dsimp only;rw[Zyl,hl]at hk;split at hk
        ·rename_i hk1;rw[if_pos (by omega),Zyu];exact hodg k u hk
        ·rename_i hk1;have hk2:=(ZxN.1 hk).1;rw[if_neg (by omega),if_pos (by omega),←hk];congr 1;omega
       ·have r':=(hD.bx s' b' k).blk_same (w':=w.setRow (ρ s).b (splice cs.toList ((ρ s).o+lo*n''+len*n'') yd).toArray) (fun rr=>(Keep.setRow w (ρ s).b _).block _ (hD.lt k rr) (by
         rw[Zyi];intro e;have k':=k;rw[AS.Zvl]at k';split at k'
         ·cases k'
         ·obtain⟨b2,k2,rfl⟩:=ZxP.1 k';rw[AS.Zvz]at k2;split at k2
          ·cases k2
          ·rename_i hne;exact hne (hS.inj s' s b2 _ k2 hbx rr hr e))) |>.1 r
        rw[AS.Zvl]at k;split at k
        ·cases k
        ·obtain⟨b2,k2,rfl⟩:=ZxP.1 k;rw[AS.Zvz]at k2;split at k2
         ·cases k2
         ·rename_i hne;exact hne (hS.injk s' s b2 _ _ k2 hbx (Za4.1 r') (ZaA hr))
      ·have:=RdA.vec (ρ:=upd ρ (.loc d 0) ⟨(ρ s).b,(ρ s).o+lo*n'',bc,true⟩) (m:=m) (.loc d 0) n'' 0 (len+ys.length) bc (by rw[←hdl];exact hroom) (by rw[hu2];simp) (by rw[hu2])
       rw[hu2]at this;simpa using this
     ·exact grow _ _ (xs.drop lo) bc od hD hN hxv hof hoc (by omega) (by rw[hdl];exact hsm) (by rw[hdl];exact hby) (by rw[hdl];exact hK)
    ·subst c0;rw[hxv]at hv';have hx0:xs.drop lo=[]:=ZyG hdl;rw[hx0]at hK;simp only[Zyj,List.nil_append]at hK;exact empty _ a hD hN (by rw[hxv,hv']) hsp (by simpa using hsm) (by simpa using hby) hK
   ·exact h.elim
  ·exact h.elim
 ·exact h.elim
end
end
section
section
variable {G:World→Prop}{P:Program}{N:Nat}{w0:World}{m0:Env w0}{pl:List Nat}{σ:AS}{ρ:Site→Loc}{m:Mem}{act:Act}{w:World}{o:Oper}{d:Nat}{K:AV→AS→Prop}
theorem Zso {t e n bytes:Nat}{i:TypeInfo}{z:PV}{l c:Operand}{l' c':Opd}(hl:opd l=some l')(hcc:opd c=some c')(he:elemT P t=some (e,n,none))(hz:ZaN P e=some z)(hi:P.info? e=some i)(hb:i.bytes=bytes)(hn:0<n)(hzl:z.cells.length=n)
  (ho:o.op=.makeSlice t l c) (h:opWp (.mks e n bytes z l' c') d K σ) (hS:Sat N w0 m0 pl σ ρ m act w):Res P N w0 m0 pl o act w K:=by
 simp only[opWp]at h;obtain⟨hu,hs⟩:=ZaV he;obtain⟨i2,hi2,hsz⟩:=Zcr hs;rw[hi]at hi2;cases hi2;unfold ZaN at hz;cases hv:zeroT P e with
 |none=>simp[hv]at hz
 |some zv=>
 simp only[hv,Option.bind_some]at hz;obtain⟨zi,hzi1,hzi2⟩:=Zcm hv;rw[hi]at hzi1;cases hzi1;obtain⟨z1,z2,z3⟩:=Zb1 hz m;have hzs:zv.cells.size=n:=by omega
 split at h
 ·rename_i kl a kc b el ec;obtain⟨h0,h1,h2,h3,hK⟩:=h;have hlv:=hS.opd hl;have hcv:=hS.opd hcc;rw[el]at hlv;rw[ec]at hcv;have hbb:(i.bytes:Int)*b≤1000*1000000:=Int.mul_le_mul (by omega) h2 (by omega) (by omega);have hrun:=run_make (P:=P) w t e i zv hu hi hzi2 kl kc a b h0 h1 (by omega) (by omega);rw[hsz]at hrun;have hr:(execOp act.eval o).run P w=.ok (.value (.slice (some ⟨w.heap.size,0,none⟩) a.toNat b.toNat)) (w.alloc (.cells (madeCells zv.cells (b.toNat*n)) e)):=by
   unfold execOp;simp only[ho,hlv.Zvc,hcv.Zvc,Sem.run_bind,hrun,Result.andThen_ok];rfl
  have hget:∀k,k<b.toNat*n→(madeCells zv.cells (b.toNat*n))[k]?=some (zv.cells[k%n]!):=fun k hk=>by
   simp only[madeCells,Array.getElem?_map,Array.getElem?_range,hzs];rw[if_pos hk];rfl
  have hle:a.toNat*n≤b.toNat*n:=Zyx _ (by omega);have hbang:∀j,j<n→∃hj:j<zv.cells.size,zv.cells[j]! = zv.cells[j]:=fun j hj=>⟨by omega,getElem!_pos zv.cells j (by omega)⟩
  obtain⟨ρ',k1,k2⟩:=(hS.Zu0 d).ZwN (W:=w.alloc (.cells (madeCells zv.cells (b.toNat*n)) e)) (Ext.al _ _) (NoD.Zu0 d σ) hn (heap_alloc_new w _) (cap:=b.toNat) (xs:=List.replicate a.toNat z) (ds:=(List.range (a.toNat*n)).map fun k=>zv.cells[k%n]!) (by simp[madeCells]) (by simp;omega) (by simp only[maxLen];omega)
   ⟨by simp,fun u hu=>by
    obtain⟨k,_,rfl⟩:=ZxY.1 hu;obtain⟨hj,e1⟩:=hbang (k%n) (Nat.mod_lt _ hn);rw[e1];exact z2 _ (Array.getElem_mem hj),fun i x hx=>by
    rw[List.getElem?_replicate]at hx;split at hx
    ·rename_i hia;cases hx;refine⟨hzl,fun j c hj=>?_⟩;have hjn:j<n:=by have:=(ZxN.1 hj).1;omega
     obtain⟨hj',e1⟩:=hbang j hjn;have hmod:(i*n+j)%n=j:=by rw[Nat.add_comm,Nat.add_mul_mod_self_right,Nat.mod_eq_of_lt hjn]
     have:=ZaI (n:=n) hia
     refine⟨zv.cells[j],?_,z3 j _ c (Zys hj') hj⟩;rw[ZxM,List.getElem?_range (by omega),Zyq,hmod,e1]
    ·cases hx⟩ (fun k u hk=>by
    rw[ZxM]at hk;obtain⟨k',e1,rfl⟩:=ZxP.1 hk;have hlt:k<a.toNat*n:=by have:=(ZxN.1 e1).1;simpa using this
    rw[List.getElem?_range hlt]at e1;cases e1;exact hget k (by omega))
  rw[List.length_replicate]at k2;exact⟨_,_,_,_,ρ',m,.inl hr,hK,k1,k2,fun _=>Ext.al _ _⟩
 ·exact h.elim
theorem Zgt {x:Option Operand}{x':Option Opd}(hx:(x=none∧x'=none)∨∃a a',x=some a∧x'=some a'∧opd a=some a')(hS:Sat N w0 m0 pl σ ρ m act w){z l:Int}(h:σ.ob x' z=some l):(x=none∧l=z)∨∃a k,x=some a∧act.eval a=.int k l:=by
 rcases hx with⟨rfl,rfl⟩|⟨a,a',rfl,rfl,ha⟩
 ·simp[AS.ob]at h;exact .inl ⟨rfl,h.symm⟩
 ·simp only[AS.ob]at h;split at h
  ·rename_i k b e;cases h
   have:=hS.opd ha
   rw[e]at this;exact .inr ⟨a,k,rfl,this.Zvc⟩
  ·cases h
theorem ZmK {t e n:Nat}{x:Operand}{x':Opd}{lo hi:Option Operand}{lo' hi':Option Opd}(hx:opd x=some x')(he:elemT P t=some (e,n,none))(hlo:(lo=none∧lo'=none)∨∃a a',lo=some a∧lo'=some a'∧opd a=some a')(hhi:(hi=none∧hi'=none)∨∃a a',hi=some a∧hi'=some a'∧opd a=some a')
  (ho:o.op=.slice t x lo hi none) (h:opWp (.slc n none x' lo' hi' none) d K σ) (hS:Sat N w0 m0 pl σ ρ m act w):ResP G P σ ρ m o act w K:=by
 simp only[opWp]at h;obtain⟨hu,hs⟩:=ZaV he;have h1:=hS.opd hx;have run:∀(a:Option Addr) (len cap:Nat) (l h:Int),act.eval x=.slice a len cap→((lo=none∧l=0)∨∃b k,lo=some b∧act.eval b=.int k l)→((hi=none∧h=len)∨∃b k,hi=some b∧act.eval b=.int k h)→0≤l→l≤h→h≤len→len≤cap→
   ∀w',G w'→(execOp act.eval o).run P w'=.ok (.value (.slice (if cap=l.toNat then a else a.map (·.add (l.toNat*n))) (h.toNat-l.toNat) (cap-l.toNat))) w':=by
  intro a len cap l h e el eh l0 l1 l2 l3;intro w' hst;unfold execOp;simp only[ho,e,Sem.run_bind];have hh:h≤cap:=by omega
  rcases el with⟨rfl,rfl⟩|⟨b,k,rfl,eb⟩<;>rcases eh with⟨rfl,rfl⟩|⟨b2,k2,rfl,eb2⟩
  ·simp[Instr.sliceAt,run_underlying hu,Instr.slice,Instr.sliceBounds,run_sizeOf hs]
  ·have h0:0≤h:=by omega
   simp[Instr.sliceAt,run_underlying hu,Instr.slice,Instr.sliceBounds,run_sizeOf hs,eb2,Instr.sliceBound,asIntOf,hh,h0]
  ·have h0:l≤(len:Int):=l1;simp[Instr.sliceAt,run_underlying hu,Instr.slice,Instr.sliceBounds,run_sizeOf hs,eb,Instr.sliceBound,asIntOf,l0,h0]
  ·have h0:0≤h:=by omega
   have h4:l≤(h.toNat:Int):=by omega
   simp[Instr.sliceAt,run_underlying hu,Instr.slice,Instr.sliceBounds,run_sizeOf hs,eb,eb2,Instr.sliceBound,asIntOf,l0,l1,h0,hh,h4];intro h5;omega
 split at h
 ·rename_i l hl;have el:=Zgt hlo hS hl;split at h
  ·rename_i nn n' xs ex;rw[ex]at h1;obtain⟨a,cap,ds,hv,q0,q1,q2,q3,q5,q6,q7⟩:=h1.Zwj;split at h
   ·rename_i hh hhh;obtain⟨l0,l1,l2,rfl,hK⟩:=h;have eh:=Zgt hhi hS hhh;have hr:=run a xs.length cap l hh hv el eh l0 l1 l2 q0;have hlen:((xs.take hh.toNat).drop l.toNat).length=hh.toNat-l.toNat:=by rw[Zyn,ZxT];omega
    have get:∀i x,((xs.take hh.toNat).drop l.toNat)[i]?=some x→xs[l.toNat+i]?=some x:=fun i x hx=>by
     rw[Zx3,Zx1]at hx;split at hx
     ·exact hx
     ·cases hx
    refine .pure hS hr ?_ hK;rw[←hlen];refine .pv _ _ (.lst _ _ nn n' _ (fun i=>ds (l.toNat+i)) (by rw[hlen];omega) (by omega) (fun e=>?_) (fun A hA=>?_) (fun e=>?_) (fun i x hx=>?_) (fun i x hx=>q6 _ x (get i x hx)) (fun i x j u c hx=>q7 _ x j u c (get i x hx)))
    ·have:a=none:=by
      split at e
      ·exact e
      ·simpa using e
     have:=q2 this;omega
    ·rfl
    ·have hne:a≠none:=by
      subst e;exact h1.Zxu hv
     split
     ·exact hne
     ·cases a with
      |none=>exact absurd rfl hne
      |some B=>simp
    ·have hx':=get i x hx;obtain⟨b,q,ha,k1⟩:=q5 _ x hx';have hlt:=(ZxN.1 hx').1;refine⟨b,q+l.toNat*n',?_,?_⟩
     ·rw[if_neg (by omega),ha,Zyq,Zc5]
     ·rwa [show q+l.toNat*n'+i*n'=q+(l.toNat+i)*n' by rw[Nat.add_mul];omega]
   ·exact h.elim
  ·rename_i nl ex;rw[ex]at h1;split at h
   ·rename_i hh hhh;obtain⟨rfl,rfl,hK⟩:=h;obtain⟨a,hv,_⟩:=h1.ZvM;have eh:=Zgt hhi hS hhh;have hr:=run a 0 0 0 0 hv el eh (by omega) (by omega) (by omega) (by omega);refine .pure hS hr ?_ hK;simp only[Int.toNat_zero,if_true];rw[hv]at h1;exact h1
   ·exact h.elim
  ·rename_i s n' lo0 len ex;rw[ex]at h1;split at h
   ·rename_i hh hhh;obtain⟨l0,l1,l2,rfl,hK⟩:=h;have eh:=Zgt hhi hS hhh;rcases h1.Zve with⟨cap,hv,c0,c1,c2⟩|⟨a,hv,c0,hsp⟩
    ·have hr:=run _ len cap l hh hv el eh l0 l1 l2 c0;refine .pure hS hr ?_ hK;split
     ·rename_i hc;have e1:hh.toNat-l.toNat=0:=by omega
      have e2:cap-l.toNat=0:=by omega
      rw[e1,e2];exact .vec0 _ _ _ _ (fun A hA=>by cases hA;rfl)
     ·simp only[Zyq,Zc5]
      have:=RdA.vec (ρ:=ρ) (m:=m) s n' (lo0+l.toNat) (hh.toNat-l.toNat) (cap-l.toNat) (by omega) (by omega) c2
      rwa [show(ρ s).o+(lo0+l.toNat)*n'=(ρ s).o+lo0*n'+l.toNat*n' by rw[Nat.add_mul];omega]at this
    ·subst c0;have hl0:l=0:=by omega
     have hh0:hh=0:=by omega
     subst hl0 hh0;have hr:=run a 0 0 0 0 hv el eh (by omega) (by omega) (by omega) (by omega);refine .pure hS hr ?_ hK;simp only[Int.toNat_zero,if_true];exact .vec0 _ _ _ _ hsp
   ·exact h.elim
  ·exact h.elim
 ·exact h.elim
end
end
section
def toV:PV→Value
 |.int k n=>.int k n
 |.bool b=>.bool b
 |.str s=>.string s
 |_=>undef
def toK (wide:Bool)(l:List PV):Value:=if wide=true then .agg (l.map toV).toArray else toV (l.headD .nilp)
theorem ZrD {m:Mem}{v:Value}{x:PV}{k:CK}(hx:k.ok x=true)(h:RdP m v x):v=toV x:=by
 cases h<;>cases k<;>first|rfl|(simp[CK.ok]at hx)
theorem ZcX:∀{ks:List CK} {cs:List PV},ckAll ks cs=true→ks.length=cs.length
 |[],[],_=>rfl
 |[],_::_,h=>by simp[ckAll]at h
 |_::_,[],h=>by simp[ckAll]at h
 |k::ks,c::cs,h=>by
  simp only[ckAll,ZxO]at h;simp[ZcX h.2]
theorem ZcY:∀{ks:List CK} {cs:List PV} {j:Nat} {c:PV},ckAll ks cs=true→cs[j]?=some c→∃k:CK,k.ok c=true
 |[],[],j,c,_,h=>by simp at h
 |[],_::_,j,c,h,_=>by simp[ckAll]at h
 |_::_,[],j,c,h,_=>by simp[ckAll]at h
 |k::ks,x::cs,j,c,h,hj=>by
  simp only[ckAll,ZxO]at h;cases j with
  |zero=>simp at hj;subst hj;exact⟨k,h.1⟩
  |succ j=>exact ZcY h.2 (by simpa using hj)
theorem Zb7:∀{a b:List CK} {cs:List PV},ckAll (a++b) cs=true→ckAll a (cs.take a.length)=true∧ckAll b (cs.drop a.length)=true
 |[],b,cs,h=>by simpa[ckAll]using h
 |k::a,b,[],h=>by simp[ckAll]at h
 |k::a,b,c::cs,h=>by
  simp only[List.cons_append,ckAll,ZxO]at h;obtain⟨h1,h2⟩:=Zb7 h.2;simp[ckAll,h.1,h1,h2]
theorem Zaz {k:CK}{l:List PV}(h:ckAll [k] l=true):∃x,l=[x]∧k.ok x=true:=by
 match l with
 |[]=>simp[ckAll]at h
 |[x]=>simp[ckAll]at h;exact⟨x,rfl,h⟩
 |_::_::_=>simp[ckAll]at h
theorem ZcW {x:PV}(h:CK.bool.ok x=true):∃b,x=.bool b:=by cases x<;>simp[CK.ok]at h;exact⟨_,rfl⟩
theorem ZeM {k:IntKind}{x:PV}(h:(CK.int k).ok x=true):∃n,x=.int k n:=by cases x<;>simp[CK.ok]at h;subst h;exact⟨_,rfl⟩
theorem Zdp {x:PV}(h:CK.str.ok x=true):∃s,x=.str s:=by cases x<;>simp[CK.ok]at h;exact⟨_,rfl⟩
theorem ZjO:∀{a b c d:List PV},a.length=b.length→eqL (a++c) (b++d)=(eqL a b&&eqL c d)
 |[],[],c,d,_=>by simp[eqL]
 |[],_::_,c,d,h=>by simp at h
 |_::_,[],c,d,h=>by simp at h
 |x::a,y::b,c,d,h=>by
  simp only[List.cons_append,eqL];rw[ZjO (by simpa using h),Bool.and_assoc]
theorem ZuE {k:CK}{x y:PV}(hx:k.ok x=true)(hy:k.ok y=true)(h:eqC x y=true):x=y:=by
 cases k with
 |int k=>obtain⟨a,rfl⟩:=ZeM hx;obtain⟨b,rfl⟩:=ZeM hy;simp[eqC]at h;rw[h]
 |bool=>obtain⟨a,rfl⟩:=ZcW hx;obtain⟨b,rfl⟩:=ZcW hy;simp[eqC]at h;rw[h]
 |str=>
  obtain⟨a,rfl⟩:=Zdp hx;obtain⟨b,rfl⟩:=Zdp hy;have h':a.toList=b.toList:=by simpa[eqC]using h
  rw[ByteArray.toList_eq,ByteArray.toList_eq]at h';obtain⟨x⟩:=a;obtain⟨y⟩:=b;have e:x=y:=Zyv.1 h';rw[e]
theorem ZrO:∀{ks:List CK} {l l':List PV},ckAll ks l=true→ckAll ks l'=true→eqL l l'=true→l=l'
 |[],[],[],_,_,_=>rfl
 |[],_::_,_,h,_,_=>by simp[ckAll]at h
 |[],[],_::_,_,h,_=>by simp[ckAll]at h
 |_::_,[],_,h,_,_=>by simp[ckAll]at h
 |_::_,_::_,[],_,h,_=>by simp[ckAll]at h
 |k::ks,x::l,y::l',h1,h2,h=>by
  simp only[ckAll,eqL,ZxO]at h1 h2 h;rw[ZuE h1.1 h2.1 h.1,ZrO h1.2 h2.2 h.2]
theorem Zit {m:Mem}{v:Value}{x:PV}{kt:KT}(hk:kt.ok x=true)(h:RdP m v x):v=toK kt.wide x.cells∧ckAll kt.ks x.cells=true:=by
 cases h
 case agg vs cs h0 h1 h2=>
  simp only[KT.ok,ZxO]at hk;refine⟨?_,hk.2⟩;simp only[toK,hk.1,if_true,PV.cells];congr 1;refine Array.ext_getElem? (fun j=>?_);rw[show(List.map toV cs).toArray[j]?=(List.map toV cs)[j]? from Zyo ..,ZxM];cases hc:cs[j]? with
  |none=>rw[Array.getElem?_eq_none (by rw[h0];exact List.getElem?_eq_none_iff.1 hc)];rfl
  |some c=>
   have hj:j<vs.size:=by rw[h0];exact(ZxN.1 hc).1
   obtain⟨k,hk2⟩:=ZcY hk.2 hc;rw[Zys hj,Zyq,ZrD hk2 (h2 j _ c (Zys hj) hc)]
 all_goals
  simp only[KT.ok,ZxO,Bool.not_eq_true']at hk;obtain⟨hw,hc⟩:=hk;refine⟨?_,hc⟩;simp only[toK,hw,Bool.false_eq_true,if_false,PV.cells,List.headD_cons];obtain⟨k,hk2⟩:=ZcY hc (j:=0) rfl;exact ZrD (m:=m) hk2 (by first|exact .int _ _|exact .bool _|exact .str _|(cases k<;>simp[CK.ok]at hk2))
def ckF (g:TypeId→Option KT)(sz:TypeId→Nat):Nat→List Field→Option (List CK)
 |_,[]=>some []
 |o,f::r=>match g f.type,ckF g sz (o+sz f.type) r with
  | some kf, some l => if f.offset = o ∧ sz f.type = kf.ks.length ∧ f.name ≠ "_" then some (kf.ks ++ l) else none
  |_,_=>none
def ckT (P:Program):Nat→TypeId→Option KT
 |0,_=>none
 |d+1,t=>match P.underlying t with
  |some .bool=>some ⟨false,[.bool]⟩
  |some (.int k)=>some ⟨false,[.int k]⟩
  |some .string=>some ⟨false,[.str]⟩
  |some (.array n e)=>match ckT P d e with
   |some ke=>if P.cellsOf e=ke.ks.length then some ⟨true,(List.replicate n ke.ks).flatten⟩else none
   |none=>none
  |some (.struct fs)=>if P.stoodInHeld t=false then(ckF (ckT P d) P.cellsOf 0 fs.toList).map (⟨true,·⟩)else none
  |_=>none
section
variable {P:Program}{w:World}
theorem Ze2 {d:Nat}{t:TypeId}{kt:KT}(h:ckT P d t=some kt):∃i,P.info? t=some i:=by
 cases d with
 |zero=>simp[ckT]at h
 |succ d=>
  cases hu:P.underlying t with
  |none=>simp[ckT,hu]at h
  |some dd=>exact info_of_underlying hu
theorem Zcu {d:Nat}{e:TypeId}{ke:KT}(hk:ckT P d e=some ke)(hs:P.cellsOf e=ke.ks.length){l:List PV}{off:Nat}(hl:ckAll ke.ks ((l.drop off).take ke.ks.length)=true)(w:World):
  (part e (l.map toV).toArray off).run P w=.ok (toK ke.wide ((l.drop off).take ke.ks.length)) w:=by
 obtain⟨i,hi⟩:=Ze2 hk;cases d with
 |zero=>simp[ckT]at hk
 |succ d=>
  have plain:∀{k:CK} {dd:TypeDesc},P.underlying e=some dd→ke=⟨false,[k]⟩→(dd=.bool∨dd=.string∨∃q,dd=.int q)→(part e (l.map toV).toArray off).run P w=.ok (toK ke.wide ((l.drop off).take ke.ks.length)) w:=by
   intro k dd hu e1 hdd;subst e1;obtain⟨x,hx,_⟩:=Zaz hl;have hget:l[off]?=some x:=by
    have:((l.drop off).take 1)[0]?=some x:=by simp only[List.length_singleton]at hx;rw[hx];rfl
    rw[Zx1,if_pos (by omega),Zx3]at this;simpa using this
   have hget2:(l.map toV).toArray[off]?=some (toV x):=by rw[Zyo,ZxM,hget];rfl
   rw[hx];rcases hdd with rfl|rfl|⟨q,rfl⟩<;>simp[part,isAgg,run_underlying hu,hget2,toK]<;>simp[hget]
  have wide:ke.wide=true→(∃n e',P.underlying e=some (.array n e'))∨(∃fs,P.underlying e=some (.struct fs))→(part e (l.map toV).toArray off).run P w=.ok (toK ke.wide ((l.drop off).take ke.ks.length)) w:=by
   intro hw hu;have hv:(l.map toV).toArray.extract off (off+P.cellsOf e)=(((l.drop off).take ke.ks.length).map toV).toArray:=by
    apply Zyv.1;rw[Array.toList_extract,hs];simp[List.extract,List.map_drop,List.map_take]
   simp only[toK,hw,if_true];rcases hu with⟨n,e',hu⟩|⟨fs,hu⟩<;>simp only[part,isAgg,Sem.run_bind,run_underlying hu,Result.andThen_ok,Sem.run_pure,if_true,Go.run_sizeOf w hi,hv]
  unfold ckT at hk;split at hk
  ·rename_i hu;cases hk;exact plain hu rfl (.inl rfl)
  ·rename_i k hu;cases hk;exact plain hu rfl (.inr (.inr ⟨k,rfl⟩))
  ·rename_i hu;cases hk;exact plain hu rfl (.inr (.inl rfl))
  ·rename_i n e' hu;split at hk
   ·split at hk
    ·cases hk;exact wide rfl (.inl ⟨n,e',hu⟩)
    ·cases hk
   ·cases hk
  ·rename_i fs hu;split at hk
   ·obtain⟨ks,_,rfl⟩:=ZxP.1 hk;exact wide rfl (.inr ⟨fs,hu⟩)
   ·cases hk
  ·cases hk
theorem Zd7 {l:List PV}(h:ckAll [] l=true):l=[]:=by cases l with
 |nil=>rfl
 |cons=>simp[ckAll]at h
theorem ZeG {d dd:Nat}{e:TypeId}{ke:KT}(hk:ckT P d e=some ke)(hs:P.cellsOf e=ke.ks.length)
  (IH:∀l l',ckAll ke.ks l=true→ckAll ke.ks l'=true→∀w,(Op.equalIn dd e (toK ke.wide l) (toK ke.wide l')).run P w=.ok (eqL l l') w) (L L':List PV) (w:World):
  ∀(n i:Nat),ckAll (List.replicate n ke.ks).flatten (L.drop (i*ke.ks.length))=true→ckAll (List.replicate n ke.ks).flatten (L'.drop (i*ke.ks.length))=true→
   (Op.eqItems dd e (P.cellsOf e) (L.map toV).toArray (L'.map toV).toArray (List.range' i n)).run P w=.ok (eqL (L.drop (i*ke.ks.length)) (L'.drop (i*ke.ks.length))) w
 |0,i,h1,h2=>by
  rw[Zd7 h1,Zd7 h2];simp[Op.eqItems,eqL]
 |n+1,i,h1,h2=>by
  simp only[List.replicate_succ,List.flatten_cons]at h1 h2;obtain⟨a1,a2⟩:=Zb7 h1;obtain⟨b1,b2⟩:=Zb7 h2;have e1:i*ke.ks.length+ke.ks.length=(i+1)*ke.ks.length:=by rw[Nat.add_mul];omega
  rw[List.drop_drop,e1]at a2 b2;have hr:=ZeG hk hs IH L L' w n (i+1) a2 b2;have la:=ZcX a1;have lb:=ZcX b1;have hsp:eqL (L.drop (i*ke.ks.length)) (L'.drop (i*ke.ks.length))=(eqL ((L.drop (i*ke.ks.length)).take ke.ks.length) ((L'.drop (i*ke.ks.length)).take ke.ks.length)&&eqL (L.drop ((i+1)*ke.ks.length)) (L'.drop ((i+1)*ke.ks.length))):=by
   rw[←ZjO (by omega)];rw[←e1,←List.drop_drop,←List.drop_drop,List.take_append_drop,List.take_append_drop]
  rw[hsp];rw[hs]at hr ⊢;simp only[List.range'_succ,Op.eqItems,Sem.run_bind,Zcu hk hs a1,Zcu hk hs b1,IH _ _ a1 b1,Result.andThen_ok];cases eqL ((L.drop (i*ke.ks.length)).take ke.ks.length) ((L'.drop (i*ke.ks.length)).take ke.ks.length)
  ·simp
  ·simpa using hr
theorem ZdK {d dd:Nat}(IH:∀(e:TypeId) (ke:KT),ckT P d e=some ke→∀l l',ckAll ke.ks l=true→ckAll ke.ks l'=true→∀w,(Op.equalIn dd e (toK ke.wide l) (toK ke.wide l')).run P w=.ok (eqL l l') w)(L L':List PV)(w:World):
  ∀(fs:List Field) (o:Nat) (ks:List CK),ckF (ckT P d) P.cellsOf o fs=some ks→ckAll ks (L.drop o)=true→ckAll ks (L'.drop o)=true→
   (Op.eqFields dd (L.map toV).toArray (L'.map toV).toArray fs).run P w=.ok (eqL (L.drop o) (L'.drop o)) w
 |[],o,ks,h,h1,h2=>by
  simp[ckF]at h;subst h;rw[Zd7 h1,Zd7 h2];simp[Op.eqFields,eqL]
 |f::fs,o,ks,h,h1,h2=>by
  unfold ckF at h;split at h
  ·rename_i kf l hk hr0;split at h
   ·rename_i hc;obtain⟨c1,c2,c3⟩:=hc;cases h;obtain⟨a1,a2⟩:=Zb7 h1;obtain⟨b1,b2⟩:=Zb7 h2;rw[List.drop_drop,←c2]at a2 b2;have hr:=ZdK IH L L' w fs _ l hr0 a2 b2;have la:=ZcX a1;have lb:=ZcX b1;have hsp:eqL (L.drop o) (L'.drop o)=(eqL ((L.drop o).take kf.ks.length) ((L'.drop o).take kf.ks.length)&&eqL (L.drop (o+P.cellsOf f.type)) (L'.drop (o+P.cellsOf f.type))):=by
     rw[←ZjO (by omega)];rw[c2,←List.drop_drop,←List.drop_drop,List.take_append_drop,List.take_append_drop]
    rw[hsp];have p1:=Zcu hk c2 a1 w;have p2:=Zcu hk c2 b1 w;rw[←c1]at p1 p2 a1 b1 ⊢;simp only[Op.eqFields,c3,ne_eq,not_false_eq_true,if_true,Sem.run_bind,p1,p2,IH _ _ hk _ _ a1 b1,Result.andThen_ok];rw[←c1]at hr;cases eqL ((L.drop f.offset).take kf.ks.length) ((L'.drop f.offset).take kf.ks.length)
    ·simp
    ·simpa using hr
   ·cases h
  ·cases h
theorem Zc8:∀(d:Nat) (t:TypeId) (kt:KT),ckT P d t=some kt→∀(e:Nat),d≤e→∀(l l':List PV),ckAll kt.ks l=true→ckAll kt.ks l'=true→∀w,(Op.equalIn e t (toK kt.wide l) (toK kt.wide l')).run P w=.ok (eqL l l') w
 |0,t,kt,h,e,he,l,l',hl,hl',w=>by simp[ckT]at h
 |d+1,t,kt,h,e,he,l,l',hl,hl',w=>by
  obtain⟨e',rfl⟩:∃e',e=e'+1:=⟨e-1,by omega⟩;unfold ckT at h;split at h
  ·rename_i hu;cases h;obtain⟨x,rfl,hx⟩:=Zaz hl;obtain⟨y,rfl,hy⟩:=Zaz hl';obtain⟨a,rfl⟩:=ZcW hx;obtain⟨b,rfl⟩:=ZcW hy
   have:=run_equalIn_bool w e' t a b hu
   simpa[toK,toV,eqL,eqC]using this
  ·rename_i k hu;cases h;obtain⟨x,rfl,hx⟩:=Zaz hl;obtain⟨y,rfl,hy⟩:=Zaz hl';obtain⟨a,rfl⟩:=ZeM hx;obtain⟨b,rfl⟩:=ZeM hy
   have:=run_equalIn_int w e' t k k a b hu
   simpa[toK,toV,eqL,eqC]using this
  ·rename_i hu;cases h;obtain⟨x,rfl,hx⟩:=Zaz hl;obtain⟨y,rfl,hy⟩:=Zaz hl';obtain⟨a,rfl⟩:=Zdp hx;obtain⟨b,rfl⟩:=Zdp hy
   have:=run_equalIn_string w e' t a b hu
   simpa[toK,toV,eqL,eqC]using this
  ·rename_i n e0 hu;split at h
   ·rename_i ke hk;split at h
    ·rename_i hs;cases h;obtain⟨i,hi⟩:=Ze2 hk;simp only[toK,if_true];rw[run_equalIn_array w e' _ _ hu hi,List.range_eq_range']
     have:=ZeG hk hs (Zc8 d e0 ke hk e' (by omega)) l l' w n 0 (by simpa using hl) (by simpa using hl')
     simpa using this
    ·cases h
   ·cases h
  ·rename_i fs hu;split at h
   ·rename_i hst;obtain⟨ks,hf,rfl⟩:=ZxP.1 h;have hfs:P.fieldsOf t=fs:=by simp[Program.fieldsOf,hu]
    simp only[toK,if_true];rw[run_equalIn_struct w e' t _ _ (by rw[hfs];exact hu) hst,hfs]
    have:=ZdK (dd:=e') (fun e0 ke hk=>Zc8 d e0 ke hk e' (by omega)) l l' w fs.toList 0 ks hf (by simpa using hl) (by simpa using hl')
    simpa using this
   ·cases h
  ·cases h
theorem ZgN {ks:List CK}:∀(n:Nat) (l:List PV),ckAll (List.replicate n ks).flatten l=true→∀j,j<n→ckAll ks ((l.drop (j*ks.length)).take ks.length)=true
 |0,l,h,j,hj=>by omega
 |n+1,l,h,j,hj=>by
  simp only[List.replicate_succ,List.flatten_cons]at h;obtain⟨a1,a2⟩:=Zb7 h;cases j with
  |zero=>simpa using a1
  |succ j=>
   have:=ZgN n _ a2 j (by omega)
   rwa [List.drop_drop,show ks.length+j*ks.length=(j+1)*ks.length by rw[Nat.add_mul];omega]at this
theorem Zlm (d:Nat)(l:List PV):∀(fs:List Field) (o:Nat) (ks:List CK),ckF (ckT P d) P.cellsOf o fs=some ks→ckAll ks (l.drop o)=true→
  ∀ f ∈ fs, ∃ kf, ckT P d f.type = some kf ∧ P.cellsOf f.type = kf.ks.length ∧ f.name ≠ "_" ∧ ckAll kf.ks ((l.drop f.offset).take kf.ks.length) = true
 |[],o,ks,h,h1,f,hf=>by cases hf
 |g::fs,o,ks,h,h1,f,hf=>by
  unfold ckF at h;split at h
  ·rename_i kf l0 hk hr0;split at h
   ·rename_i hc;obtain⟨c1,c2,c3⟩:=hc;cases h;obtain⟨a1,a2⟩:=Zb7 h1;rw[List.drop_drop,←c2]at a2;rcases Zx2.1 hf with rfl|hf
    ·exact⟨kf,hk,c2,c3,by rw[c1];exact a1⟩
    ·exact Zlm d l fs _ _ hr0 a2 f hf
   ·cases h
  ·cases h
theorem ZbT (em:Bool):∀(d:Nat) (t:TypeId) (kt:KT),ckT P d t=some kt→∀(e:Nat),d≤e→∀(l:List PV),ckAll kt.ks l=true→∀w,(Instr.checkKey em e t (toK kt.wide l)).run P w=.ok () w
 |0,t,kt,h,e,he,l,hl,w=>by simp[ckT]at h
 |d+1,t,kt,h,e,he,l,hl,w=>by
  obtain⟨e',rfl⟩:∃e',e=e'+1:=⟨e-1,by omega⟩;unfold ckT at h;split at h
  ·rename_i hu;cases h;obtain⟨x,rfl,hx⟩:=Zaz hl;obtain⟨a,rfl⟩:=ZcW hx;simp[toK,toV,Instr.checkKey,run_underlying hu]
  ·rename_i k hu;cases h;obtain⟨x,rfl,hx⟩:=Zaz hl;obtain⟨a,rfl⟩:=ZeM hx;simp[toK,toV,Instr.checkKey,run_underlying hu]
  ·rename_i hu;cases h;obtain⟨x,rfl,hx⟩:=Zaz hl;obtain⟨a,rfl⟩:=Zdp hx;simp[toK,toV,Instr.checkKey,run_underlying hu]
  ·rename_i n e0 hu;split at h
   ·rename_i ke hk;split at h
    ·rename_i hs;cases h;obtain⟨i,hi⟩:=Ze2 hk;simp only[toK,if_true];rw[Instr.checkKey];simp only[Sem.run_bind,run_underlying hu,Result.andThen_ok];simp only[Std.Legacy.Range.forIn_eq_forIn_range',Std.Legacy.Range.size,Nat.sub_zero,Nat.add_one_sub_one,Nat.div_one];have each:∀j∈List.range' 0 n,ckAll ke.ks ((l.drop (j*ke.ks.length)).take ke.ks.length)=true:=fun j hj=>by
      rw[List.mem_range'_1]at hj;exact ZgN n l hl j (by omega)
     generalize List.range' 0 n=is at each;induction is with
     |nil=>simp
     |cons j is ih=>
      have a1:=each j (by simp);have p1:=Zcu hk hs a1 w;have p2:=ZbT em d e0 ke hk e' (by omega) _ a1 w;simp only[List.forIn_cons,Sem.run_bind,Go.run_sizeOf w hi,Result.andThen_ok,hs,p1,p2,Sem.run_pure];exact ih (fun y hy=>each y (by simp[hy]))
    ·cases h
   ·cases h
  ·rename_i fs hu;split at h
   ·rename_i hst;obtain⟨ks,hf,rfl⟩:=ZxP.1 h;simp only[toK,if_true];rw[Instr.checkKey];simp only[Sem.run_bind,run_underlying hu,Result.andThen_ok];rw[←Array.forIn_toList];have each:=Zlm d l fs.toList 0 ks hf (by simpa using hl);clear hf h;generalize fs.toList=L at each;induction L with
    |nil=>simp
    |cons f L ih=>
     obtain⟨kf,hk,c2,c3,a1⟩:=each f (by simp);have p1:=Zcu hk c2 a1 w;simp only[List.forIn_cons,Sem.run_bind,c3,ne_eq,not_false_eq_true,if_true,Result.andThen_ok,p1,ZbT em d f.type kf hk e' (by omega) _ a1 w,Sem.run_pure];exact ih (fun y hy=>each y (by simp[hy]))
   ·cases h
  ·cases h
end
end
section
def litX (P:Program):Op→Option XOp
 |.binOp op t x y _=>match opd x,opd y,ckT P 20 t with
  |some x,some y,some kt=>if(kt.wide=true∧P.eqGuardType P.depth t=false)∨kt=⟨false,[.str]⟩then match op with
    |.eql=>some (.eqv false kt x y)
    |.neq=>some (.eqv true kt x y)
    |_=>none
   else none
  |_,_,_=>none
 |.makeMap _ none=>some .mmk
 |.lookup t x i ok=>match P.underlying t with
  |some (.map k e)=>match opd x,opd i,ckT P 20 k,ZaN P e with
   |some x,some i,some kt,some z=>some (.look kt z ok x i)
   |_,_,_,_=>none
  |_=>none
 |.mapUpdate t x i v=>match P.underlying t with
  |some (.map k _)=>match opd x,opd i,opd v,ckT P 20 k with
   |some x,some i,some v,some kt=>some (.upd kt x i v)
   |_,_,_,_=>none
  |_=>none
 |.insert t x i v=>match P.underlying t with
  |some (.map k _)=>match opd x,opd i,opd v,ckT P 20 k with
   |some x,some i,some v,some kt=>some (.upd kt x i v)
   |_,_,_,_=>none
  |_=>none
 |.call c=>match c.callee with
  |.builtin .len=>match c.args.toList,c.argTypes.toList with
   |[x],[t]=>match opd x,P.underlying t with
    |some y,some (.map _ _)=>some (.mlen y)
    |_,_=>none
   |_,_=>none
  |.builtin .copy=>match c.args.toList,c.argTypes.toList with
   |[x,y],[t,_]=>match opd x,opd y,elemT P t with
    |some x,some y,some (_,n,none)=>if 0<n then some (.copy n x y)else none
    |_,_,_=>none
   |_,_=>none
  |.builtin .clear=>match c.args.toList,c.argTypes.toList with
   |[x],[t]=>match opd x,elemT P t with
    |some x,some (e,n,none)=>match ZaN P e with
     |some z=>if 0<n∧z.cells.length=n then some (.clear n z x)else none
     |none=>none
    |_,_=>none
   |_,_=>none
  |_=>none
 |.slice t x none (some hi) none=>match opd x,opd hi,elemT P t with
  |some x,some hi,some (_,1,some n)=>if 0<n∧n≤1000000 then some (.sla n x hi)else none
  |some x,some hi,some (_,W,some n)=>if 0<n∧n≤1000000 then some (.slw n W x hi)else none
  |_,_,_=>none
 |.slice t x none none none=>match opd x,elemT P t with
  |some x,some (_,1,some n)=>if 0<n∧n≤1000000 then some (.sla n x (.c (.int .i64 n)))else none
  |_,_=>none
 |_=>none
def XOp.still:XOp→Bool
 |.eqv _ _ _ _=>true
 |.slen _=>true
 |.sidx _ _=>true
 |.ssl _ _ _=>true
 |.scat _ _=>true
 |.mif _ _=>true
 |.nif _ _=>true
 |.tas _ _ _=>true
 |_=>false
def XOp.read:XOp→Bool
 |.look _ _ _ _ _=>true
 |.mlen _=>true
 |_=>false
def idxK (k:PV):List (PV×PV)→Option Nat
 |[]=>none
 |(k',_)::r=>match eqK k k' with
  |true=>some 0
  |false=>(idxK k r).map (·+1)
theorem ZiK (k:PV):∀es:List (PV×PV),findV k es=(idxK k es).bind fun j=>(es[j]?).map (·.2)
 |[]=>rfl
 |(k',v)::r=>by
  unfold findV idxK;cases eqK k k' with
  |true=>rfl
  |false=>
   rw[ZiK k r];cases idxK k r<;>simp
theorem ZkE (k v:PV):∀es:List (PV×PV),putK k v es=match idxK k es with
  |some j=>es.set j (k,v)
  |none=>es++[(k,v)]
 |[]=>rfl
 |(k',v')::r=>by
  unfold putK idxK;cases eqK k k' with
  |true=>rfl
  |false=>
   dsimp only;rw[ZkE k v r];cases idxK k r<;>simp
theorem ZjF {k:PV}:∀{es:List (PV×PV)} {j:Nat},idxK k es=some j→∃p,es[j]?=some p∧eqK k p.1=true
 |[],j,h=>by simp[idxK]at h
 |(k',v)::r,j,h=>by
  unfold idxK at h;cases he:eqK k k' with
  |true=>rw[he]at h;cases h;exact⟨_,rfl,he⟩
  |false=>
   rw[he]at h;obtain⟨j',h1,rfl⟩:=ZxP.1 h;obtain⟨p,h2,h3⟩:=ZjF h1;exact⟨p,by simpa using h2,h3⟩
def EntR (kt:KT):List MapEntry→List (PV×PV)→Prop
 |[],[]=>True
 |e::r,p::q=>(e.key=toK kt.wide p.1.cells∧ckAll kt.ks p.1.cells=true)∧EntR kt r q
 |_,_=>False
theorem EntR.of {m:Mem}{kt:KT}:∀{ents:List MapEntry} {es:List (PV×PV)},ents.length=es.length→(∀(i:Nat) (e:MapEntry) (p:PV×PV),ents[i]?=some e→es[i]?=some p→RdP m e.key p.1∧RdP m e.val p.2)→Zbi kt es=true→EntR kt ents es
 |[],[],_,_,_=>trivial
 |[],_::_,h,_,_=>by simp at h
 |_::_,[],h,_,_=>by simp at h
 |e::r,p::q,h,h1,h2=>by
  simp only[Zbi,List.all_cons,ZxO]at h2;exact⟨Zit h2.1 (h1 0 e p rfl rfl).1,EntR.of (by simpa using h) (fun i e' p' k1 k2=>h1 (i+1) e' p' (by simpa using k1) (by simpa using k2)) h2.2⟩
theorem EntR.get {kt:KT}:∀{ents:List MapEntry} {es:List (PV×PV)} {j:Nat} {p:PV×PV},EntR kt ents es→es[j]?=some p→∃e,ents[j]?=some e∧e.key=toK kt.wide p.1.cells∧ckAll kt.ks p.1.cells=true
 |[],[],j,p,_,h=>by simp at h
 |[],_::_,j,p,h,_=>h.elim
 |_::_,[],j,p,h,_=>h.elim
 |e::r,p'::q,j,p,h,hj=>by
  cases j with
  |zero=>simp at hj;subst hj;exact⟨e,rfl,h.1⟩
  |succ j=>
   obtain⟨e',k1,k2⟩:=EntR.get (j:=j) h.2 (by simpa using hj);exact⟨e',by simpa using k1,k2⟩
section
variable {P:Program}{w:World}
theorem Zkx {t:TypeId}{kt:KT}(hk:ckT P 20 t=some kt){k:PV}(hl:ckAll kt.ks k.cells=true)(w:World):∀(ents:List MapEntry) (es:List (PV×PV)) (i:Nat),EntR kt ents es→
  (Instr.findAsking t (toK kt.wide k.cells) ents i).run P w=.ok ((idxK k es).bind fun j=>(ents[j]?).map fun e=>(i+j,e.val)) w
 |[],[],i,_=>by simp[Instr.findAsking,idxK]
 |[],_::_,i,h=>h.elim
 |_::_,[],i,h=>h.elim
 |e::ents,p::es,i,h=>by
  obtain⟨⟨h1,h2⟩,h3⟩:=h;have hr:=Zc8 (w:=w) 20 t kt hk 10000 (by omega) k.cells p.1.cells hl h2;have ih:=Zkx hk hl w ents es (i+1) h3;simp only[Instr.findAsking,Sem.run_bind,h1,Op.equal,Op.maxDepth,hr,Result.andThen_ok];obtain⟨pk,pv⟩:=p;unfold idxK eqK;cases eqL k.cells pk.cells with
  |true=>simp
  |false=>
   simp only[Bool.false_eq_true,if_false,ih];congr 1;cases idxK k es with
   |none=>rfl
   |some j=>
    simp only[Zyq,Option.bind_some,List.getElem?_cons_succ];rw[show i+1+j=i+(j+1) by omega]
theorem ZnC {d:Nat}{t:TypeId}{kt:KT}(hk:ckT P d t=some kt)(hw:kt.wide=false){dd:TypeDesc}(hu:P.underlying t=some dd){l l':List PV}(h1:ckAll kt.ks l=true)(h2:ckAll kt.ks l'=true):
  Instr.sameNow dd (toK kt.wide l) (toK kt.wide l')=some (eqL l l'):=by
 cases d with
 |zero=>simp[ckT]at hk
 |succ d=>
  unfold ckT at hk;rw[hu]at hk;cases dd
  case bool=>
   cases hk;obtain⟨x,rfl,hx⟩:=Zaz h1;obtain⟨y,rfl,hy⟩:=Zaz h2;obtain⟨a,rfl⟩:=ZcW hx;obtain⟨b,rfl⟩:=ZcW hy;simp[toK,toV,Instr.sameNow,eqL,eqC]
  case int q=>
   cases hk;obtain⟨x,rfl,hx⟩:=Zaz h1;obtain⟨y,rfl,hy⟩:=Zaz h2;obtain⟨a,rfl⟩:=ZeM hx;obtain⟨b,rfl⟩:=ZeM hy;simp[toK,toV,Instr.sameNow,eqL,eqC]
  case string=>
   cases hk;obtain⟨x,rfl,hx⟩:=Zaz h1;obtain⟨y,rfl,hy⟩:=Zaz h2;obtain⟨a,rfl⟩:=Zdp hx;obtain⟨b,rfl⟩:=Zdp hy;simp[toK,toV,Instr.sameNow,eqL,eqC,beq_toListBytes]
  case array n e=>
   simp only at hk;split at hk
   ·split at hk
    ·cases hk;cases hw
    ·cases hk
   ·cases hk
  case struct fs=>
   simp only at hk;split at hk
   ·obtain⟨ks,_,rfl⟩:=ZxP.1 hk;cases hw
   ·cases hk
  all_goals (cases hk)
theorem Zd4 {t:TypeId}{kt:KT}(hk:ckT P 20 t=some kt)(hw:kt.wide=false){dd:TypeDesc}(hu:P.underlying t=some dd){k:PV}(hl:ckAll kt.ks k.cells=true):∀(ents:List MapEntry) (es:List (PV×PV)) (i:Nat),EntR kt ents es→
  Instr.findNow dd (toK kt.wide k.cells) ents i=some ((idxK k es).bind fun j=>(ents[j]?).map fun e=>(i+j,e.val))
 |[],[],i,_=>by simp[Instr.findNow,idxK]
 |[],_::_,i,h=>h.elim
 |_::_,[],i,h=>h.elim
 |e::ents,p::es,i,h=>by
  obtain⟨⟨h1,h2⟩,h3⟩:=h;have ih:=Zd4 hk hw hu hl ents es (i+1) h3;simp only[Instr.findNow,h1,ZnC hk hw hu hl h2];obtain⟨pk,pv⟩:=p;unfold idxK eqK;cases eqL k.cells pk.cells with
  |true=>simp
  |false=>
   simp only[ih];congr 1;cases idxK k es with
   |none=>rfl
   |some j=>
    simp only[Zyq,Option.bind_some,List.getElem?_cons_succ];rw[show i+1+j=i+(j+1) by omega]
theorem Zg9 {t:TypeId}{kt:KT}(hk:ckT P 20 t=some kt){k:PV}(hl:ckAll kt.ks k.cells=true)(w:World){ents:List MapEntry}{es:List (PV×PV)}(h:EntR kt ents es):
  (Instr.findKey t (toK kt.wide k.cells) ents).run P w=.ok ((idxK k es).bind fun j=>(ents[j]?).map fun e=>(j,e.val)) w:=by
 obtain⟨i,hi⟩:=Ze2 hk;cases hu:P.underlying t with
 |none=>rw[ckT,hu]at hk;cases hk
 |some dd=>
  cases hw:kt.wide with
  |false=>
   have:=Zd4 hk hw hu hl ents es 0 h
   rw[hw]at this;simp only[Instr.findKey,Sem.run_bind,run_underlying hu,Result.andThen_ok,this,Zyj,Sem.run_pure]
  |true=>
   have ha:=Zkx hk hl w ents es 0 h;rw[hw]at ha;simp only[Zyj]at ha;simp only[Instr.findKey,Sem.run_bind,run_underlying hu,Result.andThen_ok];cases ents with
   |nil=>
    cases es with
    |nil=>simp[Instr.findNow,idxK]
    |cons=>exact h.elim
   |cons e r=>
    have hn:Instr.findNow dd (toK true k.cells) (e::r) 0=none:=by
     simp only[Instr.findNow,toK,if_true];cases dd<;>rfl
    rw[hn];exact ha
theorem ZeF {k:CK}{x:PV}(h:k.ok x=true)(n:Nat):Instr.sameBits n (toV x) (toV x)=true:=by
 cases k with
 |int k=>obtain⟨a,rfl⟩:=ZeM h;simp[toV,Instr.sameBits]
 |bool=>obtain⟨a,rfl⟩:=ZcW h;simp[toV,Instr.sameBits]
 |str=>obtain⟨a,rfl⟩:=Zdp h;simp[toV,Instr.sameBits,beq_toListBytes]
theorem ZlK {kt:KT}{x:PV}(hx:kt.ok x=true)(w:World):(Instr.keyThatStays (toK kt.wide x.cells) (toK kt.wide x.cells)).run P w=.ok (toK kt.wide x.cells) w:=by
 have hs:Instr.sameBits 10000 (toK kt.wide x.cells) (toK kt.wide x.cells)=true:=by
  cases hw:kt.wide with
  |true=>
   have hall:ckAll kt.ks x.cells=true:=by
    cases x<;>simp_all [KT.ok,PV.cells]
   simp only[toK,if_true,Instr.sameBits,Zyd,BEq.rfl,Bool.true_and,Zx7,List.zip_map',ZxY];intro q hq;obtain⟨c,hc,rfl⟩:=hq;obtain⟨j,hj⟩:=ZxV.1 hc;obtain⟨k,hk⟩:=ZcY hall hj;exact ZeF hk _
  |false=>
   have hall:∃k:CK,k.ok (x.cells.headD .nilp)=true:=by
    have:ckAll kt.ks [x]=true∧x.cells=[x]:=by cases x<;>simp_all [KT.ok,PV.cells]
    rw[this.2];exact ZcY this.1 (j:=0) rfl
   obtain⟨k,hk⟩:=hall;exact ZeF hk _
 simp[Instr.keyThatStays,hs]
end
section
variable {P:Program}{N:Nat}{w0:World}{m0:Env w0}{pl:List Nat}{σ:AS}{ρ:Site→Loc}{m:Mem}{act:Act}{w:World}{o:Oper}{d:Nat}{K:AV→AS→Prop}
theorem Zid (w:World)(l:Nat)(o:Obj):Keep [l] w (w.putObj l o):=⟨rfl,rfl,rfl,by simp,fun k hk hn=>World.putObj_heap_other (by simpa using hn)⟩
theorem RdA.ZwO {v:Value}{s:Site}(h:RdA ρ m v (.mp s)):v=.map (some (ρ s).b):=by cases h;rfl
theorem RdA.Zwc {v:Value}(h:RdA ρ m v (.pv .nilmap)):v=.map none:=by
 cases h with
 |pv _ _ h=>cases h;rfl
theorem Zom {G:World→Prop}{op:BinOp}{t u:TypeId}{x y:Operand}{x' y':Opd}{kt:KT}{neg:Bool}(hx:opd x=some x')(hy:opd y=some y')(hk:ckT P 20 t=some kt)(hc:(kt.wide=true∧P.eqGuardType P.depth t=false)∨kt=⟨false,[.str]⟩)
  (hop:op=.eql∧neg=false∨op=.neq∧neg=true) (ho:o.op=.binOp op t x y u) (h:opWpX (.eqv neg kt x' y') d K σ) (hS:Sat N w0 m0 pl σ ρ m act w):ResP G P σ ρ m o act w K:=by
 simp only[opWpX]at h;have h1:=hS.opd hx;have h2:=hS.opd hy;split at h
 ·rename_i a b ea eb;obtain⟨ha,hb,hK⟩:=h;rw[ea]at h1;rw[eb]at h2;obtain⟨v1,c1⟩:=Zit ha h1.Zu5;obtain⟨v2,c2⟩:=Zit hb h2.Zu5;refine .pure hS (v:=.bool (eqK a b != neg)) ?_ (.pv _ _ (.bool _)) hK;intro w' _;unfold execOp;simp only[ho,v1,v2];rcases hc with⟨hw,hg⟩|hc
  ·have he:=Zc8 (w:=w') 20 t kt hk 10000 (by omega) _ _ c1 c2;simp only[toK,hw,if_true]at he ⊢;rcases hop with⟨rfl,rfl⟩|⟨rfl,rfl⟩
   ·simp only[Sem.run_bind,run_eqGuard_agg w' _ t x y _ _ hg,Result.andThen_ok,run_eql_struct,he,Sem.run_pure];simp[eqK]
   ·simp only[Sem.run_bind,run_eqGuard_agg w' _ t x y _ _ hg,Result.andThen_ok,run_neq_struct,he,Sem.run_pure];simp[eqK]
  ·subst hc;obtain⟨x1,e1,hx1⟩:=Zaz c1;obtain⟨x2,e2,hx2⟩:=Zaz c2;obtain⟨s1,rfl⟩:=Zdp hx1;obtain⟨s2,rfl⟩:=Zdp hx2;simp only[eqK,e1,e2,toK,Bool.false_eq_true,if_false,List.headD_cons,toV,eqL,eqC,Bool.and_true];rcases hop with⟨rfl,rfl⟩|⟨rfl,rfl⟩<;>simp[eqGuard,binOp,Op.stringOp]
 ·exact h.elim
theorem Zs2 {t:TypeId}(ho:o.op=.makeMap t none)(h:opWpX .mmk d K σ)(hS:Sat N w0 m0 pl σ ρ m act w):Res P N w0 m0 pl o act w K:=by
 have hr:(execOp act.eval o).run P w=.ok (.value (.map (some w.heap.size))) (w.alloc (.map #[] 0)):=by
  unfold execOp;simp[ho,Instr.makeMap]
 have hu:=ZaL ρ (.loc d 0) ⟨w.heap.size,0,0,true⟩;have hp:=hS.Zu0 d;refine⟨_,_,.mp (.loc d 0),_,upd ρ (.loc d 0) ⟨w.heap.size,0,0,true⟩,m,.inl hr,h,(hp.ext (Ext.al w _)).add (NoD.Zu0 d σ) ⟨by rw[hu],#[],0,by rw[hu];exact World.alloc_heap_new w _,rfl,fun i e p k=>by simp at k⟩ (fun _ s b k r=>?_) (fun _ o=>hp.Zv4 (ZxR _) o) (fun _=>.inl hp.keep.size),?_,fun _=>Ext.al _ _⟩
 ·have hx:Ext w (w.alloc (.map #[] 0)):=Ext.al w _
  have:=hp.ltk k (((hp.bx s b k).blk_same (fun r=>hx.block _ (hp.lt k r))).1 r)
  simp at this
 ·have:=RdA.mp (ρ:=upd ρ (.loc d 0) ⟨w.heap.size,0,0,true⟩) (m:=m) (.loc d 0)
  rw[hu]at this;exact this
theorem Zcn {e:TypeId}{z:PV}(h:ZaN P e=some z)(w:World)(m:Mem):∃v,(zeroValue e).run P w=.ok v w∧RdP m v z:=by
 unfold ZaN at h;cases hv:zeroT P e with
 |none=>simp[hv]at h
 |some zv=>
  simp only[hv,Option.bind_some]at h;refine⟨zv,ZbJ hv w,?_⟩;unfold pvz at h;split at h
  ·rename_i cs;obtain⟨xs,k1,rfl⟩:=ZxP.1 h;obtain⟨k2,k3⟩:=Zju (m:=m) k1;obtain⟨_,z2,_⟩:=Zb1 (v:=.agg cs) (x:=.agg xs) (by unfold pvz;exact ZxP.2 ⟨xs,k1,rfl⟩) m;exact .agg cs xs (by simpa using k2) (fun d hd=>z2 d (by simpa[Value.cells]using hd)) (fun j d c h1 h2=>k3 j d c (by simpa using h1) h2)
  ·exact Zhe h m
theorem Zp7 {t k e:TypeId}{x i:Operand}{x' i':Opd}{kt:KT}{z:PV}{ok:Bool}(hx:opd x=some x')(hi:opd i=some i')(hu:P.underlying t=some (.map k e))(hk:ckT P 20 k=some kt)(hz:ZaN P e=some z)
  (ho:o.op=.lookup t x i ok) (h:opWpX (.look kt z ok x' i') d K σ) (hS:Sat N w0 m0 pl σ ρ m act w):ResP (Stay σ ρ m w) P σ ρ m o act w K:=by
 simp only[opWpX]at h;have h1:=hS.opd hx;have h2:=hS.opd hi;split at h
 ·rename_i key ei;obtain⟨hok,h⟩:=h;rw[ei]at h2;obtain⟨v2,c2⟩:=Zit hok h2.Zu5;split at h
  ·rename_i s ex;rw[ex]at h1;split at h
   ·rename_i es hb;obtain⟨hks,hK⟩:=h;obtain⟨hr,ents,clock,g1,g2,g3⟩:=hS.bx s _ hb;have hE:EntR kt ents.toList es:=EntR.of (m:=m) (by simpa using g2) (fun i e p k1 k2=>g3 i e p (by simpa using k1) k2) hks;obtain⟨zv,_,hzr⟩:=Zcn hz w m;have hz':∀w',(zeroValue e).run P w'=.ok zv w':=fun w'=>by
     obtain⟨v',q1,_⟩:=Zcn hz w' m;obtain⟨v'',q2,_⟩:=Zcn hz w m;unfold ZaN at hz;cases hv:zeroT P e with
     |none=>simp[hv]at hz
     |some zz=>
      have a1:=ZbJ hv w;have a2:=ZbJ hv w';rw[‹(zeroValue e).run P w=.ok zv w›]at a1;cases a1;exact a2
    have kr:∀w',Stay σ ρ m w w'→(execOp act.eval o).run P w'=.ok (.value (let r:=(idxK key es).bind fun j=>(ents.toList[j]?).map fun e=>(j,e.val);let p:Value×Bool:=match r with
      |some (_,v)=>(v,true)
      |none=>(zv,false);if ok=true then .tuple #[p.1,.bool p.2]else p.1)) w':=by
     intro w' hst;have hb':w'.heap[(ρ s).b]?=some (.map ents clock):=(hst.2 s _ hb hr).trans g1;unfold execOp;simp only[ho,v2,h1.ZwO,Sem.run_bind,Instr.lookup,run_underlying hu,Result.andThen_ok,MapKept.run_getObj_map hb',Sem.run_pure,ZbT _ 20 k kt hk 10000 (by omega) _ c2 w',Zg9 hk c2 w' hE];cases(idxK key es).bind fun j=>(ents.toList[j]?).map fun e=>(j,e.val)with
     |none=>cases ok<;>simp[hz' w']
     |some q=>cases ok<;>simp
    refine⟨_,lookA ok (findV key es) z,kr,?_,hK⟩;rw[ZiK];cases hix:idxK key es with
    |none=>
     simp only[Option.bind_none];cases ok with
     |true=>exact .pv _ _ (.tup _ _ rfl (fun j dd c e1 e2=>by
       match j with
       |0=>simp at e1 e2;subst e1 e2;exact hzr
       |1=>simp at e1 e2;subst e1 e2;exact .bool _
       |j+2=>simp at e2))
     |false=>exact .pv _ _ hzr
    |some j=>
     obtain⟨p,hp,_⟩:=ZjF hix;obtain⟨en,he,_⟩:=hE.get hp;have hv:=(g3 j en p (by simpa using he) hp).2;simp only[Option.bind_some,he,hp,Zyq];cases ok with
     |true=>exact .pv _ _ (.tup _ _ rfl (fun j dd c e1 e2=>by
       match j with
       |0=>simp at e1 e2;subst e1 e2;exact hv
       |1=>simp at e1 e2;subst e1 e2;exact .bool _
       |j+2=>simp at e2))
     |false=>exact .pv _ _ hv
   ·exact h.elim
  ·rename_i ex;rw[ex]at h1;obtain⟨zv,hz0,hzr⟩:=Zcn hz w m;have kr:∀w',(execOp act.eval o).run P w'=.ok (.value (if ok=true then .tuple #[zv,.bool false]else zv)) w':=by
    intro w';have a2:(zeroValue e).run P w'=.ok zv w':=by
     unfold ZaN at hz;cases hv:zeroT P e with
     |none=>simp[hv]at hz
     |some zz=>
      have a1:=ZbJ hv w;rw[hz0]at a1;cases a1;exact ZbJ hv w'
    have hn:∀w',(Instr.findKey k (toK kt.wide key.cells) []).run P w'=.ok none w':=fun w'=>by
     have:=Zg9 (ents:=[]) (es:=[]) hk c2 w' trivial
     simpa[idxK]using this
    unfold execOp;simp only[ho,v2,h1.Zwc,Sem.run_bind,Instr.lookup,run_underlying hu,Result.andThen_ok,Sem.run_pure,ZbT _ 20 k kt hk 10000 (by omega) _ c2 w',hn w'];cases ok<;>simp[a2]
   refine⟨_,lookA ok none z,fun w' _=>kr w',?_,h⟩;cases ok with
   |true=>exact .pv _ _ (.tup _ _ rfl (fun j dd c e1 e2=>by
     match j with
     |0=>simp at e1 e2;subst e1 e2;exact hzr
     |1=>simp at e1 e2;subst e1 e2;exact .bool _
     |j+2=>simp at e2))
   |false=>exact .pv _ _ hzr
  ·exact h.elim
 ·exact h.elim
theorem Zmv {t k e:TypeId}{x i v:Operand}{x' i' v':Opd}{kt:KT}(hx:opd x=some x')(hi:opd i=some i')(hv:opd v=some v')(hu:P.underlying t=some (.map k e))(hk:ckT P 20 k=some kt)
  (ho:o.op=.mapUpdate t x i v∨o.op=.insert t x i v) (h:opWpX (.upd kt x' i' v') d K σ) (hS:Sat N w0 m0 pl σ ρ m act w):Res P N w0 m0 pl o act w K:=by
 simp only[opWpX]at h;have h1:=hS.opd hx;have h2:=hS.opd hi;split at h
 ·rename_i key ei;obtain⟨hok,h⟩:=h;rw[ei]at h2;obtain⟨v2,c2⟩:=Zit hok h2.Zu5;split at h
  ·rename_i s ex;rw[ex]at h1;obtain⟨m1,hm1,hF⟩:=hS.Zv7 (σ.o v');generalize hτ:σ.Zv7 (σ.o v')=τ at h hF;split at h
   ·rename_i es val hb hvv;obtain⟨hks,hK⟩:=h;have h3:=hF.opd hv;rw[hvv]at h3;have hvr:=h3.Zu5;have hkr:RdP m1 (act.eval i) key:=h2.Zu5.mono hm1;obtain⟨hr,ents,clock,g1,g2,g3⟩:=hF.bx s _ hb;have hE:EntR kt ents.toList es:=EntR.of (m:=m1) (by simpa using g2) (fun i e p k1 k2=>g3 i e p (by simpa using k1) k2) hks;have fin:∀ents' clock',(Instr.mapUpdate t (.map (some (ρ s).b)) (act.eval i) (act.eval v)).run P w=.ok () (w.putObj (ρ s).b (.map ents' clock'))→ents'.size=(putK key val es).length→
      (∀(j:Nat) (e:MapEntry) (p:PV×PV),ents'[j]?=some e→(putK key val es)[j]?=some p→RdP m1 e.key p.1∧RdP m1 e.val p.2)→Res P N w0 m0 pl o act w K:=by
     intro ents' clock' hrun e1 e2;have hr':(execOp act.eval o).run P w=.ok .skip (w.putObj (ρ s).b (.map ents' clock')):=by
      unfold execOp;rcases ho with ho|ho<;>simp only[ho,h1.ZwO,Sem.run_bind,hrun,Result.andThen_ok,Sem.run_pure]
     refine⟨undef,_,.any,_,ρ,m1,.inr ⟨hr',rfl⟩,hK,hF.Zwn hb hr (Zid w _ _) ⟨hr,ents',clock',World.putObj_heap_same (Zx8.1 g1).1,e1,e2⟩,.any _,fun hm=>?_⟩;rcases ho with ho|ho<;>(rw[ho]at hm;cases hm)
    rw[ZkE]at fin;have hfind:=Zg9 hk c2 w hE;cases hix:idxK key es with
    |none=>
     rw[hix]at fin hfind;simp only[Option.bind_none]at hfind;refine fin (ents.push { key:=act.eval i,val:=act.eval v,born:=clock }) (clock+1) ?_ (by simp[g2]) (fun j en p k1 k2=>?_)
     ·simp only[Instr.mapUpdate,Sem.run_bind,run_underlying hu,Result.andThen_ok,MapKept.run_getObj_map g1,v2,ZbT _ 20 k kt hk 10000 (by omega) _ c2 w,hfind,MapKept.run_setObj_map _ g1];rfl
     ·rw[Array.getElem?_push]at k1;dsimp only at k2;rw[Zyl]at k2;split at k1
      ·rename_i hj;cases k1;rw[if_neg (by omega)]at k2
       have:p=(key,val):=by
        rw[hj,g2,Nat.sub_self]at k2;simpa using k2.symm
       subst this;exact⟨hkr,hvr⟩
      ·have hj:=(Zx8.1 k1).1;rw[if_pos (by omega)]at k2;exact g3 j en p k1 k2
    |some j0=>
     rw[hix]at fin hfind;obtain⟨p0,hp0,hpe⟩:=ZjF hix;obtain⟨en0,he0,hk0,hck0⟩:=hE.get hp0;have he0':ents[j0]?=some en0:=by simpa using he0
     simp only[Option.bind_some,he0,Zyq]at hfind;have hsame:en0.key=act.eval i:=by
      rw[hk0,v2];rw[ZrO c2 hck0 hpe]
     have hst:=ZlK (P:=P) hok w;refine fin (ents.modify j0 fun e=>{ e with key:=act.eval i,val:=act.eval v }) clock ?_ (by simp[g2]) (fun j en p k1 k2=>?_)
     ·rw[←v2]at hst hfind;have hck:=ZbT (P:=P) false 20 k kt hk 10000 (by omega) _ c2 w;rw[←v2]at hck;simp only[Instr.mapUpdate,Sem.run_bind,run_underlying hu,Result.andThen_ok,MapKept.run_getObj_map g1,hck,hfind,he0',Zyq,Zym,hsame,hst,MapKept.run_setObj_map _ g1];rfl
     ·rw[Array.getElem?_modify]at k1;dsimp only at k2;split at k1
      ·rename_i hj;subst hj;rw[he0',Zyq]at k1;cases k1;have hlt:=(ZxN.1 hp0).1;rw[ZyA hlt]at k2;cases k2;exact⟨hkr,hvr⟩
      ·rename_i hj;rw[ZyC hj]at k2;exact g3 j en p k1 k2
   ·exact h.elim
  ·exact h.elim
 ·exact h.elim
theorem ZpX {t k e:TypeId}{c:Call}{x:Operand}{x':Opd}(hx:opd x=some x')(hu:P.underlying t=some (.map k e))(hc:c.callee=.builtin .len)(ha:c.args.toList=[x])(ht:c.argTypes.toList=[t])(ho:o.op=.call c)
  (h:opWpX (.mlen x') d K σ) (hS:Sat N w0 m0 pl σ ρ m act w):ResP (Stay σ ρ m w) P σ ρ m o act w K:=by
 simp only[opWpX]at h;have h1:=hS.opd hx;have hargs:c.args=#[x]:=Zyv.1 (by simpa using ha);have htys:c.argTypes=#[t]:=Zyv.1 (by simpa using ht);have ex:∀{w':World} {v:Value},(Builtin.len_ #[t] o.type #[act.eval x]).run P w'=.ok v w'→(execOp act.eval o).run P w'=.ok (.value v) w':=fun h=>by
  unfold execOp;simp only[ho];simp[resolve,hc,hargs,htys,invoke,builtin,h]
 split at h
 ·rename_i s es0;rw[es0]at h1;split at h
  ·rename_i es hb;obtain⟨hr,ents,clock,g1,g2,g3⟩:=hS.bx s _ hb;refine⟨.int .i64 es.length,_,fun w' hst=>ex ?_,.pv _ _ (.int _ _),h⟩;have hb':w'.heap[(ρ s).b]?=some (.map ents clock):=(hst.2 s _ hb hr).trans g1;simp[Builtin.len_,run_underlying hu,h1.ZwO,MapKept.run_getObj_map hb',goInt,g2]
  ·exact h.elim
 ·rename_i es0;rw[es0]at h1;refine⟨.int .i64 0,_,fun w' _=>ex ?_,.pv _ _ (.int _ _),h⟩;simp[Builtin.len_,run_underlying hu,h1.Zwc,goInt]
 ·exact h.elim
theorem Flat.take {m:Mem}{ds:List Value}{n:Nat}{xs:List PV}(h:Flat m ds n xs)(k:Nat):Flat m (ds.take (k*n)) n (xs.take k):=by
 refine⟨?_,fun u hu=>h.one u (List.mem_of_mem_take hu),fun i x hi=>?_⟩
 ·rw[ZxT,ZxT,h.len];rcases Nat.le_total k xs.length with h1|h1
  ·rw[Nat.min_eq_left (Zyx _ h1),Nat.min_eq_left h1]
  ·rw[Nat.min_eq_right (Zyx _ h1),Nat.min_eq_right h1]
 ·rw[Zx1]at hi;split at hi
  ·rename_i hik;obtain⟨k1,k2⟩:=h.get i x hi;refine⟨k1,fun j c hj=>?_⟩;obtain⟨u,q1,q2⟩:=k2 j c hj;have hjn:j<n:=by have:=(ZxN.1 hj).1;omega
   have:=ZaI (n:=n) hik
   exact⟨u,by rw[Zx1,if_pos (by omega)];exact q1,q2⟩
  ·cases hi
theorem Sat.over (hS:Sat N w0 m0 pl σ ρ m act w){s:Site}{e n lo:Nat}{xs zs:List PV}{ds:List Value}(hb:σ.b s=some (.arr e n xs))(hr:(ρ s).real=true){cs:Array Value}(g1:w.heap[(ρ s).b]?=some (.cells cs e (0,0)))(hf:Flat m ds n zs)(hl:lo+zs.length≤xs.length):
  (ρ s).o+lo*n+ds.length≤cs.size∧Sat N w0 m0 pl (σ.set s (.arr e n (splice xs lo zs))) ρ m act (w.setRow (ρ s).b (splice cs.toList ((ρ s).o+lo*n) ds).toArray):=by
 obtain⟨hn,hB|⟨_,cs',g1',g2,g3,g4,g5⟩⟩:=hS.bx s _ hb
 ·rw[hB.1]at hr;cases hr
 rw[g1]at g1';cases g1';have hcl:cs.toList.length=cs.size:=Zyf;have hfit:(ρ s).o+lo*n+ds.length≤cs.size:=by
  have h1:(lo+zs.length)*n≤(ρ s).cap*n:=Zyx _ (by omega);rw[Nat.add_mul]at h1;rw[hf.len];omega
 refine⟨hfit,hS.Zwn hb hr (Keep.setRow w _ _) ⟨hn,.inr ⟨hr,_,setRow_heap w _ cs _ e _ g1,?_,?_,g4,fun i x hi=>?_⟩⟩⟩
 ·rw[Zyd,Zat (by rw[hcl];exact hfit),hcl];exact g2
 ·rw[Zat hl];exact g3
 ·rw[Zao hl]at hi;have old:∀(i:Nat) (x:PV),xs[i]?=some x→(i<lo∨lo+zs.length≤i)→x.cells.length=n∧∀(j:Nat) (c:PV),x.cells[j]?=some c→∃d,(splice cs.toList ((ρ s).o+lo*n) ds).toArray[(ρ s).o+i*n+j]?=some d∧d.oneCell'=true∧RdP m d c:=by
   intro i x hx hi;obtain⟨k1,k2⟩:=g5 i x hx;refine⟨k1,fun j c hj=>?_⟩;obtain⟨d,q1,q2,q3⟩:=k2 j c hj;refine⟨d,?_,q2,q3⟩;have hjn:j<n:=by have:=(ZxN.1 hj).1;omega
   rw[Zyo,Zao (by rw[hcl];exact hfit)];rcases hi with hi|hi
   ·have:=ZaI (n:=n) hi
    rw[if_pos (by omega),Zyu];exact q1
   ·have h1:(lo+zs.length)*n≤i*n:=Zyx _ hi;rw[Nat.add_mul]at h1;rw[if_neg (by omega),if_neg (by rw[hf.len];omega),Zyu];exact q1
  split at hi
  ·rename_i h1;exact old i x hi (.inl h1)
  ·split at hi
   ·rename_i h1 h2;obtain⟨k1,k2⟩:=hf.get (i-lo) x hi;refine⟨k1,fun j c hj=>?_⟩;obtain⟨u,q1,q2⟩:=k2 j c hj;have hlt:=(ZxN.1 q1).1;have e1:i*n=lo*n+(i-lo)*n:=by rw[←Nat.add_mul];congr 1;omega
    refine⟨u,?_,hf.one u (ZxQ q1),q2⟩;rw[Zyo,Zao (by rw[hcl];exact hfit),if_neg (by omega),if_pos (by omega),←q1];congr 1;omega
   ·rename_i h1 h2;exact old i x hi (.inr (by omega))
theorem ZkL {e:TypeId}(g:Nat)(q:Nat){cs:Array Value}{ds:List Value}(g1:w.heap[g]?=some (.cells cs e (0,0)))(hfit:q+ds.length≤cs.size)(h1:∀u∈ds,u.oneCell'=true):
  (storeCells ⟨g,q,none⟩ ds).run P w=.ok () (w.setRow g (splice cs.toList q ds).toArray):=by
 have hst:=run_storeCells_at P g q e ds 0 cs w g1 (by simpa using hfit) h1;unfold splice;simpa only[Nat.add_zero]using hst
theorem Zef {α:Type}(l:List α)(k:Nat):splice l k []=l:=by simp[splice]
theorem Sat.same (hS:Sat N w0 m0 pl σ ρ m act w){s:Site}{b:Box}(hb:σ.b s=some b):Sat N w0 m0 pl (σ.set s b) ρ m act w:=by
 have hb':∀s' b',(σ.set s b).b s'=some b'→σ.b s'=some b':=fun s' b' k=>by
  rw[AS.Zwy]at k;split at k
  ·rename_i e;rw[e,hb];exact k
  ·exact k
 exact⟨hS.nod,hS.sz,hS.tm,fun s' b' k=>hS.bx s' b' (hb' s' b' k),fun s1 s2 b1 b2 i k1 k2=>hS.injk s1 s2 b1 b2 i (hb' _ _ k1) (hb' _ _ k2),hS.mem,fun s' b' i k=>hS.offk s' b' i (hb' _ _ k),fun s' b' i k=>hS.ownk s' b' i (hb' _ _ k),hS.keep,hS.base,hS.fro,hS.par⟩
theorem ZqE {t u e n:TypeId}{c:Call}{x y:Operand}{x' y':Opd}(hx:opd x=some x')(hy:opd y=some y')(he:elemT P t=some (e,n,none))(hn:0<n)(hc:c.callee=.builtin .copy)(ha:c.args.toList=[x,y])(ht:c.argTypes.toList=[t,u])(ho:o.op=.call c)
  (h:opWpX (.copy n x' y') d K σ) (hS:Sat N w0 m0 pl σ ρ m act w):Res P N w0 m0 pl o act w K:=by
 simp only[opWpX]at h;obtain⟨hu,hs⟩:=ZaV he;have h1:=hS.opd hx;have hargs:c.args=#[x,y]:=Zyv.1 (by simpa using ha);have htys:c.argTypes=#[t,u]:=Zyv.1 (by simpa using ht);have ex:∀{w':World} {v:Value},(Builtin.copy_ #[t,u] o.type #[act.eval x,act.eval y]).run P w=.ok v w'→(execOp act.eval o).run P w=.ok (.value v) w':=fun h=>by
  unfold execOp;simp only[ho];simp[resolve,hc,hargs,htys,invoke,builtin,h]
 have hm:o.op.mild=true→False:=fun hm=>by rw[ho]at hm;cases hm
 split at h
 ·rename_i ys hys;obtain⟨ya,yc,yd,hyv,hyf,hyc⟩:=Zez hn hS (hS.opd hy) hys;have first:∀k,(Builtin.firstCells n (ys.take k).length (.slice ya ys.length yc)).run P w=.ok (yd.take (k*n)).toArray w:=fun k=>
   Zd3 (hyf.take k) (fun j u hj=>hyc j u (by rw[Zx1]at hj;split at hj;exact hj;cases hj)) w (fun _=>rfl) _ rfl ys.length yc
  split at h
  ·rename_i nl e1;rw[e1]at h1;obtain⟨a,hv,hsp⟩:=h1.ZvM;refine⟨_,w,_,σ,ρ,m,.inl (ex (v:=.int .i64 0) (w':=w) ?_),h,hS,.pv _ _ (.int _ _),fun q=>(hm q).elim⟩;have f0:=first 0;simp only[List.take_zero,List.length_nil,Nat.zero_mul]at f0;cases a<;>simp[Builtin.copy_,run_underlying hu,hv,hyv,Builtin.lenOf,Go.Proofs.YtfpmaennjlggeaaGreatDoor.run_sizeOf hs,f0,storeCells,goInt]
  ·rename_i s n' lo len e1;rw[e1]at h1;split at h
   ·rename_i e' n'' xs hb;obtain⟨⟨rfl,rfl,hl⟩,hK⟩:=h;have hmin:(ys.take len).length=min ys.length len:=by rw[ZxT];omega
    rcases h1.Zve with⟨cap,hv,c0,c1,c2⟩|⟨a,hv,c0,hsp⟩
    ·obtain⟨hn0,hB|⟨hr,cs,g1,g2,g3,g4,g5⟩⟩:=hS.bx s _ hb
     ·rw[hB.1]at c2;cases c2
     obtain⟨hfit,hS2⟩:=hS.over hb hr g1 (hyf.take len) (lo:=lo) (by rw[ZxT];omega);refine⟨_,_,_,_,ρ,m,.inl (ex (v:=.int .i64 (ys.take len).length) ?_),hK,hS2,.pv _ _ (.int _ _),fun q=>(hm q).elim⟩;have f0:=first len;rw[hmin]at f0 ⊢;have hst:=ZkL (P:=P) (w:=w) (ρ s).b ((ρ s).o+lo*n'') g1 hfit (hyf.take len).one;simp[Builtin.copy_,run_underlying hu,hv,hyv,Builtin.lenOf,Go.Proofs.YtfpmaennjlggeaaGreatDoor.run_sizeOf hs,f0,hst,goInt]
    ·subst c0;simp only[List.take_zero,Zef]at hK;refine⟨_,w,_,_,ρ,m,.inl (ex (v:=.int .i64 ([]:List PV).length) (w':=w) ?_),hK,hS.same hb,.pv _ _ (.int _ _),fun q=>(hm q).elim⟩;have f0:=first 0;simp only[List.take_zero,List.length_nil,Nat.zero_mul]at f0;cases a<;>simp[Builtin.copy_,run_underlying hu,hv,hyv,Builtin.lenOf,Go.Proofs.YtfpmaennjlggeaaGreatDoor.run_sizeOf hs,f0,storeCells,goInt]
   ·exact h.elim
  ·exact h.elim
 ·exact h.elim
theorem ZoH {t e n:TypeId}{z:PV}{c:Call}{x:Operand}{x':Opd}(hx:opd x=some x')(he:elemT P t=some (e,n,none))(hz:ZaN P e=some z)(hn:0<n)(hzl:z.cells.length=n)(hc:c.callee=.builtin .clear)(ha:c.args.toList=[x])(ht:c.argTypes.toList=[t])(ho:o.op=.call c)
  (h:opWpX (.clear n z x') d K σ) (hS:Sat N w0 m0 pl σ ρ m act w):Res P N w0 m0 pl o act w K:=by
 simp only[opWpX]at h;obtain⟨hu,hs⟩:=ZaV he;have h1:=hS.opd hx;have hargs:c.args=#[x]:=Zyv.1 (by simpa using ha);have htys:c.argTypes=#[t]:=Zyv.1 (by simpa using ht);have ex:∀{w':World} {v:Value},(Builtin.clear_ #[t] o.type #[act.eval x]).run P w=.ok v w'→(execOp act.eval o).run P w=.ok (.value v) w':=fun h=>by
  unfold execOp;simp only[ho];simp[resolve,hc,hargs,htys,invoke,builtin,h]
 have hm:o.op.mild=true→False:=fun hm=>by rw[ho]at hm;cases hm
 have hunit:RdA ρ m (.tuple #[]) (.pv (.tup [])):=.pv _ _ (.tup _ _ rfl (fun j d c e1=>by simp at e1));unfold ZaN at hz;cases hv0:zeroT P e with
 |none=>simp[hv0]at hz
 |some zv=>
 simp only[hv0,Option.bind_some]at hz;obtain⟨z1,z2,z3⟩:=Zb1 hz m;have hzs:zv.cells.size=n:=by omega
 have hzrun:=ZbJ hv0 w;split at h
 ·rename_i nl e1;rw[e1]at h1;obtain⟨a,hv,hsp⟩:=h1.ZvM;refine⟨_,w,_,σ,ρ,m,.inl (ex (v:=.tuple #[]) (w':=w) ?_),h,hS,hunit,fun q=>(hm q).elim⟩;cases a<;>simp[Builtin.clear_,run_underlying hu,hv]
 ·rename_i s n' lo len e1;rw[e1]at h1;split at h
  ·rename_i e' n'' xs hb;obtain⟨⟨rfl,rfl,hl⟩,hK⟩:=h;rcases h1.Zve with⟨cap,hv,c0,c1,c2⟩|⟨a,hv,c0,hsp⟩
   ·by_cases hlen:len=0
    ·subst hlen;simp only[List.replicate_zero,Zef]at hK;refine⟨_,w,_,_,ρ,m,.inl (ex (v:=.tuple #[]) (w':=w) ?_),hK,hS.same hb,hunit,fun q=>(hm q).elim⟩;simp[Builtin.clear_,run_underlying hu,hv]
    ·obtain⟨hn0,hB|⟨hr,cs,g1,g2,g3,g4,g5⟩⟩:=hS.bx s _ hb
     ·rw[hB.1]at c2;cases c2
     have hbang:∀j,j<n''→∃hj:j<zv.cells.size,zv.cells[j]! = zv.cells[j]:=fun j hj=>⟨by omega,getElem!_pos zv.cells j (by omega)⟩
     have hget:∀k,k<len*n''→(Builtin.zeroCells zv.cells len).toList[k]?=some (zv.cells[k%n'']!):=fun k hk=>by
      rw[Zyu];simp only[Builtin.zeroCells,Array.getElem?_map,Array.getElem?_range,hzs];rw[if_pos hk];rfl
     have hflat:Flat m (Builtin.zeroCells zv.cells len).toList n'' (List.replicate len z):=by
      refine⟨by rw[Zyf,Zbv,hzs,List.length_replicate],fun u hu=>?_,fun i x hi=>?_⟩
      ·obtain⟨k,hk⟩:=ZxV.1 hu;have hlt:k<len*n'':=by
        have:=(ZxN.1 hk).1
        rw[Zyf,Zbv,hzs]at this;exact this
       rw[hget k hlt]at hk;cases hk;obtain⟨hj,e1⟩:=hbang (k%n'') (Nat.mod_lt _ hn);rw[e1];exact z2 _ (Array.getElem_mem hj)
      ·rw[List.getElem?_replicate]at hi;split at hi
       ·rename_i hia;cases hi;refine⟨hzl,fun j c hj=>?_⟩;have hjn:j<n'':=by have:=(ZxN.1 hj).1;omega
        obtain⟨hj',e1⟩:=hbang j hjn;have hmod:(i*n''+j)%n''=j:=by rw[Nat.add_comm,Nat.add_mul_mod_self_right,Nat.mod_eq_of_lt hjn]
        have:=ZaI (n:=n'') hia
        exact⟨zv.cells[j],by rw[hget _ (by omega),hmod,e1],z3 j _ c (Zys hj') hj⟩
       ·cases hi
     obtain⟨hfit,hS2⟩:=hS.over hb hr g1 hflat (lo:=lo) (by rw[List.length_replicate];exact hl);refine⟨_,_,_,_,ρ,m,.inl (ex (v:=.tuple #[]) ?_),hK,hS2,hunit,fun q=>(hm q).elim⟩;have hst:=ZkL (P:=P) (w:=w) (ρ s).b ((ρ s).o+lo*n'') g1 hfit hflat.one;obtain⟨len',rfl⟩:∃k,len=k+1:=⟨len-1,by omega⟩;simp[Builtin.clear_,run_underlying hu,hv,hzrun,hst]
   ·subst c0;simp only[List.replicate_zero,Zef]at hK;refine⟨_,w,_,_,ρ,m,.inl (ex (v:=.tuple #[]) (w':=w) ?_),hK,hS.same hb,hunit,fun q=>(hm q).elim⟩;cases a<;>simp[Builtin.clear_,run_underlying hu,hv]
  ·exact h.elim
 ·exact h.elim
theorem Zkv {n:Nat}{x:Operand}{x' hi':Opd}(hx:opd x=some x')(hn:0<n∧n≤1000000)
  (run:∀(A:Addr) (z:Int) (k:IntKind),act.eval x=.pointer (some A)→σ.o hi'=.pv (.int k z)→0≤z→z≤n→(execOp act.eval o).run P w=.ok (.value (.slice (some A) z.toNat n)) w)
  (h:opWpX (.sla n x' hi') d K σ) (hS:Sat N w0 m0 pl σ ρ m act w):Res P N w0 m0 pl o act w K:=by
 simp only[opWpX]at h;have h1:=hS.opd hx;split at h
 ·rename_i k z hz;split at h
  ·rename_i s off ex;rw[ex]at h1;have hv:=h1.Zvk;split at h
   ·rename_i as' hb;split at h
    ·rename_i xs hxs;obtain⟨⟨z0,z1,z2⟩,hK⟩:=h;obtain⟨_,hS2,hm,hm2⟩:=hS.Zxh hb hxs;obtain⟨ds,g1,g2,g3⟩:=Zf3 (hS.bx s _ hb) hxs hm hm2;have hlen:((xs.drop off).take z.toNat).length=z.toNat:=by rw[ZxT,Zyn];omega
     have get:∀(i:Nat) (y:PV),((xs.drop off).take z.toNat)[i]?=some y→xs[off+i]?=some y:=fun i y hy=>by
      rw[Zx1]at hy;split at hy
      ·rwa [Zx3]at hy
      ·cases hy
     refine⟨_,w,_,_,ρ,_,.inl (run _ z k hv hz z0 z1),hK,hS2,.pv _ _ ?_,fun _=>Ext.ZvU _⟩;have hh:=RdP.lst (m:=m.with w (ρ s)) (some ⟨(ρ s).b,off,none⟩) n false 1 ((xs.drop off).take z.toNat) (fun i=>match ds[off+i]? with|some d=>[d]|none=>[]) (by omega) (by omega) (fun e=>by cases e) (fun A hA=>by cases hA;rfl) (fun e=>by cases e)
      (fun i y hy=>?_) (fun i y hy=>?_) (fun i y j d c hy hd hc=>?_)
     ·rw[hlen]at hh;exact hh
     ·have hy':=get i y hy;have hlt:off+i<ds.length:=by rw[g1];exact(ZxN.1 hy').1
      have hd:=ZxL hlt;refine⟨_,_,rfl,?_⟩;rw[hd]
      have:=g2.get _ _ hd
      rw[Zyj]at this;rw[Nat.mul_one];exact⟨this,trivial⟩
     ·have hy':=get i y hy;have hlt:off+i<ds.length:=by rw[g1];exact(ZxN.1 hy').1
      have hd:=ZxL hlt;rw[hd];obtain⟨q1,q2⟩:=g3 _ _ _ hd hy';refine⟨rfl,by rw[q2.ZwF q1];rfl,fun u hu=>by simp at hu;subst hu;exact q1⟩
     ·have hy':=get i y hy;have hlt:off+i<ds.length:=by rw[g1];exact(ZxN.1 hy').1
      have hdd:=ZxL hlt;rw[hdd]at hd;obtain⟨q1,q2⟩:=g3 _ _ _ hdd hy';rw[q2.ZwF q1]at hc;cases j with
      |zero=>simp at hd hc;subst hd hc;exact q2
      |succ j=>simp at hd
    ·exact h.elim
   ·exact h.elim
  ·rename_i xs ex;rw[ex]at h1;obtain⟨⟨z0,z1,z2⟩,hK⟩:=h;obtain⟨b,off,ds,hv,g1,g2,g3,g4⟩:=h1.Zv3;have hlen:(xs.take z.toNat).length=z.toNat:=by rw[ZxT];omega
   have get:∀(i:Nat) (y:PV),(xs.take z.toNat)[i]?=some y→xs[i]?=some y:=fun i y hy=>by
    rw[Zx1]at hy;split at hy
    ·exact hy
    ·cases hy
   refine⟨_,w,_,_,ρ,m,.inl (run _ z k hv hz z0 z1),hK,hS,.pv _ _ ?_,fun _=>Ext.ZvU _⟩;have hh:=RdP.lst (m:=m) (some ⟨b,off,none⟩) n false 1 (xs.take z.toNat) (fun i=>match ds[i]? with|some d=>[d]|none=>[]) (by omega) (by omega) (fun e=>by cases e) (fun A hA=>by cases hA;rfl) (fun e=>by cases e)
    (fun i y hy=>?_) (fun i y hy=>?_) (fun i y j d c hy hd hc=>?_)
   ·rw[hlen]at hh;exact hh
   ·have hy':=get i y hy;have hlt:i<ds.length:=by rw[g2];exact(ZxN.1 hy').1
    have hd:=ZxL hlt;refine⟨_,_,rfl,?_⟩;rw[hd,Nat.mul_one];exact⟨g1.get _ _ hd,trivial⟩
   ·have hy':=get i y hy;have hlt:i<ds.length:=by rw[g2];exact(ZxN.1 hy').1
    have hd:=ZxL hlt;rw[hd];have q1:=g3 _ (Zyh hlt);have q2:=g4 _ _ _ hd hy';refine⟨rfl,by rw[q2.ZwF q1];rfl,fun u hu=>by simp at hu;subst hu;exact q1⟩
   ·have hy':=get i y hy;have hlt:i<ds.length:=by rw[g2];exact(ZxN.1 hy').1
    have hdd:=ZxL hlt;rw[hdd]at hd;have q1:=g3 _ (Zyh hlt);have q2:=g4 _ _ _ hdd hy';rw[q2.ZwF q1]at hc;cases j with
    |zero=>simp at hd hc;subst hd hc;exact q2
    |succ j=>simp at hd
  ·exact h.elim
 ·exact h.elim
theorem Zsr {t e:TypeId}{n:Nat}{x hi:Operand}{x' hi':Opd}(hx:opd x=some x')(hh:opd hi=some hi')(he:elemT P t=some (e,1,some n))(hn:0<n∧n≤1000000)(ho:o.op=.slice t x none (some hi) none)
  (h:opWpX (.sla n x' hi') d K σ) (hS:Sat N w0 m0 pl σ ρ m act w):Res P N w0 m0 pl o act w K:=by
 obtain⟨hu,hs⟩:=ZcV he;refine Zkv hx hn (fun A z k ex hz z0 z1=>?_) h hS;have h2:=hS.opd hh;rw[hz]at h2;have ez:=h2.Zvc;unfold execOp;simp only[ho,ex,Sem.run_bind];have hne:¬n=0:=by omega
 simp[Instr.sliceAt,run_underlying hu,Instr.sliceBounds,run_sizeOf hs,ez,Instr.sliceBound,asIntOf,z0,z1,Instr.sureAddr,Addr.add,hne]
theorem Zpk {t e:TypeId}{n:Nat}{x:Operand}{x':Opd}(hx:opd x=some x')(he:elemT P t=some (e,1,some n))(hn:0<n∧n≤1000000)(ho:o.op=.slice t x none none none)
  (h:opWpX (.sla n x' (.c (.int .i64 n))) d K σ) (hS:Sat N w0 m0 pl σ ρ m act w):Res P N w0 m0 pl o act w K:=by
 obtain⟨hu,hs⟩:=ZcV he;refine Zkv hx hn (fun A z k ex hz z0 z1=>?_) h hS;have hz':(n:Int)=z:=by
  have hz2:AV.pv (.int .i64 n)=AV.pv (.int k z):=hz;injection hz2 with hz3;injection hz3
 subst hz';unfold execOp;simp only[ho,ex,Sem.run_bind];have hne:¬n=0:=by omega
 simp[Instr.sliceAt,run_underlying hu,Instr.sliceBounds,run_sizeOf hs,Instr.sliceBound,asIntOf,Instr.sureAddr,Addr.add,hne]
theorem Zij {W:Nat}:∀{k:Nat} {xs:List PV} {i:Nat} {y:PV},(packW W k xs)[i]?=some y→i<k∧y=.agg ((xs.drop (i*W)).take W)
 |0,xs,i,y,h=>by simp[packW]at h
 |k+1,xs,0,y,h=>by
  simp only[packW,List.getElem?_cons_zero,Option.some.injEq]at h;exact⟨by omega,by rw[←h,Nat.zero_mul,List.drop_zero]⟩
 |k+1,xs,i+1,y,h=>by
  simp only[packW,List.getElem?_cons_succ]at h;obtain⟨h1,h2⟩:=Zij h;refine⟨by omega,?_⟩;rw[h2,List.drop_drop];congr 3;rw[Nat.succ_mul];omega
theorem Zii {W:Nat}:∀{k:Nat} {xs:List PV},(packW W k xs).length=k
 |0,xs=>rfl
 |k+1,xs=>by simp only[packW,Zyg,Zii]
theorem Zpi {n W:Nat}{x:Operand}{x' hi':Opd}(hx:opd x=some x')(hn:0<n∧n≤1000000)
  (run:∀(A:Addr) (z:Int) (k:IntKind),act.eval x=.pointer (some A)→σ.o hi'=.pv (.int k z)→0≤z→z≤n→(execOp act.eval o).run P w=.ok (.value (.slice (some A) z.toNat n)) w)
  (h:opWpX (.slw n W x' hi') d K σ) (hS:Sat N w0 m0 pl σ ρ m act w):Res P N w0 m0 pl o act w K:=by
 simp only[opWpX]at h;have h1:=hS.opd hx;split at h
 ·rename_i k z hz;split at h
  ·rename_i s off ex;rw[ex]at h1;have hv:=h1.Zvk;split at h
   ·rename_i as' hb;split at h
    ·rename_i xs hxs;obtain⟨⟨z0,z1,z2⟩,hK⟩:=h;obtain⟨_,hS2,hm,hm2⟩:=hS.Zxh hb hxs;obtain⟨ds,g1,g2,g3⟩:=Zf3 (hS.bx s _ hb) hxs hm hm2;have hlen:(packW W z.toNat (xs.drop off)).length=z.toNat:=Zii;have get:∀(i:Nat) (y:PV),(packW W z.toNat (xs.drop off))[i]?=some y→off+i*W+W≤xs.length∧y=.agg ((xs.drop (off+i*W)).take W):=fun i y hy=>by
      obtain⟨q1,q2⟩:=Zij hy;have h3:i+1≤n:=by omega
      have h4:=Zyx W h3;rw[Nat.succ_mul]at h4;exact⟨by omega,by rw[q2,List.drop_drop]⟩
     refine⟨_,w,_,_,ρ,_,.inl (run _ z k hv hz z0 z1),hK,hS2,.pv _ _ ?_,fun _=>Ext.ZvU _⟩;have hh:=RdP.lst (m:=m.with w (ρ s)) (some ⟨(ρ s).b,off,none⟩) n false W (packW W z.toNat (xs.drop off)) (fun i=>(ds.drop (off+i*W)).take W) (by omega) (by omega) (fun e=>by cases e) (fun A hA=>by cases hA;rfl) (fun e=>by cases e)
      (fun i y hy=>?_) (fun i y hy=>?_) (fun i y j d c hy hd hc=>?_)
     ·rw[hlen]at hh;exact hh
     ·refine⟨_,_,rfl,At.Zvm (fun j u hj=>?_)⟩;rw[Zx1]at hj;split at hj
      ·rw[Zx3]at hj
       have:=g2.get _ _ hj
       rw[Zyj]at this;rw[Nat.add_assoc]at this ⊢;exact this
      ·cases hj
     ·obtain⟨q1,rfl⟩:=get i y hy;refine⟨by rw[ZxT,Zyn];omega,?_,fun u hu=>?_⟩
      ·show((xs.drop (off+i*W)).take W).length=W;rw[ZxT,Zyn];omega
      ·obtain⟨j,hj⟩:=ZxV.1 hu;rw[Zx1]at hj;split at hj
       ·rw[Zx3]at hj;have hlt:off+i*W+j<xs.length:=by rw[←g1];exact(ZxN.1 hj).1
        exact(g3 _ _ _ hj (ZxL hlt)).1
       ·cases hj
     ·obtain⟨q1,rfl⟩:=get i y hy;rw[Zx1]at hd;have hc':((xs.drop (off+i*W)).take W)[j]?=some c:=hc;rw[Zx1]at hc';split at hd
      ·rw[if_pos (by assumption),Zx3]at hc';rw[Zx3]at hd;exact(g3 _ _ _ hd hc').2
      ·cases hd
    ·exact h.elim
   ·exact h.elim
  ·exact h.elim
 ·exact h.elim
theorem Zsq {t e:TypeId}{n W:Nat}{x hi:Operand}{x' hi':Opd}(hx:opd x=some x')(hh:opd hi=some hi')(he:elemT P t=some (e,W,some n))(hn:0<n∧n≤1000000)(ho:o.op=.slice t x none (some hi) none)
  (h:opWpX (.slw n W x' hi') d K σ) (hS:Sat N w0 m0 pl σ ρ m act w):Res P N w0 m0 pl o act w K:=by
 obtain⟨hu,hs⟩:=ZcV he;refine Zpi hx hn (fun A z k ex hz z0 z1=>?_) h hS;have h2:=hS.opd hh;rw[hz]at h2;have ez:=h2.Zvc;unfold execOp;simp only[ho,ex,Sem.run_bind];have hne:¬n=0:=by omega
 simp[Instr.sliceAt,run_underlying hu,Instr.sliceBounds,run_sizeOf hs,ez,Instr.sliceBound,asIntOf,z0,z1,Instr.sureAddr,Addr.add,hne]
end
end
section
def ZuL (P:Program)(t:TypeId):Option TypeId:=match P.underlying t with
 |some (.struct fs)=>match fs[1]? with
  |some fl=>match P.underlying fl.type with
   |some (.slice e)=>match P.underlying e with
    |some (.int .u8)=>some e
    |_=>none
   |_=>none
  |none=>none
 |_=>none
def litS (P:Program):Op→Option XOp
 |.binOp .add t x y _=>match opd x,opd y,P.underlying t with
  |some x,some y,some .string=>some (.scat x y)
  |_,_,_=>none
 |.binOp .eql t x y _=>match opd x,opd y,P.underlying t with
  |some x,some (.c .nilif),some (.interface _)=>some (.nif false x)
  |_,_,_=>none
 |.binOp .neq t x y _=>match opd x,opd y,P.underlying t with
  |some x,some (.c .nilif),some (.interface _)=>some (.nif true x)
  |_,_,_=>none
 |.makeInterface t x=>match opd x,P.underlying t with
  |some _,some (.interface _)=>none
  |some x,some _=>some (.mif t x)
  |_,_=>none
 |.alloc t=>match zeroT P t with
  |some v=>match v.cells.toList with
   |[.pointer none,.slice none 0 0]=>match ZuL P t with
    |some e=>some (.alB t e)
    |none=>none
   |_=>none
  |none=>none
 |.panic x=>match opd x with
  |some x=>some (.pan x)
  |none=>none
 |.typeAssert x _ t true=>match opd x,P.underlying t,ZaN P t with
  |some _,some (.interface _),_=>none
  |some x,some _,some z=>some (.tas t z x)
  |_,_,_=>none
 |.index t x i=>match opd x,opd i,P.underlying t with
  |some x,some i,some .string=>some (.sidx x i)
  |_,_,_=>none
 |.slice t x lo hi none=>match opd x,P.underlying t,oopd lo,oopd hi with
  |some x,some .string,some lo,some hi=>some (.ssl x lo hi)
  |_,_,_,_=>none
 |.convert src dst x=>match opd x,P.underlying src,P.underlying dst with
  |some x,some (.slice e),some .string=>match P.underlying e with
   |some (.int .u8)=>some (.sof x)
   |_=>none
  |some x,some .string,some (.slice e)=>match P.underlying e with
   |some (.int .u8)=>some (.sbyt e x)
   |_=>none
  |_,_,_=>none
 |.call c=>match c.callee with
  |.builtin .len=>match c.args.toList,c.argTypes.toList with
   |[x],[t]=>match opd x,P.underlying t with
    |some y,some .string=>some (.slen y)
    |_,_=>none
   |_,_=>none
  |.builtin .append=>match c.args.toList,c.argTypes.toList with
   |[x,y],[t,u]=>match opd x,opd y,elemT P t,P.underlying u with
    |some x,some y,some (e,n,none),some .string=>match ZaN P e,P.info? e with
     |some z,some i=>if n=1∧z.cells.length=n then some (.aps e n i.bytes x y)else none
     |_,_=>none
    |_,_,_,_=>none
   |_,_=>none
  |_=>none
 |_=>none
theorem Znz {x:Option Operand}{x':Option Opd}(h:oopd x=some x'):(x=none∧x'=none)∨∃a a',x=some a∧x'=some a'∧opd a=some a':=by
 cases x with
 |none=>simp[oopd]at h;exact .inl ⟨rfl,h.symm⟩
 |some a=>
  simp only[oopd,ZxP]at h;obtain⟨a',h1,h2⟩:=h;exact .inr ⟨a,a',rfl,h2.symm,h1⟩
theorem Zf5 {x:PV}{r:List PV}{ns:List Int}(h:Zc2 (x::r)=some ns):∃n ms,x=.int .u8 n∧Zc2 r=some ms∧ns=n::ms:=by
 unfold Zc2 at h;split at h
 ·rename_i e;cases e
 ·rename_i n r' e;cases e;obtain⟨ms,h1,h2⟩:=ZxP.1 h;exact⟨n,ms,rfl,h1,h2.symm⟩
 ·cases h
theorem ZgQ {m:Mem}:∀{xs:List PV} {ns:List Int} {vs:List Value},Zc2 xs=some ns→vs.length=xs.length→(∀(i:Nat) (x:PV) (v:Value),xs[i]?=some x→vs[i]?=some v→RdP m v x)→vs=ns.map (Value.int .u8)
 |[],ns,vs,h,hl,_=>by
  cases h;exact ZyG hl
 |x::r,ns,[],h,hl,_=>by simp at hl
 |x::r,ns,v::vs,h,hl,hr=>by
  obtain⟨n,ms,rfl,h1,rfl⟩:=Zf5 h;have h0:=hr 0 _ _ rfl rfl;have e:=ZgQ (vs:=vs) h1 (by simpa using hl) fun i y u k1 k2=>hr (i+1) y u (by simpa using k1) (by simpa using k2)
  cases h0;rw[e];rfl
theorem ZgR:∀{xs:List PV} {ns:List Int} {y:PV},Zc2 xs=some ns→y∈xs→∃n,∃k,y=.int k n
 |x::r,ns,y,h,hy=>by
  obtain⟨n,ms,rfl,h1,_⟩:=Zf5 h;rcases Zx2.1 hy with rfl|hy
  ·exact⟨n,.u8,rfl⟩
  ·exact ZgR h1 hy
theorem Zgk:∀(ns:List Int) (r:ByteArray),ns.foldl (fun r n=>r.push (UInt8.ofNat n.toNat)) r=⟨r.data++(ns.map fun n=>UInt8.ofNat n.toNat).toArray⟩
 |[],r=>by simp
 |n::ns,r=>by
  rw[List.foldl_cons,Zgk ns];simp[ByteArray.push]
section
variable {G:World→Prop}{P:Program}{N:Nat}{w0:World}{m0:Env w0}{pl:List Nat}{σ:AS}{ρ:Site→Loc}{m:Mem}{act:Act}{w:World}{o:Oper}{d:Nat}{K:AV→AS→Prop}
theorem RdA.ZvK {v:Value}{s:ByteArray}(h:RdA ρ m v (.pv (.str s))):v=.string s:=by
 cases h with
 |pv _ _ h=>cases h;rfl
theorem ZtY {t e:TypeId}{v:Value}(hv:zeroT P t=some v)(hc:v.cells.toList=[.pointer none,.slice none 0 0])(ho:o.op=.alloc t)(h:opWpX (.alB t e) d K σ)(hS:Sat N w0 m0 pl σ ρ m act w):Res P N w0 m0 pl o act w K:=by
 simp only[opWpX]at h;have hc':v.cells=#[.pointer none,.slice none 0 0]:=Zyv.1 hc;have hP:=hS.Zu0 d;have hn:=NoD.Zu0 d σ;have hh:(w.alloc (.cells v.cells t)).heap[w.heap.size]?=some (.cells #[.pointer none,.slice none 0 0] t (0,0)):=by rw[hc'];exact heap_alloc_new w _
 have hu:=ZaL ρ (.loc d 0) ⟨w.heap.size,0,0,true⟩;have hnew:=hP.ZxF d 0 hn v.cells t 0 (box:=.ext (bldE t e [])) ⟨by rw[hu],by rw[hu];exact⟨_,_,hh,.inl rfl,.inl ⟨rfl,rfl⟩⟩⟩ (fun k hk=>by
  rw[hu]at hk;have hk':k∈Zba ⟨w.heap.size,0,0,true⟩ (w.alloc (.cells v.cells t)):=hk;rw[Zi4 (q:=⟨w.heap.size,0,0,true⟩) hh]at hk';cases hk')
 refine⟨.pointer (some ⟨w.heap.size,0,none⟩),w.alloc (.cells v.cells t),_,_,_,m,.inl ?_,h,hnew,?_,fun _=>Ext.al w _⟩
 ·unfold execOp;simp only[ho,Sem.run_bind,Znf hv,Result.andThen_ok];rfl
 ·have:=RdA.ptr (ρ:=upd ρ (.loc d 0) ⟨w.heap.size,0,0,true⟩) (m:=m) (.loc d 0) 0
  rw[hu]at this;exact this
theorem Zpn {t u:TypeId}{x y:Operand}{x' y':Opd}(hx:opd x=some x')(hy:opd y=some y')(ho:o.op=.binOp .add t x y u)
  (h:opWpX (.scat x' y') d K σ) (hS:Sat N w0 m0 pl σ ρ m act w):ResP G P σ ρ m o act w K:=by
 simp only[opWpX]at h;have h1:=hS.opd hx;have h2:=hS.opd hy;split at h
 ·rename_i a b ea eb;obtain⟨hb,hK⟩:=h;rw[ea]at h1;rw[eb]at h2;refine .pure hS (v:=.string (a++b)) ?_ (.pv _ _ (.str _)) hK;intro w' _;unfold execOp;simp only[ho,h1.ZvK,h2.ZvK];simp[eqGuard,binOp,run_string_add_sum w' a b hb]
 ·exact h.elim
theorem Zgs {y:Operand}(h:opd y=some (.c .nilif)):y=.const .nilIface:=by
 cases y with
 |tmp k=>cases h
 |const v=>
  simp only[opd,ZxP]at h;obtain⟨x,h1,h2⟩:=h;cases h2;unfold pvOf at h1;split at h1<;>first|(cases h1;done)|rfl
 |func f=>cases h
 |global g=>cases h
theorem Zed {m:Mem}{a b:Value}{x y:PV}(h:RdP m a x)(k:RdP m b y):RdP m (.tuple #[a,b]) (.tup [x,y]):=.tup _ _ rfl fun j d c h1 h2=>by
 rcases j with _|_|j
 ·cases h1;cases h2;exact h
 ·cases h1;cases h2;exact k
 ·cases h2
theorem ZlL (w:World)(t:TypeId)(ms:Array (String×TypeId))(hu:P.underlying t=some (.interface ms)):(Op.equal t .nilIface .nilIface).run P w=.ok true w:=by
 have:∀d,(Op.equalIn (d+1) t .nilIface .nilIface).run P w=.ok true w:=fun d=>by simp[Op.equalIn,run_underlying hu]
 exact this 9999
theorem Zjj (w:World)(t:TypeId)(ms:Array (String×TypeId))(hu:P.underlying t=some (.interface ms))(u:TypeId)(v:Value):(Op.equal t (.iface u v) .nilIface).run P w=.ok false w:=by
 have:∀d,(Op.equalIn (d+1) t (.iface u v) .nilIface).run P w=.ok false w:=fun d=>by simp[Op.equalIn,run_underlying hu]
 exact this 9999
theorem ZnG {neg:Bool}{t u:TypeId}{x y:Operand}{x':Opd}{ms:Array (String×TypeId)}(hx:opd x=some x')(hy:opd y=some (.c .nilif))(hu:P.underlying t=some (.interface ms))(ho:o.op=.binOp (if neg=true then .neq else .eql) t x y u)
  (h:opWpX (.nif neg x') d K σ) (hS:Sat N w0 m0 pl σ ρ m act w):ResP G P σ ρ m o act w K:=by
 simp only[opWpX]at h;have h1:=hS.opd hx;split at h
 ·rename_i ex;rw[ex]at h1;have e:act.eval x=.nilIface:=by
   have h2:=h1.Zu5;generalize act.eval x=u at h2;cases h2;rfl
  refine .pure hS (v:=.bool (!neg)) ?_ (.pv _ _ (.bool _)) h;intro w' _;unfold execOp;obtain rfl:=Zgs hy;have e2:act.eval (.const .nilIface)=.nilIface:=rfl;cases neg<;>simp[ho,e,e2,binOp,eqGuard_nil_constR,fun w=>ZlL w t ms hu]
 ·rename_i tt xx ex;rw[ex]at h1;obtain⟨v,e⟩:∃v,act.eval x=.iface tt v:=by
   have h2:=h1.Zu5;generalize act.eval x=u at h2;cases h2 with|iface _ v _ _=>exact⟨v,rfl⟩
  refine .pure hS (v:=.bool neg) ?_ (.pv _ _ (.bool _)) h;intro w' _;unfold execOp;obtain rfl:=Zgs hy;have e2:act.eval (.const .nilIface)=.nilIface:=rfl;cases neg<;>simp[ho,e,e2,binOp,eqGuard_at_iface,fun w u v=>Zjj w t ms hu u v]
 ·exact h.elim
theorem Zs3 {t:TypeId}{x:Operand}{x':Opd}{td:TypeDesc}(hx:opd x=some x')(hu:P.underlying t=some td)(hni:∀ms,td≠.interface ms)(ho:o.op=.makeInterface t x)
  (h:opWpX (.mif t x') d K σ) (hS:Sat N w0 m0 pl σ ρ m act w):ResP G P σ ρ m o act w K:=by
 simp only[opWpX]at h;have h1:=hS.opd hx;split at h
 ·rename_i a ex;rw[ex]at h1;refine .pure hS (v:=.iface t (act.eval x)) ?_ (.pv _ _ (.iface _ _ _ h1.Zu5)) h;intro w' _;unfold execOp;simp only[ho,Instr.makeInterface,Sem.run_bind,run_underlying hu];cases td<;>first|rfl|exact absurd rfl (hni _)
 ·exact h.elim
theorem ZlA {e:TypeId}{z:PV}(hz:ZaN P e=some z)(m:Mem):∃zv,(∀w,(zeroValue e).run P w=.ok zv w)∧RdP m zv z:=by
 cases hv:zeroT P e with
 |none=>unfold ZaN at hz;simp[hv]at hz
 |some zz=>
  refine⟨zz,ZbJ hv,?_⟩;obtain⟨v,q1,q2⟩:=Zcn hz (default:World) m;rw[ZbJ hv]at q1;cases q1;exact q2
theorem Zsc {t s:TypeId}{x:Operand}{x':Opd}{td:TypeDesc}{z:PV}(hx:opd x=some x')(hu:P.underlying t=some td)(hni:∀ms,td≠.interface ms)(hz:ZaN P t=some z)(ho:o.op=.typeAssert x s t true)
  (h:opWpX (.tas t z x') d K σ) (hS:Sat N w0 m0 pl σ ρ m act w):ResP G P σ ρ m o act w K:=by
 simp only[opWpX]at h;have h1:=hS.opd hx;obtain⟨zv,hzr,hzm⟩:=ZlA hz m;split at h
 ·rename_i ex;rw[ex]at h1;have e:act.eval x=.nilIface:=by
   have h2:=h1.Zu5;generalize act.eval x=u at h2;cases h2;rfl
  refine .pure hS (v:=.tuple #[zv,.bool false]) ?_ (.pv _ _ (Zed hzm (.bool _))) h;intro w' _;unfold execOp;simp only[ho,e,Instr.typeAssert,Sem.run_bind,run_underlying hu];cases td<;>first|exact absurd rfl (hni _)|simp[hzr w']
 ·rename_i tt a ex;rw[ex]at h1;obtain⟨v,e,hv⟩:∃v,act.eval x=.iface tt v∧RdP m v a:=by
   have h2:=h1.Zu5;generalize act.eval x=u at h2;cases h2 with|iface _ v _ k=>exact⟨v,rfl,k⟩
  by_cases htt:tt=t
  ·rw[if_pos htt]at h;refine .pure hS (v:=.tuple #[v,.bool true]) ?_ (.pv _ _ (Zed hv (.bool _))) h;intro w' _;unfold execOp;simp only[ho,e,Instr.typeAssert,Sem.run_bind,run_underlying hu];cases td<;>first|exact absurd rfl (hni _)|simp[htt]
  ·rw[if_neg htt]at h;refine .pure hS (v:=.tuple #[zv,.bool false]) ?_ (.pv _ _ (Zed hzm (.bool _))) h;intro w' _;unfold execOp;simp only[ho,e,Instr.typeAssert,Sem.run_bind,run_underlying hu];cases td<;>first|exact absurd rfl (hni _)|simp[htt,hzr w']
 ·exact h.elim
theorem Zpj {t:TypeId}{c:Call}{x:Operand}{x':Opd}(hx:opd x=some x')(hu:P.underlying t=some .string)(hc:c.callee=.builtin .len)(ha:c.args.toList=[x])(ht:c.argTypes.toList=[t])(ho:o.op=.call c)
  (h:opWpX (.slen x') d K σ) (hS:Sat N w0 m0 pl σ ρ m act w):ResP G P σ ρ m o act w K:=by
 simp only[opWpX]at h;have h1:=hS.opd hx;have hargs:c.args=#[x]:=Zyv.1 (by simpa using ha);have htys:c.argTypes=#[t]:=Zyv.1 (by simpa using ht);split at h
 ·rename_i s es;rw[es]at h1;refine .pure hS (v:=.int .i64 s.size) ?_ (.pv _ _ (.int _ _)) h;intro w' _;unfold execOp;simp only[ho];simp[resolve,hc,hargs,htys,invoke,builtin,Builtin.len_,run_underlying hu,h1.ZvK,goInt]
 ·exact h.elim
theorem Zpm {t:TypeId}{x i:Operand}{x' i':Opd}(hx:opd x=some x')(hi:opd i=some i')(hu:P.underlying t=some .string)(ho:o.op=.index t x i)
  (h:opWpX (.sidx x' i') d K σ) (hS:Sat N w0 m0 pl σ ρ m act w):ResP G P σ ρ m o act w K:=by
 simp only[opWpX]at h;have h1:=hS.opd hx;have h2:=hS.opd hi;split at h
 ·rename_i s k z es ei;rw[es]at h1;rw[ei]at h2;split at h
  ·rename_i b hb;refine .pure hS (v:=.int .u8 b.toNat) ?_ (.pv _ _ (.int _ _)) h;intro w' _;have hb':(if 0≤z then s[z.toNat]? else none)=some b:=hb;unfold execOp;simp only[ho,h1.ZvK,h2.Zvc];simp[Instr.index,asIntOf,run_underlying hu,hb']
  ·exact h.elim
 ·exact h.elim
theorem Zsk {t:TypeId}{x:Operand}{x':Opd}{lo hi:Option Operand}{lo' hi':Option Opd}(hx:opd x=some x')(hu:P.underlying t=some .string)(hlo:oopd lo=some lo')(hhi:oopd hi=some hi')
  (ho:o.op=.slice t x lo hi none) (h:opWpX (.ssl x' lo' hi') d K σ) (hS:Sat N w0 m0 pl σ ρ m act w):ResP G P σ ρ m o act w K:=by
 simp only[opWpX]at h;have h1:=hS.opd hx;split at h
 ·rename_i s es;rw[es]at h1;split at h
  ·rename_i l z el ez;obtain⟨⟨l0,l1,l2⟩,hK⟩:=h;refine .pure hS (v:=.string (s.extract l.toNat z.toNat)) ?_ (.pv _ _ (.str _)) hK;intro w' _;have el':=Zgt (Znz hlo) hS el;have eh':=Zgt (Znz hhi) hS ez;unfold execOp;simp only[ho,h1.ZvK,Sem.run_bind];have z0:0≤z:=by omega
   have l3:l≤(s.size:Int):=by omega
   have l4:l≤(z.toNat:Int):=by omega
   rcases el' with⟨rfl,rfl⟩|⟨b,k,rfl,eb⟩<;>rcases eh' with⟨rfl,rfl⟩|⟨b2,k2,rfl,eb2⟩
   ·simp[Instr.sliceAt,run_underlying hu,Instr.slice,Instr.sliceBounds]
   ·simp[Instr.sliceAt,run_underlying hu,Instr.slice,Instr.sliceBounds,eb2,Instr.sliceBound,asIntOf,l2,z0]
   ·simp[Instr.sliceAt,run_underlying hu,Instr.slice,Instr.sliceBounds,eb,Instr.sliceBound,asIntOf,l0,l3]
   ·simp[Instr.sliceAt,run_underlying hu,Instr.slice,Instr.sliceBounds,eb,eb2,Instr.sliceBound,asIntOf,l0,l2,z0,l4];intro h5;omega
  ·exact h.elim
 ·exact h.elim
theorem Zsn {src dst e:TypeId}{x:Operand}{x':Opd}(hx:opd x=some x')(hs:P.underlying src=some (.slice e))(he:P.underlying e=some (.int .u8))(hd:P.underlying dst=some .string)(ho:o.op=.convert src dst x)
  (h:opWpX (.sof x') d K σ) (hS:Sat N w0 m0 pl σ ρ m act w):Res P N w0 m0 pl o act w K:=by
 simp only[opWpX]at h;split at h
 ·rename_i xs hc;split at h
  ·rename_i ns hn;obtain⟨a,cap,ds,hv,hf,hcell⟩:=Zez (by decide) hS (hS.opd hx) hc;have hfl:ds.length=xs.length:=by have:=hf.len;omega
   have hval:ds=ns.map (Value.int .u8):=ZgQ hn hfl fun i y u k1 k2=>by
    obtain⟨q1,q2⟩:=hf.get i y k1;obtain⟨n,ms,hy⟩:∃n,∃k,y=.int k n:=by
     obtain⟨j,hj⟩:=ZxV.1 (ZxQ k1);exact ZgR hn (ZxQ k1)
    subst hy;obtain⟨u',q3,q4⟩:=q2 0 _ rfl;rw[Nat.mul_one,Nat.add_zero,k2]at q3;cases q3;exact q4
   have hr:(execOp act.eval o).run P w=.ok (.value (.string (ZeN ns))) w:=by
    have hb:(Conv.bytesToString (.slice a xs.length cap)).run P w=.ok (.string (ZeN ns)) w:=by
     cases a with
     |none=>
      have h0:ds=[]:=by
       cases ds with
       |nil=>rfl
       |cons u l=>
        obtain⟨b,q,h1,_⟩:=hcell 0 u rfl;cases h1
      rw[h0]at hval
      have:ns=[]:=List.map_eq_nil_iff.1 hval.symm
      subst this;rfl
     |some A=>
      have hld:(loadCells A xs.length).run P w=.ok (ns.map (Value.int .u8)).toArray w:=by
       rw[←hval,←hfl];refine run_loadCells_list w A ds fun j v hj=>?_
       obtain⟨b,q,h1,h2⟩:=hcell j v hj;cases h1;by_cases hj0:j=0
       ·subst hj0;simpa[Addr.add]using h2
       ·simpa[Addr.add,hj0]using h2
      rw[run_bytesToString w A xs.length cap ns hld,Zgk];simp[ZeN]
    unfold execOp;simp only[ho,hv,Sem.run_bind,run_convert_bytes_string w src dst e a xs.length cap hs he hd,hb];rfl
   exact⟨_,w,_,_,ρ,m,.inl hr,h,hS,.pv _ _ (.str _),fun _=>Ext.ZvU _⟩
  ·exact h.elim
 ·exact h.elim
theorem ZgP (w:World)(e:TypeId)(s:ByteArray):Ext w (Lib.bytesWorld w e s):=by
 refine⟨?_,?_,?_,?_,fun k hk=>Lib.bytesWorld_at_old w e s k hk⟩
 ·simp[Lib.bytesWorld,World.freeze,World.alloc,World.drew,-World.alloc_eq,-World.drew_eq]
 ·simp[Lib.bytesWorld,World.freeze,World.alloc,World.drew,-World.alloc_eq,-World.drew_eq]
 ·simp[Lib.bytesWorld,World.freeze,World.alloc,World.drew,-World.alloc_eq,-World.drew_eq]
 ·rw[Lib.bytesWorld_size];omega
theorem ZeA {s:ByteArray}{i:Nat}{x:PV}(h:(ZaG s)[i]?=some x):i<s.size∧x=.int .u8 (s.data.toList.getD i 0).toNat:=by
 unfold ZaG at h;rw[ZxM]at h;obtain⟨b,h1,rfl⟩:=ZxP.1 h;have hl:=(ZxN.1 h1).1;refine⟨by simpa using hl,?_⟩;rw[List.getD_eq_getElem?_getD,h1];rfl
theorem Zdk {s:ByteArray}:(ZaG s).length=s.size:=by simp[ZaG]
theorem Zpo {src dst e:TypeId}{x:Operand}{x':Opd}(hx:opd x=some x')(hs:P.underlying src=some .string)(hd:P.underlying dst=some (.slice e))(he:P.underlying e=some (.int .u8))(ho:o.op=.convert src dst x)
  (h:opWpX (.sbyt e x') d K σ) (hS:Sat N w0 m0 pl σ ρ m act w):Res P N w0 m0 pl o act w K:=by
 simp only[opWpX]at h;have h1:=hS.opd hx;split at h
 ·rename_i s es;rw[es]at h1;obtain⟨hsz,hK⟩:=h;have hr:(execOp act.eval o).run P w=.ok (.value (.slice (some ⟨w.heap.size,0,none⟩) s.size (grownCap w s.size 0 e))) (Lib.bytesWorld w e s):=by
   unfold execOp;simp only[ho,h1.ZvK,Sem.run_bind,Lib.run_convert_string_bytes w src dst e s hs hd he];rfl
  have hx':=ZgP w e s;have hS1:=hS.ext hx';have hfr:∀o,m w.heap.size o=none:=fun o=>hS.Zv4 (ZxR _) o
  let m':Mem:=fun b q=>if b=w.heap.size then(Lib.bytesWorld w e s).cell? ⟨b,q,none⟩else m b q
  have hm:Le m m':=fun b q v hv=>by
   show(if b=w.heap.size then _ else m b q)=some v;by_cases hb:b=w.heap.size
   ·subst hb;rw[hfr q]at hv;cases hv
   ·rw[if_neg hb];exact hv
  have hS2:Sat N w0 m0 pl σ ρ m' act (Lib.bytesWorld w e s):=by
   refine hS1.ZxG hm (fun b q v hv=>?_) (fun t b k hb hk q=>?_) (fun b q v hv=>?_)
   ·have hv':(if b=w.heap.size then(Lib.bytesWorld w e s).cell? ⟨b,q,none⟩else m b q)=some v:=hv;by_cases hb:b=w.heap.size
    ·rw[if_pos hb]at hv';exact hv'
    ·rw[if_neg hb]at hv';exact hS1.mem b q v hv'
   ·show(if k=w.heap.size then _ else m k q)=none;have hlt:=hS.ltk hb (((hS.bx t b hb).blk_same (fun r=>hx'.block _ (hS.lt hb r))).1 hk);rw[if_neg (by omega)];exact hS1.offk t b k hb hk q
   ·have hv':(if b=w.heap.size then(Lib.bytesWorld w e s).cell? ⟨b,q,none⟩else m b q)=some v:=hv;by_cases hb:b=w.heap.size
    ·exact .inr (.inl (by rw[hb];exact hS.keep.size))
    ·rw[if_neg hb]at hv';exact .inl hv'
  have hge:=grownCap_ge w s.size 0 e;have hle:=grownCap_le_maxLen w s.size 0 e (by unfold maxLen;omega);have hle':grownCap w s.size 0 e≤9223372036854775807:=by unfold maxLen at hle;omega
  have hcell:∀j,j<s.size→m' w.heap.size j=some (.int .u8 (s.data.toList.getD j 0).toNat):=fun j hj=>by
   show(if w.heap.size=w.heap.size then _ else _)=_;rw[if_pos rfl];exact Lib.bytesWorld_cell w e s j hj
  refine⟨_,_,_,_,ρ,m',.inl hr,hK,hS2,.pv _ _ ?_,fun _=>hx'⟩
  have:=RdP.lst (m:=m') (some ⟨w.heap.size,0,none⟩) (grownCap w s.size 0 e) false 1 (ZaG s) (fun i=>[.int .u8 (s.data.toList.getD i 0).toNat]) (by rw[Zdk];exact hge) hle' (fun h=>by cases h) (fun A hA=>by cases hA;rfl) (fun h=>by cases h)
   (fun i y hy=>⟨w.heap.size,0,rfl,At.Zvm (fun j u hj=>by
    cases j with
    |zero=>
     cases hj
     have:=hcell i (ZeA hy).1
     simpa using this
    |succ j=>cases hj)⟩)
   (fun i y hy=>by
    obtain⟨_,rfl⟩:=ZeA hy;exact⟨rfl,rfl,fun u hu=>by cases Zyi.1 hu;rfl⟩)
   (fun i y j u c hy hu hc=>by
    obtain⟨_,rfl⟩:=ZeA hy;cases j with
    |zero=>cases hu;cases hc;exact .int _ _
    |succ j=>cases hu)
  rw[Zdk]at this;exact this
 ·exact h.elim
theorem Zl4 (m:Mem)(s:ByteArray):Flat m (Go.byteCells s) 1 (ZaG s):=by
 refine⟨by rw[Go.byteCells_length,Zdk,Nat.mul_one],fun u hu=>?_,fun i x hi=>?_⟩
 ·obtain⟨_,_,rfl⟩:=ZxY.1 hu;rfl
 ·unfold ZaG at hi;rw[ZxM]at hi;obtain⟨b,hb,rfl⟩:=ZxP.1 hi;refine⟨rfl,fun j c hj=>?_⟩
  match j with
  |0=>
   cases hj;refine⟨.int .u8 b.toNat,?_,.int _ _⟩;unfold Go.byteCells;rw[Nat.mul_one,Nat.add_zero,ZxM,hb];rfl
  |j+1=>simp[PV.cells]at hj
theorem Zeh {t u ty e:TypeId}{i:TypeInfo}{z:Value}(ht:P.underlying t=some (.slice e))(hu:P.underlying u=some .string)(hi:P.info? e=some i)(hz:i.zero=some z)(ba:Option Addr)(sLen sCap:Nat)(s:ByteArray)(k:Nat)(hk:s.size=k)(olds news:List Value)
  (ho:∀w',(∀A,w'.cell? A=w.cell? A)→(Builtin.firstCells i.size sLen (.slice ba sLen sCap)).run P w'=.ok olds.toArray w') (hn:∀w',(∀A,w'.cell? A=w.cell? A)→(Builtin.firstCells i.size s.size (.string s)).run P w'=.ok news.toArray w')
  (hg:sCap<sLen+k) (h63:((sLen+k:Nat):Int)≤9223372036854775807) (hfit:Builtin.nextslicecap (sLen+k) sCap*i.bytes≤281474976710656):
  (Builtin.append_ #[t,u] ty #[.slice ba sLen sCap,.string s]).run P w =
   .ok (.slice (some ⟨w.heap.size,0,none⟩) (sLen+k) (grownCap w (sLen+k) sCap e)) (w.drew.alloc (.cells ((olds++news).toArray++Builtin.zeroCells z.cells (grownCap w (sLen+k) sCap e-(sLen+k))) e)):=by
 subst hk;have hn1:¬(sLen+s.size≤sCap):=by omega
 have h63':¬(9223372036854775807<((sLen:Int)+(s.size:Int))):=by omega
 have h48':¬(281474976710656<Builtin.nextslicecap (sLen+s.size) sCap*i.bytes):=by omega
 have f1:=ho w.drew (fun A=>rfl);have f2:=hn w.drew (fun A=>rfl);simp[Builtin.append_,run_underlying ht,run_underlying hu,sizeOf,typeInfo,zeroValue,hi,hz,Builtin.lenOf,hn1,h63',h48',Question.forced,f1,f2,newRow,grownCap];rw[←List.append_toArray,Array.append_assoc]
theorem Zgj {t u ty e:TypeId}{i:TypeInfo}(ht:P.underlying t=some (.slice e))(hu:P.underlying u=some .string)(hi:P.info? e=some i)(g q sLen sCap:Nat)(cur:Array Value)(hg:w.heap[g]?=some (.cells cur e (0,0)))(s:ByteArray)(k:Nat)(hk:s.size=k)(news:List Value)
  (hn:(Builtin.firstCells i.size s.size (.string s)).run P w=.ok news.toArray w) (h1:∀u∈news,u.oneCell'=true) (hroom:sLen+k≤sCap) (hfit:q+sLen*i.size+news.length≤cur.size):
  (Builtin.append_ #[t,u] ty #[.slice (some ⟨g,q,none⟩) sLen sCap,.string s]).run P w=.ok (.slice (some ⟨g,q,none⟩) (sLen+k) sCap) (w.setRow g (splice cur.toList (q+sLen*i.size) news).toArray):=by
 subst hk;have hst:=run_storeCells_at P g (q+sLen*i.size) e news 0 cur w hg (by simpa using hfit) h1;simp only[Nat.add_zero]at hst;simp[Builtin.append_,run_underlying ht,run_underlying hu,sizeOf,typeInfo,hi,Builtin.lenOf,hroom,hn,Zc5,hst,splice]
theorem ZhS {t u:TypeId}{c:Call}{x y:Operand}(hc:c.callee=.builtin .append)(ha:c.args.toList=[x,y])(ht:c.argTypes.toList=[t,u])(ho:o.op=.call c){v:Value}{w':World}(h:(Builtin.append_ #[t,u] o.type #[act.eval x,act.eval y]).run P w=.ok v w'):
  (execOp act.eval o).run P w=.ok (.value v) w':=by
 have hargs:c.args=#[x,y]:=Zyv.1 (by simpa using ha);have htys:c.argTypes=#[t,u]:=Zyv.1 (by simpa using ht);unfold execOp;simp only[ho];simp[resolve,hc,hargs,htys,invoke,builtin,h]
theorem Zrj {t u e n bytes:Nat}{i:TypeInfo}{z:PV}{c:Call}{x y:Operand}{x' y':Opd}(hx:opd x=some x')(hy:opd y=some y')(he:elemT P t=some (e,n,none))(hz:ZaN P e=some z)(hi:P.info? e=some i)(hb:i.bytes=bytes)(hn1:n=1)(hus:P.underlying u=some .string)(hzl:z.cells.length=n)
  (hc:c.callee=.builtin .append) (ha:c.args.toList=[x,y]) (ht:c.argTypes.toList=[t,u]) (ho:o.op=.call c) (h:opWpX (.aps e n bytes x' y') d K σ) (hS:Sat N w0 m0 pl σ ρ m act w):ResE (∃nl,σ.o x'=.pv (.emp nl)) P N w0 m0 pl o act w K:=by
 simp only[opWpX]at h;have hn:0<n:=by omega
 obtain⟨hu,hs⟩:=ZaV he;obtain⟨i2,hi2,hsz⟩:=Zcr hs;rw[hi]at hi2;cases hi2;unfold ZaN at hz;cases hv:zeroT P e with
 |none=>simp[hv]at hz
 |some zv=>
 simp only[hv,Option.bind_some]at hz;obtain⟨zi,hzi1,hzi2⟩:=Zcm hv;rw[hi]at hzi1;cases hzi1;have hzs:zv.cells.size=n:=by have:=(Zb1 hz m).1;omega
 split at h
 ·rename_i s0 hys;have hyr:=hS.opd hy;rw[hys]at hyr;have hyv:act.eval y=.string s0:=hyr.ZvK;obtain⟨ys,hys0⟩:∃ys,ys=ZaG s0:=⟨_,rfl⟩;obtain⟨yd,hyd⟩:∃yd,yd=Go.byteCells s0:=⟨_,rfl⟩;have hyl:s0.size=ys.length:=by rw[hys0,Zdk]
  have hyf:Flat m yd n ys:=by rw[hyd,hys0];subst hn1;exact Zl4 m s0
  rw[←hys0]at h;have hyrun:∀w',(∀A,w'.cell? A=w.cell? A)→(Builtin.firstCells i.size s0.size (.string s0)).run P w'=.ok yd.toArray w':=fun w' hw=>by
   rw[hsz,hyd];subst hn1;exact Go.firstCells_string s0 w'
  have grow:∀(τ:AS) (ba:Option Addr) (xs:List PV) (sCap:Nat) (od:List Value),Sat N w0 m0 pl τ ρ m act w→NoD d τ→act.eval x=.slice ba xs.length sCap→Flat m od n xs→(∀(k:Nat) (u:Value),od[k]?=some u→∃b o,ba=some ⟨b,o,none⟩∧w.cell? ⟨b,o+k,none⟩=some u)→
    sCap<xs.length+ys.length→(xs.length+ys.length)*bytes≤140737488355328→xs.length+ys.length≤9223372036854775807→K (.vec (.loc d 0) n 0 (xs.length+ys.length)) (τ.add (.loc d 0) (.arr e n (xs++ys)))→ResE (∃nl,σ.o x'=.pv (.emp nl)) P N w0 m0 pl o act w K:=by
   intro τ ba xs sCap od hτ hN hxv hof hoc hlt hsm hby hK;have hmul:(xs.length+ys.length)*i.bytes≤140737488355328:=by rw[hb];exact hsm
   have hrun:=Zeh (P:=P) (w:=w) (ty:=o.type) hu hus hi hzi2 ba xs.length sCap s0 ys.length hyl od yd (fun w' hw=>by rw[hsz];exact Zd3 hof hoc w' hw _ rfl _ sCap) hyrun hlt (by omega) (growslice_fits hlt (by omega));rw[←hxv,←hyv]at hrun;have hge:=grownCap_ge w (xs.length+ys.length) sCap e;have hcm:=grownCap_le_maxLen w (xs.length+ys.length) sCap e (by simp only[maxLen];omega);have hl:=hof.len;have hl2:=hyf.len;obtain⟨ρ',k1,k2⟩:=hτ.ZwN (W:=w.drew.alloc (.cells ((od++yd).toArray++Builtin.zeroCells zv.cells (grownCap w (xs.length+ys.length) sCap e-(xs.length+ys.length))) e)) ((Ext.dr w).trans' (Ext.al _ _)) hN hn (heap_alloc_new w.drew _) (cap:=grownCap w (xs.length+ys.length) sCap e) (xs:=xs++ys) (ds:=od++yd) (by
     rw[Array.size_append,Zbv,hzs,Zyd,ZxU,hl,hl2,←Nat.add_mul,←Nat.add_mul];exact Zyx _ (by omega)) (by rw[ZxU];exact hge) hcm (hof.app hyf) (fun k u hk=>by
     rw[Array.getElem?_append,Zyd,if_pos (ZxN.1 hk).1,Zyo];exact hk)
   rw[ZxU]at k2;exact⟨_,_,_,_,ρ',m,.inl (ZhS hc ha ht ho hrun),hK,k1,k2,fun _=>(Ext.dr w).trans' (Ext.al _ _)⟩
  have none':∀(τ:AS) (ba:Option Addr),Sat N w0 m0 pl τ ρ m act w→NoD d τ→act.eval x=.slice ba 0 0→(∀A,ba=some A→ZcL A)→ys=[]→K (.vec (.loc d 0) n 0 0) (τ.add (.loc d 0) (.arr e n []))→ResE (∃nl,σ.o x'=.pv (.emp nl)) P N w0 m0 pl o act w K:=by
   intro τ ba hτ hN hxv hsp hy0 hK;subst hy0;obtain⟨ρ',k1,k2⟩:=hτ.Zxr (e:=e) (a:=ba) hN hn hsp;refine⟨_,_,_,_,ρ',m,.inl (ZhS hc ha ht ho (v:=.slice ba 0 0) (w':=w) ?_),hK,k1,k2,fun _=>Ext.ZvU _⟩;have hf:=hyrun w (fun _=>rfl);rw[hyl]at hf;have hyd0:yd=[]:=ZyG (by have:=hyf.len;simpa using this);rw[hyd0]at hf;have hz0:s0.size=0:=hyl;rw[hxv,hyv];simp only[List.length_nil]at hf ⊢;cases ba<;>simp[Builtin.append_,run_underlying hu,run_underlying hus,sizeOf,typeInfo,hi,Builtin.lenOf,hz0,hf,storeCells]
  have empty:∀(τ:AS) (ba:Option Addr),Sat N w0 m0 pl τ ρ m act w→NoD d τ→act.eval x=.slice ba 0 0→(∀A,ba=some A→ZcL A)→ys.length*bytes≤140737488355328→ys.length≤9223372036854775807→K (.vec (.loc d 0) n 0 ys.length) (τ.add (.loc d 0) (.arr e n ys))→ResE (∃nl,σ.o x'=.pv (.emp nl)) P N w0 m0 pl o act w K:=by
   intro τ ba hτ hN hxv hsp hsm hby hK;by_cases hy0:ys=[]
   ·refine none' τ ba hτ hN hxv hsp hy0 ?_;subst hy0;exact hK
   ·have:=List.length_pos_iff.2 hy0
    exact grow τ ba [] 0 [] hτ hN hxv (Flat.nil m n) (fun k u hk=>by simp at hk) (by simpa using this) (by simpa using hsm) (by simpa using hby) (by simpa using hK)
  split at h
  ·rename_i nl ex;obtain⟨h1,h2,hK⟩:=h;have hxr:=hS.opd hx;rw[ex]at hxr;obtain⟨ba,hxv,hsp⟩:=hxr.ZvM;exact empty (σ.Zu0 d) ba (hS.Zu0 d) (NoD.Zu0 d σ) hxv hsp h1 h2 hK
  ·rename_i s n' lo len ex;have hxr:=hS.opd hx;split at h
   ·rename_i e' n'' xs hbx;obtain⟨⟨rfl,rfl,rfl,hlo⟩,hsm,hby,hK⟩:=h;have hdl:(xs.drop lo).length=len:=by rw[Zyn];omega
    have hD:=(hS.drop s).Zu0 d;have hN:=NoD.Zu0 d (σ.drop s);have hcx:σ.cont (.vec s n'' lo len) n''=some (xs.drop lo):=by
     unfold AS.cont;simp only[hbx,true_and];rw[if_pos (by omega),ZxW (by omega)]
    rw[ex]at hxr;obtain⟨ba,bc,od,hxv,hof,hoc⟩:=Zez hn hS hxr hcx;rcases hxr.Zve with⟨cap,hv',c0,c1,c2⟩|⟨a,hv',c0,hsp⟩
    ·rw[hxv]at hv';injection hv' with q1 q2 q3;subst q1;subst q3;by_cases hroom:(xs.drop lo).length+ys.length≤bc
     ·
      obtain⟨hn0,hB|⟨hr,cs,g1,g2,g3,g4,g5⟩⟩:=hS.bx s _ hbx
      ·rw[hB.1]at c2;cases c2
      have hl:=hof.len;rw[hdl]at hl;have hcl:cs.toList.length=cs.size:=Zyf;have hl2:=hyf.len;have hcapn:(ρ s).o+lo*n''+bc*n''≤cs.size:=by
       have:(lo+bc)*n''≤(ρ s).cap*n'':=Zyx _ c1
       rw[Nat.add_mul]at this;omega
      have hroomn:len*n''+ys.length*n''≤bc*n'':=by rw[←Nat.add_mul,←hdl];exact Zyx _ hroom
      have hfit:(ρ s).o+lo*n''+(xs.drop lo).length*i.size+yd.length≤cs.size:=by rw[hsz,hl2,hdl];omega
      have hrun:=Zgj (P:=P) (w:=w) (t:=t) (ty:=o.type) hu hus hi (ρ s).b ((ρ s).o+lo*n'') (xs.drop lo).length bc cs g1 s0 ys.length hyl yd (hyrun w (fun _=>rfl)) hyf.one hroom hfit;rw[←hxv,←hyv,hsz,hdl]at hrun;have hq:(ρ s).o+lo*n''+len*n''+yd.length≤cs.toList.length:=by rw[hcl,hl2];omega
      have hD2:=hD.write (k:=(ρ s).b) (w':=w.setRow (ρ s).b (splice cs.toList ((ρ s).o+lo*n''+len*n'') yd).toArray) (fun s' b' k r=>by
       rw[AS.Zvl]at k;split at k
       ·cases k
       ·obtain⟨b2,k2,rfl⟩:=ZxP.1 k;rw[AS.Zvz]at k2;split at k2
        ·cases k2
        ·rename_i hne;exact hne (hS.injk s' s b2 _ _ k2 hbx (Za4.1 r) (ZaA hr))) (hS.off s _ hbx hr) (hS.own s _ hbx hr) (.inl ((hS.bx s _ hbx).obj hr)) (Keep.setRow w _ _)
      have hu2:=ZaL ρ (.loc d 0) ⟨(ρ s).b,(ρ s).o+lo*n'',bc,true⟩;have hodg:∀k u,od[k]?=some u→cs[(ρ s).o+lo*n''+k]?=some u:=fun k u hk=>by
       obtain⟨b,q,e1,e2⟩:=hoc k u hk;cases e1;simpa[World.cell?,g1]using e2
      have hflat:=hof.app hyf;refine⟨_,_,_,_,upd ρ (.loc d 0) ⟨(ρ s).b,(ρ s).o+lo*n'',bc,true⟩,m,.inl (ZhS hc ha ht ho hrun),hK,?_,?_,fun hm=>by obtain⟨nl,hm⟩:=hm;rw[ex]at hm;cases hm⟩
      ·refine hD2.add hN (.of_flat hn (by rw[hu2]) (by rw[hu2];exact setRow_heap w _ cs _ e' _ g1) ?_ (by rw[hu2,ZxU];exact hroom) (by rw[hu2];show bc≤_;omega) hflat (fun k u hk=>?_)) (fun _ s' b' k r=>?_) (fun _=>hS.off s _ hbx hr) (fun _=>hS.own s _ hbx hr)
       ·rw[hu2,Zyd,Zat hq,hcl];exact hcapn
       ·rw[hu2,Zyo,Zao hq];dsimp only;rw[Zyl,hl]at hk;split at hk
        ·rename_i hk1;rw[if_pos (by omega),Zyu];exact hodg k u hk
        ·rename_i hk1;have hk2:=(ZxN.1 hk).1;rw[if_neg (by omega),if_pos (by omega),←hk];congr 1;omega
       ·have r':=(hD.bx s' b' k).blk_same (w':=w.setRow (ρ s).b (splice cs.toList ((ρ s).o+lo*n''+len*n'') yd).toArray) (fun rr=>(Keep.setRow w (ρ s).b _).block _ (hD.lt k rr) (by
         rw[Zyi];intro e;have k':=k;rw[AS.Zvl]at k';split at k'
         ·cases k'
         ·obtain⟨b2,k2,rfl⟩:=ZxP.1 k';rw[AS.Zvz]at k2;split at k2
          ·cases k2
          ·rename_i hne;exact hne (hS.inj s' s b2 _ k2 hbx rr hr e))) |>.1 r
        rw[AS.Zvl]at k;split at k
        ·cases k
        ·obtain⟨b2,k2,rfl⟩:=ZxP.1 k;rw[AS.Zvz]at k2;split at k2
         ·cases k2
         ·rename_i hne;exact hne (hS.injk s' s b2 _ _ k2 hbx (Za4.1 r') (ZaA hr))
      ·have:=RdA.vec (ρ:=upd ρ (.loc d 0) ⟨(ρ s).b,(ρ s).o+lo*n'',bc,true⟩) (m:=m) (.loc d 0) n'' 0 (len+ys.length) bc (by rw[←hdl];exact hroom) (by rw[hu2];simp) (by rw[hu2])
       rw[hu2]at this;simpa using this
     ·exact grow _ _ (xs.drop lo) bc od hD hN hxv hof hoc (by omega) (by rw[hdl];exact hsm) (by rw[hdl];exact hby) (by rw[hdl];exact hK)
    ·subst c0;rw[hxv]at hv';have hx0:xs.drop lo=[]:=ZyG hdl;rw[hx0]at hK;simp only[Zyj,List.nil_append]at hK;exact empty _ a hD hN (by rw[hxv,hv']) hsp (by simpa using hsm) (by simpa using hby) hK
   ·exact h.elim
  ·exact h.elim
 ·exact h.elim
theorem ZtN {t u e n bytes:Nat}{i:TypeInfo}{z:PV}{c:Call}{x y:Operand}{x' y':Opd}(hx:opd x=some x')(hy:opd y=some y')(he:elemT P t=some (e,n,none))(hz:ZaN P e=some z)(hi:P.info? e=some i)(hb:i.bytes=bytes)(hn1:n=1)(hus:P.underlying u=some .string)(hzl:z.cells.length=n)
  (hc:c.callee=.builtin .append) (ha:c.args.toList=[x,y]) (ht:c.argTypes.toList=[t,u]) (ho:o.op=.call c) (h:opWpX (.aps e n bytes x' y') d K σ) (hS:Sat N w0 m0 pl σ ρ m act w):Res P N w0 m0 pl o act w K:=by
 obtain⟨v,w',a,σ',ρ',m',h1,h2,h3,h4,_⟩:=Zrj hx hy he hz hi hb hn1 hus hzl hc ha ht ho h hS;exact⟨v,w',a,σ',ρ',m',h1,h2,h3,h4,fun hm=>by rw[ho]at hm;cases hm⟩
end
end
end Go.Proofs.YtfpmaennjlggeaaGreatDoor
