/-
  What is proved here serves the law's text: each part says its own claim and its conditions. No condition is left open.
-/
import Derived.Calls
import Derived.Orders
import Derived.Tactics
import Derived.Below
import Derived.Test.YtohegnfjdfcebaaGreatDoorKA
import Derived.ChangeKeysEq
import Derived.DeepKeys5
import Derived.Laws.Cells
import Derived.Laws.Strings
import Derived.Laws.Append
import Derived.Laws.MakeOwn
set_option maxHeartbeats 32000000
set_option maxRecDepth 100000
set_option linter.unusedSimpArgs false
set_option linter.unusedVariables false

namespace Go.Ab
inductive Id where
 |s (n:Nat)
 |d (n:Nat)
 deriving DecidableEq,Inhabited
inductive AV where
 |int (k:IntKind) (n:Int)
 |bool (b:Bool)
 |str (s:List UInt8)
 |nilp|nils|nilm|nilf|nili
 |ifc (t:Nat) (v:Value)
 |optr (id:Id) (ep sz i off:Nat)
 |lptr (sz:Nat) (rows:List (List AV)) (i off:Nat)
 |oslc (id:Id) (ep sz off len:Nat) (lim:Bool)
 |lslc (sz:Nat) (rows:List (List AV)) (off len:Nat) (lim:Bool)
 |mp (id:Id) (ep:Nat)
 |fn (f:Fn) (first cap:List AV)
 |agg (cs:List AV)
 |tup (vs:List AV)
 |u
 deriving Inhabited
inductive AObj where
 |vec (ep:Nat) (rows:List (List AV))
 |map (ep:Nat) (es:List (AV×AV))
 |hole
 deriving Inhabited
structure Heap where
 st:List AObj
 dy:List AObj
 deriving Inhabited
def Heap.get (h:Heap):Id→Option AObj
 | .s n=>h.st[n]?
 | .d n=>h.dy[n]?
instance:GetElem? Heap Id AObj (fun h i=>(h.get i).isSome=true) where
 getElem h i p:=(h.get i).get p
 getElem? h i:=h.get i
def Heap.set (h:Heap):Id→AObj→Heap
 | .s n,o=>⟨h.st.set n o,h.dy⟩
 | .d n,o=>⟨h.st,h.dy.set n o⟩
abbrev Heap.nil:Heap:=⟨[],[]⟩
theorem Heap.getElem?_set_self' (h:Heap) (i:Id) (o:AObj):(h.set i o)[i]? =(h[i]?).map fun _=>o:=by
 cases i with
 |s n=>show (h.st.set n o)[n]? =_;rw [List.getElem?_set_self'];rfl
 |d n=>show (h.dy.set n o)[n]? =_;rw [List.getElem?_set_self'];rfl
theorem Heap.getElem?_set_ne {h:Heap} {i j:Id} {o:AObj} (hne:i≠j):(h.set i o)[j]? =h[j]?:=by
 cases i with
 |s n=>cases j with
  |s m=>exact List.getElem?_set_ne (fun e:n=m=>hne (congrArg Id.s e))
  |d m=>rfl
 |d n=>cases j with
  |s m=>rfl
  |d m=>exact List.getElem?_set_ne (fun e:n=m=>hne (congrArg Id.d e))
theorem Heap.set_comm (h:Heap) {i j:Id} (a b:AObj) (hne:i≠j):(h.set i a).set j b=(h.set j b).set i a:=by
 cases i with
 |s n=>cases j with
  |s m=>simp only [Heap.set];rw [List.set_comm _ _ (fun e:n=m=>hne (congrArg Id.s e))]
  |d m=>rfl
 |d n=>cases j with
  |s m=>rfl
  |d m=>simp only [Heap.set];rw [List.set_comm _ _ (fun e:n=m=>hne (congrArg Id.d e))]
def Heap.has (h:Heap) (i:Id):Bool:=match h[i]? with|some _=>true|none=>false
def Heap.trunc (h:Heap) (n:Nat):Heap:=⟨h.st.take n,h.dy⟩
theorem Heap.trunc_get {h:Heap} {n:Nat} {i:Id} {o:AObj} (x:(h.trunc n)[i]? =some o):h[i]? =some o:=by
 cases i with
 |s m=>
  have x:(h.st.take n)[m]? =some o:=x;rw [List.getElem?_take] at x
  split at x
  ·exact x
  ·cases x
 |d m=>exact x
theorem Heap.set_self {h:Heap} {i:Id} {o:AObj} (x:h[i]? =some o):h.set i o=h:=by
 cases i with
 |s n=>
  obtain ⟨h1,h2⟩:=List.getElem?_eq_some_iff.1 (show h.st[n]? =some o from x);subst h2;show (⟨h.st.set n h.st[n],h.dy⟩:Heap)=h;rw [List.set_getElem_self]
 |d n=>
  obtain ⟨h1,h2⟩:=List.getElem?_eq_some_iff.1 (show h.dy[n]? =some o from x);subst h2;show (⟨h.st,h.dy.set n h.dy[n]⟩:Heap)=h;rw [List.set_getElem_self]
theorem Heap.nil_get (i:Id):Heap.nil[i]? =none:=by
 cases i<;>rfl
theorem Heap.nil_some {i:Id} {o:AObj} (h:Heap.nil[i]? =some o):False:=by
 rw [Heap.nil_get] at h;cases h
theorem Heap.get_some {h:Heap} {i:Id} {o o':AObj} (x:h[i]? =some o):(h.set i o')[i]? =some o':=by
 rw [Heap.getElem?_set_self',x];rfl
inductive Pl where
 |nil
 |at (blk start sz n size:Nat)
def isRec:Obj→Bool
 | .loop _| .deferred _=>true
 |_=>false
structure Sg where
 ρ:Id→Nat→Option Pl
 FM:Nat→Option (Array Value)
 RM:Nat→Option Obj
def Sg.pure (σ:Sg):Sg:={ ρ:=fun _ _=>none,FM:=σ.FM,RM:=fun _=>none }
@[simp] theorem Sg.pure_pure (σ:Sg):σ.pure.pure=σ.pure:=rfl
@[simp] theorem Sg.pure_FM (σ:Sg):σ.pure.FM=σ.FM:=rfl
@[simp] theorem Sg.pure_ρ (σ:Sg) (i:Id) (e:Nat):σ.pure.ρ i e=none:=rfl
@[simp] theorem Sg.pure_RM (σ:Sg) (i:Nat):σ.pure.RM i=none:=rfl
structure Sg.Le (σ τ:Sg):Prop where
 ρ:∀id ep pl,σ.ρ id ep=some pl→τ.ρ id ep=some pl
 FM:∀b cs,σ.FM b=some cs→τ.FM b=some cs
 RM:∀b o,σ.RM b=some o→τ.RM b=some o
structure Sg.Le0 (σ τ:Sg):Prop where
 ρ:∀id ep pl,σ.ρ id ep=some pl→τ.ρ id ep=some pl
 FM:∀b cs,σ.FM b=some cs→τ.FM b=some cs
theorem Sg.Le.le0 {σ τ:Sg} (h:Sg.Le σ τ):Sg.Le0 σ τ:=⟨h.ρ,h.FM⟩
theorem Sg.Le0.pure {a b:Sg} (h:Sg.Le0 a b):Sg.Le0 a.pure b.pure:=⟨fun _ _ _ x=>(by simp at x),h.FM⟩
theorem Sg.Le.refl (σ:Sg):Sg.Le σ σ:=⟨fun _ _ _ h=>h,fun _ _ h=>h,fun _ _ h=>h⟩
theorem Sg.Le.trans {a b c:Sg} (h:Sg.Le a b) (k:Sg.Le b c):Sg.Le a c:=⟨fun _ _ _ x=>k.ρ _ _ _ (h.ρ _ _ _ x),fun _ _ x=>k.FM _ _ (h.FM _ _ x),fun _ _ x=>k.RM _ _ (h.RM _ _ x)⟩
theorem Sg.Le.pure {a b:Sg} (h:Sg.Le a b):Sg.Le a.pure b.pure:=⟨fun _ _ _ x=>(by simp at x),h.FM,fun _ _ x=>(by simp at x)⟩
theorem Sg.pure_le (σ:Sg):Sg.Le σ.pure σ:=⟨fun _ _ _ x=>(by simp at x),fun _ _ h=>h,fun _ _ x=>(by simp at x)⟩
def cellAt (rows:List (List AV)) (i j:Nat):Option AV:=(rows[i]?).bind (·[j]?)
inductive VRel:Sg→AV→Value→Prop
 |int {σ:Sg} {k:IntKind} {n:Int}:VRel σ (.int k n) (.int k n)
 |bool {σ:Sg} {b:Bool}:VRel σ (.bool b) (.bool b)
 |str {σ:Sg} {s:List UInt8}:VRel σ (.str s) (.string ⟨s.toArray⟩)
 |nilp {σ:Sg}:VRel σ .nilp (.pointer none)
 |nils {σ:Sg}:VRel σ .nils (.slice none 0 0)
 |nilm {σ:Sg}:VRel σ .nilm (.map none)
 |nilf {σ:Sg}:VRel σ .nilf .nilFunc
 |nili {σ:Sg}:VRel σ .nili .nilIface
 |ifc {σ:Sg} {t:Nat} {v:Value}:VRel σ (.ifc t v) (.iface t v)
 |optr {σ:Sg} {id:Id} {ep:Nat} {sz:Nat} {i:Nat} {off:Nat} {blk:Nat} {st:Nat} {n:Nat} {size:Nat} (h:σ.ρ id ep=some (.at blk st sz n size)):
   VRel σ (.optr id ep sz i off) (.pointer (some ⟨blk,st+i * sz+off,none⟩))
 |lptr {σ:Sg} {sz:Nat} {rows:List (List AV)} {i:Nat} {off:Nat} {blk:Nat} {st:Nat} (g:Nat→Nat→Value) (hw:∀(i:Nat) (row:List AV),rows[i]? =some row→row.length=sz)
   (hc:∀(i j:Nat) (c:AV),cellAt rows i j=some c→∃cs,σ.FM blk=some cs∧cs[st+i * sz+j]? =some (g i j))
   (ho:∀(i j:Nat) (c:AV),cellAt rows i j=some c→(g i j).oneCell'=true) (hv:∀(i j:Nat) (c:AV),cellAt rows i j=some c→VRel σ.pure c (g i j)):
   VRel σ (.lptr sz rows i off) (.pointer (some ⟨blk,st+i * sz+off,none⟩))
 |oslc {σ:Sg} {id:Id} {ep:Nat} {sz:Nat} {off:Nat} {len:Nat} {lim:Bool} {blk:Nat} {st:Nat} {n:Nat} {size:Nat} {cap:Nat} (h:σ.ρ id ep=some (.at blk st sz n size)) (h1:off+len≤n)
   (h2:lim=false→n≤off+cap) (h3:lim=true→cap=len) (h4:st+(off+cap) * sz≤size) (h5:len≤cap):
   VRel σ (.oslc id ep sz off len lim) (.slice (some ⟨blk,st+off * sz,none⟩) len cap)
 |onil {σ:Sg} {id:Id} {ep:Nat} {sz:Nat} {lim:Bool} (h:σ.ρ id ep=some .nil):VRel σ (.oslc id ep sz 0 0 lim) (.slice none 0 0)
 |onilz {σ:Sg} {id:Id} {ep:Nat} {sz:Nat} {lim:Bool} {a:Addr} (h:σ.ρ id ep=some .nil):VRel σ (.oslc id ep sz 0 0 lim) (.slice (some a) 0 0)
 |lslc {σ:Sg} {sz:Nat} {rows:List (List AV)} {off:Nat} {len:Nat} {lim:Bool} {blk:Nat} {st:Nat} {cap:Nat} (g:Nat→Nat→Value) (hw:∀(i:Nat) (row:List AV),rows[i]? =some row→row.length=sz)
   (hc:∀(i j:Nat) (c:AV),cellAt rows i j=some c→∃cs,σ.FM blk=some cs∧cs[st+i * sz+j]? =some (g i j))
   (ho:∀(i j:Nat) (c:AV),cellAt rows i j=some c→(g i j).oneCell'=true) (hv:∀(i j:Nat) (c:AV),cellAt rows i j=some c→VRel σ.pure c (g i j)) (h1:off+len≤rows.length) (h3:lim=true→cap=len) (h5:len≤cap):
   VRel σ (.lslc sz rows off len lim) (.slice (some ⟨blk,st+off * sz,none⟩) len cap)
 |lnil {σ:Sg} {sz:Nat} {rows:List (List AV)} {off:Nat} {lim:Bool}:VRel σ (.lslc sz rows off 0 lim) (.slice none 0 0)
 |oz {σ:Sg} {id:Id} {ep:Nat} {sz:Nat} {off:Nat} {lim:Bool} {blk:Nat} {st:Nat} {n:Nat} {size:Nat} {a:Addr} (h:σ.ρ id ep=some (.at blk st sz n size)) (h1:off≤n)
   (h2:lim=false→n≤off):VRel σ (.oslc id ep sz off 0 lim) (.slice (some a) 0 0)
 |lz {σ:Sg} {sz:Nat} {rows:List (List AV)} {off:Nat} {lim:Bool} {a:Addr}:VRel σ (.lslc sz rows off 0 lim) (.slice (some a) 0 0)
 |mp {σ:Sg} {id:Id} {ep:Nat} {blk:Nat} {st:Nat} {sz:Nat} {n:Nat} {size:Nat} (h:σ.ρ id ep=some (.at blk st sz n size)):VRel σ (.mp id ep) (.map (some blk))
 |fn {σ:Sg} {f:Fn} {first:List AV} {cap:List AV} {first':Array Value} {cap':Array Value} (l1:first.length=first'.size) (l2:cap.length=cap'.size)
   (v1:∀(i:Nat) (c:AV) (v:Value),first[i]? =some c→first'[i]? =some v→VRel σ c v)
   (v2:∀(i:Nat) (c:AV) (v:Value),cap[i]? =some c→cap'[i]? =some v→VRel σ c v):VRel σ (.fn f first cap) (.func f first' cap')
 |agg {σ:Sg} {cs:List AV} {vs:Array Value} (l:cs.length=vs.size) (o:∀v∈vs.toList,v.oneCell'=true) (v:∀(i:Nat) (c:AV) (v:Value),cs[i]? =some c→vs[i]? =some v→VRel σ c v):VRel σ (.agg cs) (.agg vs)
 |tup {σ:Sg} {cs:List AV} {vs:Array Value} (l:cs.length=vs.size) (v:∀(i:Nat) (c:AV) (v:Value),cs[i]? =some c→vs[i]? =some v→VRel σ c v):VRel σ (.tup cs) (.tuple vs)
 |u {σ:Sg} {v:Value}:VRel σ .u v
theorem VRel.mono0 {σ:Sg} {a:AV} {v:Value} (h:VRel σ a v):∀{τ:Sg},Sg.Le0 σ τ→VRel τ a v:=by
 induction h with
 |int=>intro τ _;exact .int
 |bool=>intro τ _;exact .bool
 |str=>intro τ _;exact .str
 |nilp=>intro τ _;exact .nilp
 |nils=>intro τ _;exact .nils
 |nilm=>intro τ _;exact .nilm
 |nilf=>intro τ _;exact .nilf
 |nili=>intro τ _;exact .nili
 |ifc=>intro τ _;exact .ifc
 |optr h=>intro τ l;exact .optr (l.ρ _ _ _ h)
 |lptr g hw hc ho hv ih=>
  intro τ l;exact .lptr g hw (fun i j c x=>let ⟨cs,a,b⟩:=hc i j c x;⟨cs,l.FM _ _ a,b⟩) ho (fun i j c x=>ih i j c x l.pure)
 |oslc h h1 h2 h3 h4 h5=>intro τ l;exact .oslc (l.ρ _ _ _ h) h1 h2 h3 h4 h5
 |onil h=>intro τ l;exact .onil (l.ρ _ _ _ h)
 |onilz h=>intro τ l;exact .onilz (l.ρ _ _ _ h)
 |lslc g hw hc ho hv h1 h3 h5 ih=>
  intro τ l;exact .lslc g hw (fun i j c x=>let ⟨cs,a,b⟩:=hc i j c x;⟨cs,l.FM _ _ a,b⟩) ho (fun i j c x=>ih i j c x l.pure) h1 h3 h5
 |lnil=>intro τ _;exact .lnil
 |oz h h1 h2=>intro τ l;exact .oz (l.ρ _ _ _ h) h1 h2
 |lz=>intro τ _;exact .lz
 |mp h=>intro τ l;exact .mp (l.ρ _ _ _ h)
 |fn l1 l2 v1 v2 i1 i2=>intro τ l;exact .fn l1 l2 (fun i c v a b=>i1 i c v a b l) (fun i c v a b=>i2 i c v a b l)
 |agg l o v ih=>intro τ k;exact .agg l o (fun i c v a b=>ih i c v a b k)
 |tup l v ih=>intro τ k;exact .tup l (fun i c v a b=>ih i c v a b k)
 |u=>intro τ _;exact .u
theorem VRel.mono {σ:Sg} {a:AV} {v:Value} (h:VRel σ a v) {τ:Sg} (l:Sg.Le σ τ):VRel τ a v:=h.mono0 l.le0
def AV.pure1:AV→Bool
 | .int .. | .bool _| .str _| .nilp| .nils| .nilm| .nilf| .nili| .ifc .. | .lptr .. | .lslc .. | .u=>true
 | .fn _ first cap=>first.isEmpty&&cap.isEmpty
 |_=>false
def AV.isPure:AV→Bool
 | .agg cs=>cs.all AV.pure1
 | .tup cs=>cs.all AV.pure1
 |a=>a.pure1
theorem VRel.pure1 {σ:Sg} {a:AV} {v:Value} (h:VRel σ a v) (hp:a.pure1=true):VRel σ.pure a v:=by
 cases h with
 |int=>exact .int
 |bool=>exact .bool
 |str=>exact .str
 |nilp=>exact .nilp
 |nils=>exact .nils
 |nilm=>exact .nilm
 |nilf=>exact .nilf
 |nili=>exact .nili
 |ifc=>exact .ifc
 |lptr g hw hc ho hv=>exact .lptr g hw hc ho hv
 |lslc g hw hc ho hv h1 h3 h5=>exact .lslc g hw hc ho hv h1 h3 h5
 |lnil=>exact .lnil
 |lz=>exact .lz
 |u=>exact .u
 | @fn _ f first cap _ _ l1 l2 v1 v2=>
  simp only [AV.pure1,Bool.and_eq_true,List.isEmpty_iff] at hp;obtain ⟨rfl,rfl⟩:=hp;exact .fn l1 l2 (fun i c v a=>by simp at a) (fun i c v a=>by simp at a)
 |_=>simp [AV.pure1] at hp
theorem VRel.isPure {σ:Sg} {a:AV} {v:Value} (h:VRel σ a v) (hp:a.isPure=true):VRel σ.pure a v:=by
 cases h with
 |agg l o w=>
  simp only [AV.isPure,List.all_eq_true] at hp;exact .agg l o (fun i c v a b=>(w i c v a b).pure1 (hp c (List.mem_of_getElem? a)))
 |tup l w=>
  simp only [AV.isPure,List.all_eq_true] at hp;exact .tup l (fun i c v a b=>(w i c v a b).pure1 (hp c (List.mem_of_getElem? a)))
 |_=>exact VRel.pure1 (by constructor<;>assumption) (by simpa [AV.isPure] using hp)
def AObj.blk (σ:Sg) (id:Id):AObj→Option Nat
 | .vec ep _| .map ep _=>match σ.ρ id ep with|some (.at b _ _ _ _)=>some b|_=>none
 | .hole=>none
def Live (σ:Sg) (h:Heap) (b:Nat):Prop:=∃(id:Id) (o:AObj),h[id]? =some o∧o.blk σ id=some b
def BornOk (ents:Array MapEntry) (clock:Nat):Prop:=∀(i:Nat) (e:MapEntry),ents[i]? =some e→e.born<clock∧∀(j:Nat) (e':MapEntry),ents[j]? =some e'→e.born=e'.born→i=j
theorem bornOk_nil (c:Nat):BornOk #[] c:=fun i e h=>by simp at h
theorem bornOk_push {ents:Array MapEntry} {clock:Nat} (h:BornOk ents clock) (k v:Value):BornOk (ents.push { key:=k,val:=v,born:=clock }) (clock+1):=by
 have get:∀(i:Nat) (e:MapEntry),(ents.push { key:=k,val:=v,born:=clock })[i]? =some e→ents[i]? =some e∨(i=ents.size∧e.born=clock):=fun i e x=>by
  rw [Array.getElem?_push] at x
  split at x
  ·rename_i hi;cases x;exact .inr ⟨hi,rfl⟩
  ·exact .inl x
 intro i e hi
 rcases get i e hi with h1|⟨rfl,h1⟩
 ·obtain ⟨a,b⟩:=h i e h1;refine ⟨by omega,fun j e' hj he=>?_⟩
  rcases get j e' hj with h2|⟨rfl,h2⟩
  ·exact b j e' h2 he
  ·omega
 ·refine ⟨by omega,fun j e' hj he=>?_⟩
  rcases get j e' hj with h2|⟨rfl,h2⟩
  ·have:=(h j e' h2).1;omega
  ·rfl
theorem bornOk_modify {ents:Array MapEntry} {clock:Nat} (h:BornOk ents clock) (n:Nat) (k v:Value):BornOk (ents.modify n fun e=>{ e with key:=k,val:=v }) clock:=by
 have get:∀(i:Nat) (e:MapEntry),(ents.modify n fun e=>{ e with key:=k,val:=v })[i]? =some e→∃e0,ents[i]? =some e0∧e.born=e0.born:=fun i e x=>by
  rw [Array.getElem?_modify] at x
  split at x
  ·rw [Option.map_eq_some_iff] at x;obtain ⟨e0,h0,rfl⟩:=x;exact ⟨e0,h0,rfl⟩
  ·exact ⟨e,x,rfl⟩
 intro i e hi;obtain ⟨e0,h0,b0⟩:=get i e hi;obtain ⟨a,b⟩:=h i e0 h0;refine ⟨by omega,fun j e' hj he=>?_⟩;obtain ⟨e1,h1,b1⟩:=get j e' hj;exact b j e1 h1 (by omega)
def ObjOk (σ:Sg) (w:World) (id:Id):AObj→Prop
 | .hole=>True
 | .vec ep rows=>(rows=[]∧σ.ρ id ep=some .nil)∨∃blk st sz n size cs T,σ.ρ id ep=some (.at blk st sz n size)∧w.heap[blk]? =some (.cells cs T (0,0))∧
   cs.size=size∧n=rows.length∧st+n * sz≤size∧σ.FM blk=none∧(∀(i:Nat) (row:List AV),rows[i]? =some row→row.length=sz)∧
   ∀(i j:Nat) (c:AV),cellAt rows i j=some c→∃v,cs[st+i * sz+j]? =some v∧v.oneCell'=true∧VRel σ c v
 | .map ep es=>∃blk st sz n size ents clock,σ.ρ id ep=some (.at blk st sz n size)∧w.heap[blk]? =some (.map ents clock)∧σ.FM blk=none∧
   (es.length=ents.size∧BornOk ents clock)∧∀(i:Nat) (k v:AV) (e:MapEntry),es[i]? =some (k,v)→ents[i]? =some e→VRel σ k e.key∧VRel σ v e.val
structure Sim (σ:Sg) (h:Heap) (w:World):Prop where
 fm:∀b cs,σ.FM b=some cs→∃T fz,w.heap[b]? =some (.cells cs T fz)
 obj:∀(id:Id) (o:AObj),h[id]? =some o→ObjOk σ w id o
 apart:∀(i j:Id) (oi oj:AObj) (b:Nat),h[i]? =some oi→h[j]? =some oj→oi.blk σ i=some b→oj.blk σ j=some b→i=j
 fresh:∃e0,∀id ep,e0≤ep→σ.ρ id ep=none
 rm:∀b o,σ.RM b=some o→w.heap[b]? =some o∧isRec o=true
 gl:∀p∈GL,σ.FM p.1=some p.2
structure Mv (σ:Sg) (h:Heap) (w:World) (σ':Sg) (h':Heap) (w':World):Prop where
 le:Sg.Le σ σ'
 sim:Sim σ' h' w'
 os:w'.os=w.os
 tape:w'.tape=w.tape
 output:w'.output=w.output
 size:w.heap.size≤w'.heap.size
 block:∀b,b<w.heap.size→¬Live σ h b→w'.heap[b]? =w.heap[b]?
 live:∀b,Live σ' h' b→Live σ h b∨w.heap.size≤b
 new:∀b,σ'.FM b≠none→σ.FM b≠none∨Live σ h b∨w.heap.size≤b
theorem Mv.refl {σ:Sg} {h:Heap} {w:World} (s:Sim σ h w):Mv σ h w σ h w:=
 ⟨.refl _,s,rfl,rfl,rfl,Nat.le_refl _,fun _ _ _=>rfl,fun _ x=>.inl x,fun _ x=>.inl x⟩
theorem Mv.trans {σ σ' σ'':Sg} {h h' h'':Heap} {w w' w'':World} (m:Mv σ h w σ' h' w') (k:Mv σ' h' w' σ'' h'' w''):Mv σ h w σ'' h'' w'' where
 le:=m.le.trans k.le
 sim:=k.sim
 os:=k.os.trans m.os
 tape:=k.tape.trans m.tape
 output:=k.output.trans m.output
 size:=Nat.le_trans m.size k.size
 block b hb hl:=by
  have h1:=m.block b hb hl;rw [←h1];refine k.block b (Nat.lt_of_lt_of_le hb m.size) fun hl'=>?_
  rcases m.live b hl' with h2|h2
  ·exact hl h2
  ·omega
 live b hb:=by
  rcases k.live b hb with h1|h1
  ·exact m.live b h1
  ·have:=m.size;exact .inr (by omega)
 new b hb:=by
  have hs:=m.size
  rcases k.new b hb with h1|h1|h1
  ·exact m.new b h1
  ·rcases m.live b h1 with h2|h2
   ·exact .inr (.inl h2)
   ·exact .inr (.inr h2)
  ·exact .inr (.inr (by omega))
theorem Live.lt {σ:Sg} {h:Heap} {w:World} (s:Sim σ h w) {b:Nat} (l:Live σ h b):b<w.heap.size:=by
 obtain ⟨id,o,ho,hb⟩:=l;have hk:=s.obj id o ho;cases o with
 |hole=>simp [AObj.blk] at hb
 |vec ep rows=>
  rcases hk with ⟨_,h2⟩|⟨blk,st,sz,n,size,cs,T,h1,h2,_⟩
  ·simp [AObj.blk,h2] at hb
  ·simp only [AObj.blk,h1,Option.some.injEq] at hb;subst hb;exact (Array.getElem?_eq_some_iff.1 h2).1
 |map ep es=>
  obtain ⟨blk,st,sz,n,size,cs,T,h1,h2,_⟩:=hk;simp only [AObj.blk,h1,Option.some.injEq] at hb;subst hb;exact (Array.getElem?_eq_some_iff.1 h2).1
theorem Live.noFM {σ:Sg} {h:Heap} {w:World} (s:Sim σ h w) {b:Nat} (l:Live σ h b):σ.FM b=none:=by
 obtain ⟨id,o,ho,hb⟩:=l;have hk:=s.obj id o ho;cases o with
 |hole=>simp [AObj.blk] at hb
 |vec ep rows=>
  rcases hk with ⟨_,h2⟩|⟨blk,st,sz,n,size,cs,T,h1,h2,_,_,_,h3,_⟩
  ·simp [AObj.blk,h2] at hb
  ·simp only [AObj.blk,h1,Option.some.injEq] at hb;subst hb;exact h3
 |map ep es=>
  obtain ⟨blk,st,sz,n,size,cs,T,h1,h2,h3,_⟩:=hk;simp only [AObj.blk,h1,Option.some.injEq] at hb;subst hb;exact h3
theorem Live.noRM {σ:Sg} {h:Heap} {w:World} (s:Sim σ h w) {b:Nat} (l:Live σ h b):σ.RM b=none:=by
 obtain ⟨id,o,ho,hb⟩:=l;have hk:=s.obj id o ho;cases hr:σ.RM b with
 |none=>rfl
 |some x=>
  obtain ⟨r1,r2⟩:=s.rm b x hr;cases o with
  |hole=>simp [AObj.blk] at hb
  |vec ep rows=>
   rcases hk with ⟨_,h2⟩|⟨blk,st,sz,n,size,cs,T,h1,h2,_⟩
   ·simp [AObj.blk,h2] at hb
   ·simp only [AObj.blk,h1,Option.some.injEq] at hb;subst hb;rw [h2] at r1;cases r1;cases r2
  |map ep es=>
   obtain ⟨blk,st,sz,n,size,cs,T,h1,h2,_⟩:=hk;simp only [AObj.blk,h1,Option.some.injEq] at hb;subst hb;rw [h2] at r1;cases r1;cases r2
def VRels (σ:Sg) (as:List AV) (vs:List Value):Prop:=as.length=vs.length∧∀(i:Nat) (a:AV) (v:Value),as[i]? =some a→vs[i]? =some v→VRel σ a v
theorem VRels.mono0 {σ τ:Sg} {as:List AV} {vs:List Value} (h:VRels σ as vs) (l:Sg.Le0 σ τ):VRels τ as vs:=⟨h.1,fun i a v x y=>(h.2 i a v x y).mono0 l⟩
theorem VRels.mono {σ τ:Sg} {as:List AV} {vs:List Value} (h:VRels σ as vs) (l:Sg.Le σ τ):VRels τ as vs:=⟨h.1,fun i a v x y=>(h.2 i a v x y).mono l⟩
theorem VRels.nil {σ:Sg}:VRels σ [] []:=⟨rfl,fun _ _ _ h=>by simp at h⟩
theorem VRels.cons {σ:Sg} {a:AV} {v:Value} {as:List AV} {vs:List Value} (h:VRel σ a v) (k:VRels σ as vs):VRels σ (a::as) (v::vs):=by
 refine ⟨by simp [k.1],fun i b u x y=>?_⟩;cases i with
 |zero=>simp at x y;subst x;subst y;exact h
 |succ i=>simp at x y;exact k.2 i b u x y
theorem VRels.pure {σ:Sg} {as:List AV} {vs:List Value} (h:VRels σ as vs) (hp:as.all AV.isPure=true):VRels σ.pure as vs:=
 ⟨h.1,fun i a v x y=>(h.2 i a v x y).isPure (List.all_eq_true.1 hp a (List.mem_of_getElem? x))⟩
theorem VRels.append {σ:Sg} {as bs:List AV} {vs us:List Value} (h:VRels σ as vs) (k:VRels σ bs us):VRels σ (as++bs) (vs++us):=by
 refine ⟨by simp [h.1,k.1],fun i a v x y=>?_⟩;have hl:=h.1;by_cases hi:i<as.length
 ·rw [List.getElem?_append_left hi] at x;rw [List.getElem?_append_left (by omega)] at y;exact h.2 i a v x y
 ·rw [List.getElem?_append_right (by omega)] at x;rw [List.getElem?_append_right (by omega),←hl] at y;exact k.2 _ a v x y
def Sg.withRM (σ:Sg) (R:Nat→Option Obj):Sg:={ ρ:=σ.ρ,FM:=σ.FM,RM:=R }
theorem Sg.withRM_le0 (σ:Sg) (R:Nat→Option Obj):Sg.Le0 σ (σ.withRM R):=⟨fun _ _ _ h=>h,fun _ _ h=>h⟩
theorem live_withRM {σ:Sg} {R:Nat→Option Obj} {h:Heap} {b:Nat}:Live (σ.withRM R) h b↔Live σ h b:=Iff.rfl
theorem ObjOk.withRM {σ:Sg} {R:Nat→Option Obj} {w w':World} {id:Id} {o:AObj} (h:ObjOk σ w id o) (hb:∀b,o.blk σ id=some b→w'.heap[b]? =w.heap[b]?):ObjOk (σ.withRM R) w' id o:=by
 cases o with
 |hole=>trivial
 |vec ep rows=>
  rcases h with ⟨h1,h2⟩|⟨blk,st,sz,n,size,cs,T,h1,h2,h3,h4,h5,h6,h7,h8⟩
  ·exact .inl ⟨h1,h2⟩
  ·exact .inr ⟨blk,st,sz,n,size,cs,T,h1,by rw [hb blk (by simp [AObj.blk,h1])];exact h2,h3,h4,h5,h6,h7,fun i j c x=>let ⟨v,a,b,d⟩:=h8 i j c x;⟨v,a,b,d.mono0 (σ.withRM_le0 R)⟩⟩
 |map ep es=>
  obtain ⟨blk,st,sz,n,size,ents,clock,h1,h2,h3,h4,h5⟩:=h;exact ⟨blk,st,sz,n,size,ents,clock,h1,by rw [hb blk (by simp [AObj.blk,h1])];exact h2,h3,h4,fun i k v e x y=>let ⟨a,b⟩:=h5 i k v e x y;⟨a.mono0 (σ.withRM_le0 R),b.mono0 (σ.withRM_le0 R)⟩⟩
theorem Sim.withRM {σ:Sg} {h:Heap} {w w':World} (s:Sim σ h w) (R:Nat→Option Obj) (hl:∀b,Live σ h b→w'.heap[b]? =w.heap[b]?) (hf:∀b,σ.FM b≠none→w'.heap[b]? =w.heap[b]?)
  (hr:∀b o,R b=some o→w'.heap[b]? =some o∧isRec o=true):Sim (σ.withRM R) h w':=
 ⟨fun b cs x=>by
  obtain ⟨T,fz,e⟩:=s.fm b cs x;exact ⟨T,fz,by rw [hf b (by rw [show σ.FM b=some cs from x];simp)];exact e⟩,
  fun i o ho=>(s.obj i o ho).withRM fun b hb=>hl b ⟨i,o,ho,hb⟩,s.apart,s.fresh,hr,s.gl⟩
theorem Live.notRec {σ:Sg} {h:Heap} {w:World} (s:Sim σ h w) {b:Nat} {o:Obj} (hb:w.heap[b]? =some o) (hr:isRec o=true):¬Live σ h b:=by
 intro l;have:=Live.noRM (Sim.withRM s (fun k=>if k=b then some o else none) (fun _ _=>rfl) (fun _ _=>rfl) (fun k x hx=>by
  split at hx
  ·rename_i e;subst e;cases hx;exact ⟨hb,hr⟩
  ·cases hx)) (live_withRM.2 l)
 simp [Sg.withRM] at this
theorem Sim.notFM {σ:Sg} {h:Heap} {w:World} (s:Sim σ h w) {b:Nat} {o:Obj} (hb:w.heap[b]? =some o) (hr:isRec o=true):σ.FM b=none:=by
 cases e:σ.FM b with
 |none=>rfl
 |some cs=>
  obtain ⟨T,fz,x⟩:=s.fm b cs e;rw [hb] at x;cases x;cases hr
structure ACalls (P:Program) (f:FuncId) (args:List AV) (h:Heap) (K:AV→Heap→Prop):Prop where
 use:∀(σ:Sg) (w:World) (vs:Array Value),Sim σ h w→VRels σ args vs.toList→
  Calls P f vs w fun e w'=>∃v,e= .returned v∧∃σ' h' r,K r h'∧Mv σ h w σ' h' w'∧VRel σ' r v
theorem ACalls.mono {P:Program} {f:FuncId} {args:List AV} {h:Heap} {K K':AV→Heap→Prop} (hc:ACalls P f args h K) (hk:∀r h',K r h'→K' r h'):
  ACalls P f args h K':=⟨fun σ w vs s v=>
 Calls.mono (hc.use σ w vs s v) fun _ _ ⟨x,e,σ',h',r,k,m,v⟩=>⟨x,e,σ',h',r,hk _ _ k,m,v⟩⟩

inductive TK where
 |int (k:IntKind)
 |bool|str|ptr
 |slice (e:Nat)
 |arr (n e:Nat)
 |struct (fs:List (Nat×Nat))
 |map (k v:Nat)
 |func
 |other
 deriving DecidableEq
structure TD where
 kind:TK
 size:Nat
 bytes:Nat
 zero:List AV
 flat:Bool
 key:Bool
def scal (P:Program) (t:Nat):Bool:=match P.underlying t with
 |some (.int _)|some .bool=>true
 |_=>false
def flatFs (P:Program):Nat→List Field→Bool
 |_,[]=>true
 | i, f :: r => f.name != "_" && f.offset == i && scal P f.type && flatFs P (i + 1) r
def flat1 (P:Program) (t:Nat):Option Nat:=match P.underlying t,P.info? t with
 |some (.struct fs),some i=>if flatFs P 0 fs.toList&& !P.stoodInHeld t&&i.size==fs.size then some fs.size else none
 |_,_=>none
def leafOk (P:Program) (t:Nat):Option Nat:=if scal P t then some 1 else flat1 P t
def flatFs2 (P:Program):Nat→List Field→Bool
 |_,[]=>true
 | i, f :: r => f.name != "_" && f.offset == i && (match leafOk P f.type with | some n => flatFs2 P (i + n) r | none => false)
def flatB (P:Program) (t:Nat):Bool:=match P.underlying t with
 |some (.struct fs)=>flatFs2 P 0 fs.toList&& !P.stoodInHeld t&& !P.eqGuardType P.depth t
 |some (.array _ e)=>scal P e&& !P.eqGuardType P.depth t
 |_=>false
abbrev TI:=Nat→Option TD
def kindOf (ti:TI) (t:Nat):Option TK:=(ti t).map (·.kind)
def kindOf0 (ti:TI) (ts:Array TypeId):Option TK:=match ts[0]? with|some t=>kindOf ti t|none=>none
theorem kindOf_some {ti:TI} {t:Nat} {k:TK} (h:kindOf ti t=some k):∃d,ti t=some d∧d.kind=k:=by
 unfold kindOf at h;cases hd:ti t with
 |none=>simp [hd] at h
 |some d=>exact ⟨d,rfl,by simpa [hd] using h⟩
def TD.isAgg (d:TD):Bool:=match d.kind with| .arr .. | .struct _=>true|_=>false
def ofVal:Value→Option AV
 | .int k n=>some (.int k n)
 | .bool b=>some (.bool b)
 | .string s=>some (.str s.data.toList)
 | .pointer none=>some .nilp
 | .slice none 0 0=>some .nils
 | .map none=>some .nilm
 | .nilFunc=>some .nilf
 | .nilIface=>some .nili
 | .iface t v=>some (.ifc t v)
 |_=>none
theorem VRel.ofVal {σ:Sg} {v:Value} {a:AV} (h:Ab.ofVal v=some a):VRel σ a v:=by
 unfold Ab.ofVal at h
 split at h<;>first|(cases h;constructor)|cases h
def kfits:Option TypeDesc→TK→Bool
 |some (.int k),.int k'=>k==k'
 |some .bool,.bool|some .string,.str|some (.pointer _),.ptr|some (.func ..),.func|some (.interface _),.other=>true
 |some (.slice e),.slice e'=>e==e'
 |some (.array n e),.arr n' e'=>n==n'&&e==e'
 |some (.struct fs),.struct l=>fs.toList.map (fun f=>(f.offset,f.type))==l
 |some (.map k v),.map k' v'=>k==k'&&v==v'
 |_,_=>false
def isAggV:Value→Bool
 | .agg _=>true
 |_=>false
structure DOk (P:Program) (t:Nat) (d:TD):Prop where
 info:∃i z,P.info? t=some i∧i.size=d.size∧i.bytes=d.bytes∧i.zero=some z∧z.cells.size=d.size∧d.zero.length=d.size∧
  ∀(j:Nat) (a:AV),d.zero[j]? =some a→∃v,z.cells[j]? =some v∧ofVal v=some a
 und:kfits (P.underlying t) d.kind=true
 one:d.isAgg=false→d.size=1
 flat:d.flat=true→flatB P t=true
 key:d.key=true→WideMaps.KeyLaw P t∧P.keyType t=true∧(match P.underlying t with|some (.array _ _)|some (.struct _)=>true|_=>false)=true
 shape:∀i z,P.info? t=some i→i.zero=some z→isAggV z=d.isAgg
def TOk (P:Program) (ti:TI):Prop:=∀t d,ti t=some d→DOk P t d
theorem DOk.int {P:Program} {t:Nat} {d:TD} {k:IntKind} (h:DOk P t d) (e:d.kind= .int k):P.underlying t=some (.int k):=by
 have:=h.und;rw [e] at this;unfold kfits at this;split at this<;>simp_all
theorem DOk.bool {P:Program} {t:Nat} {d:TD} (h:DOk P t d) (e:d.kind= .bool):P.underlying t=some .bool:=by
 have:=h.und;rw [e] at this;unfold kfits at this;split at this<;>simp_all
theorem DOk.str {P:Program} {t:Nat} {d:TD} (h:DOk P t d) (e:d.kind= .str):P.underlying t=some .string:=by
 have:=h.und;rw [e] at this;unfold kfits at this;split at this<;>simp_all
theorem DOk.ptr {P:Program} {t:Nat} {d:TD} (h:DOk P t d) (e:d.kind= .ptr):∃e,P.underlying t=some (.pointer e):=by
 have:=h.und;rw [e] at this;unfold kfits at this;split at this<;>simp_all
theorem DOk.func {P:Program} {t:Nat} {d:TD} (h:DOk P t d) (e:d.kind= .func):∃a b c,P.underlying t=some (.func a b c):=by
 have:=h.und;rw [e] at this;unfold kfits at this;split at this<;>simp_all
theorem DOk.slice {P:Program} {t:Nat} {d:TD} {e:Nat} (h:DOk P t d) (k:d.kind= .slice e):P.underlying t=some (.slice e):=by
 have:=h.und;rw [k] at this;unfold kfits at this;split at this<;>simp_all
theorem DOk.arr {P:Program} {t:Nat} {d:TD} {n e:Nat} (h:DOk P t d) (k:d.kind= .arr n e):P.underlying t=some (.array n e):=by
 have:=h.und;rw [k] at this;unfold kfits at this;split at this<;>simp_all
theorem DOk.map {P:Program} {t:Nat} {d:TD} {n e:Nat} (h:DOk P t d) (k:d.kind= .map n e):P.underlying t=some (.map n e):=by
 have:=h.und;rw [k] at this;unfold kfits at this;split at this<;>simp_all
theorem DOk.struct {P:Program} {t:Nat} {d:TD} {l:List (Nat×Nat)} (h:DOk P t d) (k:d.kind= .struct l):
  ∃fs,P.underlying t=some (.struct fs)∧fs.toList.map (fun f=>(f.offset,f.type))=l:=by
 have:=h.und;rw [k] at this;unfold kfits at this;split at this<;>simp_all
theorem DOk.run_sizeOf {P:Program} {t:Nat} {d:TD} (h:DOk P t d) (w:World):(sizeOf t).run P w= .ok d.size w:=by
 obtain ⟨⟨i,z,h1,h2,_⟩,_⟩:=h;simp [Go.sizeOf,typeInfo,h1,h2]
theorem DOk.run_zero {P:Program} {t:Nat} {d:TD} (h:DOk P t d) (w:World):∃z,(zeroValue t).run P w= .ok z w∧z.cells.size=d.size∧d.zero.length=d.size∧
  (∀(j:Nat) (a:AV),d.zero[j]? =some a→∃v,z.cells[j]? =some v∧ofVal v=some a)∧∃i,P.info? t=some i∧i.zero=some z∧i.size=d.size∧i.bytes=d.bytes:=by
 obtain ⟨⟨i,z,h1,h2,h3,h4,h5,h6,h7⟩,_⟩:=h;exact ⟨z,by simp [zeroValue,typeInfo,h1,h4],h5,h6,h7,i,h1,h4,h2,h3⟩
theorem run_und {P:Program} {t:TypeId} {d:TypeDesc} (h:P.underlying t=some d) (w:World):(underlying t).run P w= .ok d w:=by
 simp [underlying,h]
theorem DOk.run_isAgg {P:Program} {t:Nat} {d:TD} (h:DOk P t d) (w:World):(isAgg t).run P w= .ok d.isAgg w:=by
 have hu:=h.und;unfold kfits at hu
 split at hu<;>simp_all [Go.isAgg,underlying,TD.isAgg]
def forceL {α:Type}:List α→(List α→Prop)→Prop
 | [],K=>K []
 |a::l,K=>forceL l fun l'=>K (a::l')
theorem forceL_eq {α:Type}:∀(l:List α) (K:List α→Prop),forceL l K=K l
 | [],_=>rfl
 |a::l,K=>forceL_eq l fun l'=>K (a::l')
def forceV:AV→(AV→Prop)→Prop
 | .int k n,K=>K (.int k n)
 | .bool b,K=>K (.bool b)
 | .str s,K=>K (.str s)
 | .nilp,K=>K .nilp
 | .nils,K=>K .nils
 | .nilm,K=>K .nilm
 | .nilf,K=>K .nilf
 | .nili,K=>K .nili
 | .ifc t v,K=>K (.ifc t v)
 | .optr id ep sz i off,K=>K (.optr id ep sz i off)
 | .lptr sz rows i off,K=>K (.lptr sz rows i off)
 | .oslc id ep sz off len lim,K=>K (.oslc id ep sz off len lim)
 | .lslc sz rows off len lim,K=>K (.lslc sz rows off len lim)
 | .mp id ep,K=>K (.mp id ep)
 | .fn f x y,K=>forceL x fun x=>forceL y fun y=>K (.fn f x y)
 | .agg cs,K=>forceL cs fun cs=>K (.agg cs)
 | .tup cs,K=>forceL cs fun cs=>K (.tup cs)
 | .u,K=>K .u
theorem forceV_eq (a:AV) (K:AV→Prop):forceV a K=K a:=by
 cases a<;>simp only [forceV,forceL_eq]
def AV.cells?:AV→Option (List AV)
 | .agg cs=>some cs
 | .int k n=>some [.int k n]
 | .bool b=>some [.bool b]
 | .str s=>some [.str s]
 | .nilp=>some [.nilp]
 | .nils=>some [.nils]
 | .nilm=>some [.nilm]
 | .nilf=>some [.nilf]
 | .nili=>some [.nili]
 | .ifc t v=>some [.ifc t v]
 | .optr id ep sz i off=>some [.optr id ep sz i off]
 | .lptr sz rows i off=>some [.lptr sz rows i off]
 | .oslc id ep sz off len lim=>some [.oslc id ep sz off len lim]
 | .lslc sz rows off len lim=>some [.lslc sz rows off len lim]
 | .mp id ep=>some [.mp id ep]
 | .fn f x y=>some [.fn f x y]
 | .u| .tup _=>none
def CRels (σ:Sg) (as:List AV) (vs:List Value):Prop:=VRels σ as vs∧∀v∈vs,v.oneCell'=true
theorem VRel.cells {σ:Sg} {a:AV} {v:Value} {cs:List AV} (h:VRel σ a v) (hc:a.cells?=some cs):CRels σ cs v.cells.toList:=by
 cases h with
 |agg l o w=>
  simp only [AV.cells?,Option.some.injEq] at hc;subst hc;exact ⟨⟨by simp [Value.cells,l],fun i a v x y=>w i a v x (by simpa [Value.cells] using y)⟩,by simpa [Value.cells] using o⟩
 |u=>simp [AV.cells?] at hc
 |tup l w=>simp [AV.cells?] at hc
 |_=>
  simp only [AV.cells?,Option.some.injEq] at hc;subst hc;exact ⟨VRels.cons (by constructor<;>assumption) .nil,by simp [Value.cells,Value.oneCell']⟩
theorem CRels.mono {σ τ:Sg} {as:List AV} {vs:List Value} (h:CRels σ as vs) (l:Sg.Le σ τ):CRels τ as vs:=⟨h.1.mono l,h.2⟩
def aPart (ag:Bool) (size off:Nat) (cs:List AV):Option AV:=
 if off+size≤cs.length then (if ag then some (.agg ((cs.drop off).take size)) else cs[off]?) else none
theorem extract_rel {σ:Sg} {cs:List AV} {vs:List Value} (h0:CRels σ cs vs) (off size:Nat) (hl:off+size≤cs.length):
  VRel σ (.agg ((cs.drop off).take size)) (.agg ((vs.drop off).take size).toArray):=by
 have h:=h0.1;have h1:=h.1;refine .agg (by simp;omega) (fun v hv=>h0.2 v (List.mem_of_mem_drop (List.mem_of_mem_take hv))) fun i c v a b=>?_;simp only [List.getElem?_take,List.getElem?_drop,List.getElem?_toArray] at a b
 split at a
 ·exact h.2 _ c v a (by simpa [*] using b)
 ·cases a
theorem run_part {P:Program} {t:Nat} {d:TD} (h:DOk P t d) {σ:Sg} {cs:List AV} {vs:Array Value} (hr:CRels σ cs vs.toList) {off:Nat} {a:AV}
  (ha:aPart d.isAgg d.size off cs=some a) (w:World):∃v,(part t vs off).run P w= .ok v w∧VRel σ a v:=by
 unfold aPart at ha
 split at ha
 ·rename_i hl;have h1:=hr.1.1;simp at h1;cases hd:d.isAgg with
  |true=>
   simp only [hd,if_true,Option.some.injEq] at ha;subst ha;refine ⟨.agg (vs.extract off (off+d.size)),?_,?_⟩
   ·simp [part,h.run_isAgg,hd,h.run_sizeOf]
   ·have:=extract_rel hr off d.size hl;have e:(vs.extract off (off+d.size))=((vs.toList.drop off).take d.size).toArray:=by
     apply Array.ext'
     simp [List.extract_eq_take_drop]
    rw [e];exact this
  |false=>
   simp only [hd,Bool.false_eq_true,if_false] at ha;have hlt:off<cs.length:=by
    rcases Nat.lt_or_ge off cs.length with h'|h'
    ·exact h'
    ·rw [List.getElem?_eq_none h'] at ha;cases ha
   have hv:vs[off]? =some (vs[off]'(by omega)):=by simp
   refine ⟨vs[off]'(by omega),?_,hr.1.2 off a _ ha (by simp)⟩;simp [part,h.run_isAgg,hd,hv]
 ·cases ha
def aOff (K:AV→Prop) (n:Nat):AV→Prop
 | .optr id ep sz i o=>K (.optr id ep sz i (o+n))
 | .lptr sz rows i o=>K (.lptr sz rows i (o+n))
 |_=>False
def isPtr:AV→Bool
 | .optr .. | .lptr .. =>true
 |_=>false
def binInt (op:BinOp) (k:IntKind) (a b:Int) (K:AV→Prop):Prop:=
 match op with
 | .add=>K (.int k (k.wrap (a+b)))
 | .sub=>K (.int k (k.wrap (a-b)))
 | .mul=>K (.int k (k.wrap (a * b)))
 | .quo=>b≠0∧K (.int k (k.wrap (a.tdiv b)))
 | .rem=>b≠0∧K (.int k (a.tmod b))
 | .eql=>K (.bool (a==b))
 | .neq=>K (.bool (a !=b))
 | .lss=>K (.bool (a<b))
 | .leq=>K (.bool (a≤b))
 | .gtr=>K (.bool (a>b))
 | .geq=>K (.bool (a≥b))
 |_=>False
def notNil:AV→AV→Bool
 | .optr ..,.nilp| .lptr ..,.nilp| .mp ..,.nilm| .fn ..,.nilf=>true
 |_,_=>false
def nthB (s:List UInt8) (n:Nat):Int:=((s.getD n 0).toNat:Int)
def strMax:Nat:=281474976710656
def eqCK (ti:TI):List (Nat×Nat)→List AV→List AV→(Bool→Prop)→Prop
 | [],_,_,K=>K true
 |f::l,x::a,y::b,K=>match kindOf ti f.2,x,y with
  |some (.int _),.int k m,.int k' n=>if k=k' then eqCK ti l a b fun r=>K (decide (m=n)&&r) else False
  |some .bool,.bool m,.bool n=>eqCK ti l a b fun r=>K (m==n&&r)
  |_,_,_=>False
 |_,_,_,_=>False
def leaf1 (ti:TI) (f:Nat×Nat):List (Nat×Nat):=match kindOf ti f.2 with
 |some (.struct l)=>l
 |_=>[f]
def leafs (ti:TI):List (Nat×Nat)→List (Nat×Nat)
 | []=>[]
 |f::l=>leaf1 ti f++leafs ti l
def eqAK (ti:TI) (t:Nat) (a b:List AV) (K:Bool→Prop):Prop:=match ti t with
 |some d=>match d.flat,d.kind with
  |true,.struct l=>eqCK ti (leafs ti l) a b K
  |true,.arr (n+1) e=>eqCK ti (List.replicate (n+1) (0,e)) a b K
  |_,_=>False
 |none=>False
def binK (ti:TI) (op:BinOp) (t:Nat) (x y:AV) (K:AV→Prop):Prop:=
 match op,x,y with
 | .shl,.int k a,.int _ b=>0≤b∧K (.int k (k.wrap (a * 2 ^ (min b.toNat k.bits))))
 | .shr,.int k a,.int _ b=>0≤b∧K (.int k (a.fdiv (2 ^ (min b.toNat k.bits))))
 |op,.int k a,.int k' b=>if k=k' then binInt op k a b K else False
 | .eql,.bool a,.bool b=>(kindOf ti t=some .bool)∧K (.bool (a==b))
 | .neq,.bool a,.bool b=>(kindOf ti t=some .bool)∧K (.bool (!(a==b)))
 | .eql,.str a,.str b=>K (.bool (a==b))
 | .neq,.str a,.str b=>K (.bool (!(a==b)))
 | .add,.str a,.str b=>a.length+b.length≤strMax∧K (.str (a++b))
 | .eql,.agg a,.agg b=>eqAK ti t a b fun r=>K (.bool r)
 | .neq,.agg a,.agg b=>eqAK ti t a b fun r=>K (.bool !r)
 | .eql,.fn _ _ _,.nilf=>(kindOf ti t=some .func)∧K (.bool false)
 | .neq,.fn _ _ _,.nilf=>(kindOf ti t=some .func)∧K (.bool true)
 | .eql,a,.nilp=>(kindOf ti t=some .ptr)∧if notNil a .nilp then K (.bool false) else match a with| .nilp=>K (.bool true)|_=>False
 | .neq,a,.nilp=>(kindOf ti t=some .ptr)∧if notNil a .nilp then K (.bool true) else match a with| .nilp=>K (.bool false)|_=>False
 |_,_,_=>False
def unK (op:UnOp) (x:AV) (K:AV→Prop):Prop:=
 match op,x with
 | .not,.bool b=>K (.bool !b)
 | .neg,.int k n=>K (.int k (k.wrap (0-n)))
 |_,_=>False
def extK (vs:List AV) (n:Nat) (K:AV→Prop):Prop:=match vs[n]? with|some v=>K v|none=>False
def minK (mx:Bool):List AV→AV→(AV→Prop)→Prop
 | [],x,K=>K x
 |y::r,x,K=>match y,x with
  | .int k' b,.int k a=>if k=k' then minK mx r (.int k (if (if mx then a<b else b<a) then b else a)) K else False
  |_,_=>False
def sliceGo (lo hi mx:Option AV) (K:AV→Prop) (len:Nat) (f:Nat→Nat→Bool→AV):Prop:=
 match lo,hi,mx with
 |none,none,none=>K (f 0 len false)
 |some (.int _ l),none,none=>(0≤l∧l≤len)∧K (f l.toNat (len-l.toNat) false)
 |none,some (.int _ h),none=>(0≤h∧h≤len)∧K (f 0 h.toNat false)
 |some (.int _ l),some (.int _ h),none=>(0≤l∧l≤h∧h≤len)∧K (f l.toNat (h.toNat-l.toNat) false)
 |none,some (.int _ h),some (.int _ m)=>(0≤h∧h≤len∧m=h)∧K (f 0 h.toNat true)
 |some (.int _ l),some (.int _ h),some (.int _ m)=>(l=0∧0≤h∧h≤len∧m=h)∧K (f 0 h.toNat true)
 |_,_,_=>False
def sliceK (x:AV) (lo hi:Option AV) (mx:Option AV) (K:AV→Prop):Prop:=
 match x with
 | .oslc id ep sz off len false=>sliceGo lo hi mx K len fun l n lim=>.oslc id ep sz (off+l) n lim
 | .lslc sz rows off len false=>sliceGo lo hi mx K len fun l n lim=>.lslc sz rows (off+l) n lim
 | .nils=>sliceGo lo hi mx K 0 fun _ _ _=>.nils
 |_=>False
def fillK (place:Nat→Option (Nat×Nat)):List AV→List (Nat×AV)→(List AV→Prop)→Prop
 |cells,[],K=>K cells
 |cells,(i,v)::r,K=>
  match place i,v.cells? with
  |some (off,size),some cs=>if cs.length=size∧off+size≤cells.length then fillK place (cells.take off++cs++cells.drop (off+size)) r K else False
  |_,_=>False
def structPlace (ti:TI) (fs:List (Nat×Nat)) (i:Nat):Option (Nat×Nat):=(fs[i]?).bind fun f=>(ti f.2).map fun d=>(f.1,d.size)
def idxK (size:Nat) (n:Int) (K:AV→Prop) (x:AV):Prop:=
 match x with
 | .oslc id ep sz off len _=>if sz=size then (0≤n∧n<len)∧K (.optr id ep sz (off+n.toNat) 0) else False
 | .lslc sz rows off len _=>if sz=size then (0≤n∧n<len)∧K (.lptr sz rows (off+n.toNat) 0) else False
 |_=>False
def slcSz (n:Nat):AV→Bool
 | .oslc _ _ sz _ _ _=>sz==n
 | .lslc sz _ _ _ _=>sz==n
 | .nils=>true
 |_=>false
def toVal1:AV→Option Value
 | .int k n=>some (.int k n)
 | .bool b=>some (.bool b)
 | .str s=>some (.string ⟨s.toArray⟩)
 |_=>none
def toVals:List AV→Option (List Value)
 | []=>some []
 |a::r=>match toVal1 a,toVals r with|some v,some vs=>some (v::vs)|_,_=>none
theorem toVal1_rel {σ:Sg} {a:AV} {u v:Value} (h:toVal1 a=some v) (x:VRel σ a u):u=v:=by
 unfold toVal1 at h
 split at h<;>(try cases h)<;>cases x<;>rfl
theorem toVals_rel {σ:Sg}:∀{as:List AV} {vs us:List Value},toVals as=some vs→VRels σ as us→us=vs
 | [],vs,us,h,x=>by
  cases h;exact List.eq_nil_of_length_eq_zero (by have:=x.1;simpa using this.symm)
 |a::as,vs,us,h,x=>by
  unfold toVals at h
  split at h
  ·rename_i v vs' h1 h2;cases h
   match us,x with
   | [],x=>exact absurd x.1 (by simp)
   |u::us,x=>
    have e1:=toVal1_rel h1 (x.2 0 a u rfl rfl);have e2:=toVals_rel h2 (us:=us) ⟨by have:=x.1;simpa using this,fun i c v y z=>x.2 (i+1) c v (by simpa using y) (by simpa using z)⟩;rw [e1,e2]
  ·cases h
def pureK (ti:TI) (ev:Operand→AV) (op:Op) (K:AV→Prop):Prop:=
 match op with
 | .move x| .assign x=>K (ev x)
 | .pick c a b=>match ev c with| .bool t=>(match t with|true=>K (ev a)|false=>K (ev b))|_=>False
 | .nilCheck x=>if isPtr (ev x) then K (ev x) else match ev x with| .fn (.func f) a b=>K (.fn (.func f) a b)|_=>False
 | .binOp op t x y _=>binK ti op t (ev x) (ev y) K
 | .unOp op _ x=>unK op (ev x) K
 | .convert s d x=>
  match kindOf ti s,kindOf ti d,ev x with
  |some (.int _),some (.int k),.int _ n=>K (.int k (k.wrap n))
  |_,_,_=>False
 | .fieldAddr t x f=>
  match kindOf ti t with
  |some (.struct fs)=>match fs[f]? with
   |some (off,ft)=>match ti ft with
    |some d=>if d.size=0 then False else aOff K off (ev x)
    |none=>False
   |none=>False
  |_=>False
 | .field t x f=>
  match kindOf ti t,ev x with
  |some (.struct fs),.agg cs=>match fs[f]? with
   |some (off,ft)=>match ti ft with
    |some d=>(match aPart d.isAgg d.size off cs with|some v=>K v|none=>False)
    |none=>False
   |none=>False
  |_,_=>False
 | .indexAddr t x i=>
  match kindOf ti t,ev i with
  |some (.slice e),.int _ n=>match ti e with
   |some d=>idxK d.size n K (ev x)
   |none=>False
  |some (.arr m e),.int _ n=>match ti e with
   |some d=>(0≤n∧n<m)∧aOff K (n.toNat * d.size) (ev x)
   |none=>False
  |_,_=>False
 | .index t x i=>
  match kindOf ti t,ev x,ev i with
  |some (.arr m e),.agg cs,.int _ n=>match ti e with
   |some d=>(0≤n∧n<m)∧(match aPart d.isAgg d.size (n.toNat * d.size) cs with|some v=>K v|none=>False)
   |none=>False
  |some .str,.str s,.int _ n=>(0≤n∧n<s.length)∧K (.int .u8 (nthB s n.toNat))
  |_,_,_=>False
 | .extract x n=>match ev x with| .tup vs=>extK vs n K|_=>False
 | .slice t x lo hi mx=>
  match kindOf ti t with
  |some (.slice e)=>match ti e with
   |some d=>if slcSz d.size (ev x)=true then sliceK (ev x) (lo.map ev) (hi.map ev) (mx.map ev) K else False
   |none=>False
  |some .str=>match mx with
   |none=>(match ev x with
    | .str s=>sliceGo (lo.map ev) (hi.map ev) none K s.length fun l n _=>.str ((s.drop l).take n)
    |_=>False)
   |some _=>False
  |_=>False
 | .build t parts=>
  match ti t with
  |some d=>match d.kind with
   | .struct fs=>if fs.all (fun f=>(ti f.2).isSome)=false then False else fillK (structPlace ti fs) d.zero (parts.toList.map fun p=>(p.1,ev p.2)) fun cs=>K (.agg cs)
   | .arr _ e=>match ti e with
    |some de=>fillK (fun i=>some (i * de.size,de.size)) d.zero (parts.toList.map fun p=>(p.1,ev p.2)) fun cs=>K (.agg cs)
    |none=>False
   |_=>False
  |none=>False
 | .makeInterface t x=>match kindOf ti t,ev x with
  |some (.struct _),.agg cs=>(match toVals cs with|some vs=>K (.ifc t (.agg vs.toArray))|none=>False)
  |_,_=>False
 | .makeFunc fn first cap=>K (.fn fn (first.toList.map ev) (cap.toList.map ev))
 | .call c=>
  match c.callee,c.args.toList with
  | .builtin .len,[x]=>(match kindOf0 ti c.argTypes,ev x with
   |some (.slice _),.oslc _ _ _ _ len _=>K (.int .i64 len)
   |some (.slice _),.lslc _ _ _ len _=>K (.int .i64 len)
   |some (.slice _),.nils=>K (.int .i64 0)
   |some (.arr n _),_=>K (.int .i64 n)
   |some .str,.str s=>K (.int .i64 s.length)
   |_,_=>False)
  | .builtin .min,x::r=>minK false (r.map ev) (ev x) K
  | .builtin .max,x::r=>minK true (r.map ev) (ev x) K
  |_,_=>False
 |_=>False
end Go.Ab
