/-
  What is proved here serves the law's text: each part says its own claim and its conditions. No condition is left open.
-/
import Derived.Test.YtohegnfjdfcebaaGreatDoorKG
import Derived.OrdersIn
import Derived.RangeFuncLeaves
import Derived.RangeFuncRecord
set_option maxHeartbeats 32000000
set_option maxRecDepth 100000
set_option linter.unusedSimpArgs false
set_option linter.unusedVariables false

namespace Go.Ab
def pureRows (rows:List (List AV)):Prop:=∀row∈rows,∀c∈row,c.pure1=true
def frz1 (h:Heap) (a:AV) (K:AV→Heap→Prop):Prop:=
 match a with
 | .oslc id ep sz off len lim=>match h[id]? with
  |some (.vec ep' rows)=>ep'=ep∧pureRows rows∧K (.lslc sz rows off len lim) (h.set id .hole)
  |_=>False
 |a=>K a h
def frzCells (h:Heap):List AV→(List AV→Heap→Prop)→Prop
 | [],K=>K [] h
 |a::r,K=>frz1 h a fun a' h'=>frzCells h' r fun r' h''=>K (a'::r') h''
def frzA (h:Heap) (a:AV) (K:AV→Heap→Prop):Prop:=
 match a with
 | .agg cs=>frzCells h cs fun cs' h'=>K (.agg cs') h'
 |a=>frz1 h a K
def frzAs (h:Heap):List AV→(List AV→Heap→Prop)→Prop
 | [],K=>K [] h
 |a::r,K=>frzA h a fun a' h'=>frzAs h' r fun r' h''=>K (a'::r') h''
def frzK (h:Heap) (a:AV) (K:AV→Heap→Prop):Prop:=
 match a with
 | .tup cs=>frzAs h cs fun cs' h'=>K (.tup cs') h'
 |a=>frzA h a K
section
variable {P:Program} {ti:TI} {σ:Sg}
theorem frz1_sound {h:Heap} {w:World} (s:Sim σ h w) {a:AV} {v:Value} (hv:VRel σ a v) {K:AV→Heap→Prop} (hk:frz1 h a K):
  ∃σ' h' a',Mv σ h w σ' h' w∧VRel σ' a' v∧K a' h':=by
 unfold frz1 at hk
 split at hk
 ·rename_i id ep sz off len lim
  split at hk
  ·rename_i ep' rows ho;obtain ⟨rfl,hp,hk⟩:=hk;have hother:∀(i:Id) (x:AObj),(h.set id .hole)[i]? =some x→x= .hole∨(i≠id∧h[i]? =some x):=fun i x hx=>by
    by_cases hi:i=id
    ·subst hi;rw [Heap.getElem?_set_self'] at hx;cases hh:h[i]? with
     |none=>simp [hh] at hx
     |some y=>simp [hh] at hx;exact .inl hx.symm
    ·rw [Heap.getElem?_set_ne (Ne.symm hi)] at hx;exact .inr ⟨hi,hx⟩
   have mf:Mv σ h w σ (h.set id .hole) w:=s.forget fun i x hx=>(hother i x hx).imp (fun y=>y) And.right;cases hv with
   | @oslc _ _ _ _ _ _ _ blk st n size cap hh h1 h2 h3 h4 h5=>
    rcases s.obj id _ ho with ⟨_,x⟩|⟨blk',st',sz',n',size',cells,T,e1,e2,e3,e4,e5,e6,e7,e8⟩
    ·rw [hh] at x;cases x
    rw [hh] at e1;cases e1
    let σ':Sg:={ ρ:=σ.ρ,FM:=fun b=>if b=blk then some cells else σ.FM b,RM:=σ.RM }
    have hle:Sg.Le σ σ':=⟨fun _ _ _ x=>x,fun b cs x=>by
     show (if b=blk then some cells else σ.FM b)=some cs
     split
     ·rename_i e;subst e;rw [e6] at x;cases x
     ·exact x,fun _ _ x=>x⟩
    have hlv:Live σ h blk:=⟨id,_,ho,by simp [AObj.blk,hh]⟩;have hblk:∀(i:Id) (x:AObj) (b:Nat),i≠id→h[i]? =some x→x.blk σ i=some b→b≠blk:=by
     rintro i x b hi hx hb rfl;exact hi (s.apart i id x _ b hx ho hb (by simp [AObj.blk,hh]))
    have hsim:Sim σ' (h.set id .hole) w:=by
     refine ⟨fun b cs x=>?_,fun i x hx=>?_,fun i j oi oj b hi hj bi bj=>?_,s.fresh,s.rm,fun p hp=>hle.FM _ _ (s.gl p hp)⟩
     ·have x:(if b=blk then some cells else σ.FM b)=some cs:=x;by_cases e:b=blk
      ·subst e;rw [if_pos rfl] at x;cases x;exact ⟨_,_,e2⟩
      ·rw [if_neg e] at x;exact s.fm b cs x
     ·rcases hother i x hx with rfl|⟨hi,hx'⟩
      ·trivial
      ·refine (s.obj i x hx').keep hle fun b hb=>⟨rfl,?_⟩;show (if b=blk then some cells else σ.FM b)=none;rw [if_neg (hblk i x b hi hx' hb)];exact Live.noFM s ⟨i,x,hx',hb⟩
     ·have e:∀(i:Id) (x:AObj),x.blk σ' i=x.blk σ i:=fun i x=>rfl;rw [e] at bi bj
      rcases hother i oi hi with rfl|⟨_,hi'⟩
      ·simp [AObj.blk] at bi
      ·rcases hother j oj hj with rfl|⟨_,hj'⟩
       ·simp [AObj.blk] at bj
       ·exact s.apart i j oi oj b hi' hj' bi bj
    refine ⟨σ',h.set id .hole,.lslc sz rows off len lim,⟨hle,hsim,rfl,rfl,rfl,Nat.le_refl _,fun _ _ _=>rfl,fun b hb=>?_,fun b hb=>?_⟩,?_,hk⟩
    ·obtain ⟨i,x,hx,hbx⟩:=hb
     rcases hother i x hx with rfl|⟨_,hx'⟩
     ·simp [AObj.blk] at hbx
     ·exact .inl ⟨i,x,hx',hbx⟩
    ·have hb:(if b=blk then some cells else σ.FM b)≠none:=hb
     split at hb
     ·rename_i e;subst e;exact .inr (.inl hlv)
     ·exact .inl hb
    ·refine .lslc (blk:=blk) (st:=st) (fun i j=>cells.getD (st+i * sz+j) undef) e7 (fun i j c hc=>?_) (fun i j c hc=>?_) (fun i j c hc=>?_) (by omega) h3 h5
     ·obtain ⟨v,f1,f2,f3⟩:=e8 i j c hc;refine ⟨cells,by show (if blk=blk then _ else _)=_;simp,?_⟩;rw [f1];simp [f1]
     ·obtain ⟨v,f1,f2,f3⟩:=e8 i j c hc;simp [f1,f2]
     ·obtain ⟨v,f1,f2,f3⟩:=e8 i j c hc;obtain ⟨row,hr,hj⟩:=cellAt_get hc;have hpc:=hp row (List.mem_of_getElem? hr) c (List.mem_of_getElem? hj);have:=(f3.mono hle).pure1 hpc;simpa [f1] using this
   |onil hh=>exact ⟨σ,_,_,mf,.lnil,hk⟩
   |onilz hh=>exact ⟨σ,_,_,mf,.lz,hk⟩
   |oz hh h1 h2=>exact ⟨σ,_,_,mf,.lz,hk⟩
  ·exact hk.elim
 ·exact ⟨σ,h,_,.refl s,hv,hk⟩
theorem frzCells_sound:∀{cs:List AV} {vs:List Value} {σ:Sg} {h:Heap} {w:World},Sim σ h w→VRels σ cs vs→∀{K:List AV→Heap→Prop},frzCells h cs K→
  ∃σ' h' cs',Mv σ h w σ' h' w∧VRels σ' cs' vs∧K cs' h':=by
 intro cs
 induction cs with
 |nil=>
  intro vs σ h w s hv K hk;exact ⟨σ,h,[],.refl s,hv,hk⟩
 |cons c cs ih=>
  intro vs σ h w s hv K hk
  match vs,hv with
  | [],hv=>cases hv.1
  |v::vs,hv=>
   obtain ⟨σ1,h1,c',m1,r1,k1⟩:=frz1_sound s (hv.2 0 c v rfl rfl) hk;have htl:VRels σ cs vs:=⟨by have:=hv.1;simpa using this,fun i a v x y=>hv.2 (i+1) a v (by simpa using x) (by simpa using y)⟩;obtain ⟨σ2,h2,cs',m2,r2,k2⟩:=ih m1.sim (htl.mono m1.le) k1;exact ⟨σ2,h2,c'::cs',m1.trans m2,VRels.cons (r1.mono m2.le) r2,k2⟩
theorem frzA_sound {h:Heap} {w:World} (s:Sim σ h w) {a:AV} {v:Value} (hv:VRel σ a v) {K:AV→Heap→Prop} (hk:frzA h a K):
  ∃σ' h' a',Mv σ h w σ' h' w∧VRel σ' a' v∧K a' h':=by
 unfold frzA at hk
 split at hk
 ·rename_i cs;cases hv with
  | @agg _ _ vs l o hh=>
   obtain ⟨σ',h',cs',m,r,k⟩:=frzCells_sound s (vs:=vs.toList) ⟨by simpa using l,fun i a v x y=>hh i a v x (by simpa using y)⟩ hk;exact ⟨σ',h',_,m,.agg (by have:=r.1;simpa using this) o (fun i a v x y=>r.2 i a v x (by simpa using y)),k⟩
 ·obtain ⟨σ',h',a',m,r,k⟩:=frz1_sound s hv hk;exact ⟨σ',h',a',m,r,k⟩
theorem frzAs_sound:∀{cs:List AV} {vs:List Value} {σ:Sg} {h:Heap} {w:World},Sim σ h w→VRels σ cs vs→∀{K:List AV→Heap→Prop},frzAs h cs K→
  ∃σ' h' cs',Mv σ h w σ' h' w∧VRels σ' cs' vs∧K cs' h':=by
 intro cs
 induction cs with
 |nil=>
  intro vs σ h w s hv K hk;exact ⟨σ,h,[],.refl s,hv,hk⟩
 |cons c cs ih=>
  intro vs σ h w s hv K hk
  match vs,hv with
  | [],hv=>cases hv.1
  |v::vs,hv=>
   obtain ⟨σ1,h1,c',m1,r1,k1⟩:=frzA_sound s (hv.2 0 c v rfl rfl) hk;have htl:VRels σ cs vs:=⟨by have:=hv.1;simpa using this,fun i a v x y=>hv.2 (i+1) a v (by simpa using x) (by simpa using y)⟩;obtain ⟨σ2,h2,cs',m2,r2,k2⟩:=ih m1.sim (htl.mono m1.le) k1;exact ⟨σ2,h2,c'::cs',m1.trans m2,VRels.cons (r1.mono m2.le) r2,k2⟩
theorem frzK_sound {h:Heap} {w:World} (s:Sim σ h w) {a:AV} {v:Value} (hv:VRel σ a v) {K:AV→Heap→Prop} (hk:frzK h a K):
  ∃σ' h' a',Mv σ h w σ' h' w∧VRel σ' a' v∧K a' h':=by
 unfold frzK at hk
 split at hk
 ·rename_i cs;cases hv with
  | @tup _ _ vs l hh=>
   obtain ⟨σ',h',cs',m,r,k⟩:=frzAs_sound s (vs:=vs.toList) ⟨by simpa using l,fun i a v x y=>hh i a v x (by simpa using y)⟩ hk;exact ⟨σ',h',_,m,.tup (by have:=r.1;simpa using this) (fun i a v x y=>r.2 i a v x (by simpa using y)),k⟩
 ·exact frzA_sound s hv hk
end
def AV.isPure2:AV→Bool
 | .tup cs=>cs.all AV.isPure
 |a=>a.isPure
theorem VRel.isPure2 {σ:Sg} {a:AV} {v:Value} (h:VRel σ a v) (hp:a.isPure2=true):VRel σ.pure a v:=by
 cases h with
 |tup l w=>
  simp only [AV.isPure2,List.all_eq_true] at hp;exact .tup l (fun i c v a b=>(w i c v a b).isPure (hp c (List.mem_of_getElem? a)))
 |_=>exact VRel.isPure (by constructor<;>assumption) (by simpa [AV.isPure2] using hp)
structure PCalls (P:Program) (f:FuncId) (args:List AV) (K:AV→Prop):Prop where
 out:ACalls P f args Heap.nil fun r h'=>frzK h' r fun r' _=>r'.isPure2=true∧K r'
structure PRet (P:Program) (f:FuncId) (args:List AV) (r:AV):Prop where
 out:PCalls P f args fun x=>x=r
theorem frz1_mono {h:Heap} {a:AV} {K K':AV→Heap→Prop} (hk:∀a h,K a h→K' a h) (x:frz1 h a K):frz1 h a K':=by
 unfold frz1 at *
 split at x
 ·split at x
  ·exact ⟨x.1,x.2.1,hk _ _ x.2.2⟩
  ·exact x
 ·exact hk _ _ x
theorem frzCells_mono:∀{cs:List AV} {h:Heap} {K K':List AV→Heap→Prop},(∀a h,K a h→K' a h)→frzCells h cs K→frzCells h cs K'
 | [],_,_,_,hk,x=>hk _ _ x
 |_::_,_,_,_,hk,x=>frz1_mono (fun _ _ y=>frzCells_mono (fun _ _ z=>hk _ _ z) y) x
theorem frzA_mono {h:Heap} {a:AV} {K K':AV→Heap→Prop} (hk:∀a h,K a h→K' a h) (x:frzA h a K):frzA h a K':=by
 unfold frzA at *
 split at x
 ·exact frzCells_mono (fun _ _ y=>hk _ _ y) x
 ·exact frz1_mono hk x
theorem frzAs_mono:∀{cs:List AV} {h:Heap} {K K':List AV→Heap→Prop},(∀a h,K a h→K' a h)→frzAs h cs K→frzAs h cs K'
 | [],_,_,_,hk,x=>hk _ _ x
 |_::_,_,_,_,hk,x=>frzA_mono (fun _ _ y=>frzAs_mono (fun _ _ z=>hk _ _ z) y) x
theorem frzK_mono {h:Heap} {a:AV} {K K':AV→Heap→Prop} (hk:∀a h,K a h→K' a h) (x:frzK h a K):frzK h a K':=by
 unfold frzK at *
 split at x
 ·exact frzAs_mono (fun _ _ y=>hk _ _ y) x
 ·exact frzA_mono hk x
theorem PCalls.mono {P:Program} {f:FuncId} {args:List AV} {K K':AV→Prop} (hc:PCalls P f args K) (hk:∀r,K r→K' r):PCalls P f args K':=
 ⟨ACalls.mono hc.out fun _ _ x=>frzK_mono (fun _ _ y=>⟨y.1,hk _ y.2⟩) x⟩
theorem Sim.pure {σ:Sg} {h:Heap} {w:World} (s:Sim σ h w):Sim σ.pure Heap.nil w:=
 ⟨s.fm,fun i o ho=>(Heap.nil_some ho).elim,fun i j oi oj b hi=>(Heap.nil_some hi).elim,⟨0,fun _ _ _=>rfl⟩,fun b o x=>by simp at x,s.gl⟩
theorem PCalls.use {P:Program} {f:FuncId} {args:List AV} {K:AV→Prop} (hc:PCalls P f args K) {σ:Sg} {h:Heap} {w:World} (s:Sim σ h w) {vs:Array Value} (hv:VRels σ args vs.toList):
  Calls P f vs w fun e w'=>∃v,e= .returned v∧∃σ' r,K r∧Mv σ h w σ' h w'∧VRel σ' r v:=by
 have s0:Sim σ Heap.nil w:=(s.forget (h':=Heap.nil) fun i o x=>(Heap.nil_some x).elim).sim;refine (hc.out.use σ w vs s0 hv).mono ?_;rintro e w' ⟨v,rfl,σ0,h0,r0,hk,m0,v0⟩;obtain ⟨σ1,h1,r1,m1,v1,hp1,k1⟩:=frzK_sound m0.sim v0 hk;have m:=m0.trans m1
 let σ':Sg:={ ρ:=σ.ρ,FM:=σ1.FM,RM:=σ.RM }
 have hle:Sg.Le σ σ':=⟨fun _ _ _ x=>x,fun b cs x=>m.le.FM b cs x,fun _ _ x=>x⟩;have nl:∀b,¬Live σ Heap.nil b:=fun b ⟨i,o,ho,_⟩=>Heap.nil_some ho;have hblock:∀b,b<w.heap.size→w'.heap[b]? =w.heap[b]?:=fun b hb=>m.block b hb (nl b);have hfm:∀b,Live σ h b→σ1.FM b=none:=fun b hb=>by
  cases hf:σ1.FM b with
  |none=>rfl
  |some cs=>
   rcases m.new b (by rw [hf];simp) with x|x|x
   ·exact absurd (Live.noFM s hb) x
   ·exact absurd x (nl b)
   ·have:=Live.lt s hb;omega
 refine ⟨v,rfl,σ',r1,k1,⟨hle,⟨m.sim.fm,fun i o ho=>?_,fun i j oi oj b hi hj bi bj=>s.apart i j oi oj b hi hj bi bj,s.fresh,fun b o x=>let ⟨r1,r2⟩:=s.rm b o x;⟨by rw [hblock b (Array.getElem?_eq_some_iff.1 r1).1];exact r1,r2⟩,fun p hp=>hle.FM _ _ (s.gl p hp)⟩,m.os,m.tape,m.output,m.size,fun b hb _=>hblock b hb,fun b hb=>.inl hb,fun b hb=>?_⟩,?_⟩
 ·exact (s.obj i o ho).keep hle fun b hb=>⟨hblock b (Live.lt s ⟨i,o,ho,hb⟩),hfm b ⟨i,o,ho,hb⟩⟩
 ·rcases m.new b hb with x|x|x
  ·exact .inl x
  ·exact absurd x (nl b)
  ·exact .inr (.inr x)
 ·exact (v1.isPure2 hp1).mono ⟨fun _ _ _ x=>by simp at x,fun _ _ x=>x,fun _ _ x=>by simp at x⟩
end Go.Ab

namespace Go.Ab
inductive AE where
 |normal
 |exit (id:Nat)
 |ret
 |pan (t:Nat) (v:Value)
def AE.toExit:AE→Exit
 | .normal=>.normal
 | .exit id=>.exit id
 | .ret=>.ret
 | .pan t v=>.panic [{ v:=.iface t v,recovered:=false }]
structure Yl where
 l:Nat
 rc:Loop
 fr:List AV
structure Ctx where
 P:Program
 ti:TI
 fnok:FuncId→Bool
 pureFn:FuncId→Bool
 hFn:FuncId→Bool:=fun _=>false
 xFn:FuncId→Bool:=fun _=>false
 yl:Option Yl:=none
 inR:Bool:=false
 gd:Bool:=false
def Ctx.g (C:Ctx) (b:Bool):Ctx:={ P:=C.P,ti:=C.ti,fnok:=C.fnok,pureFn:=C.pureFn,hFn:=C.hFn,xFn:=C.xFn,yl:=C.yl,inR:=C.inR,gd:=b }
def Ctx.round (C:Ctx):Ctx:={ P:=C.P,ti:=C.ti,fnok:=C.fnok,pureFn:=C.pureFn,hFn:=C.hFn,xFn:=C.xFn,yl:=none,inR:=true }
def FR (rd:Option Nat):Fence:={ fn:=fun _=>True,depth:=none,alive:=false,round:=rd }
theorem callsFR {rd:Option Nat} {n:Nat} {P:Program} {f:FuncId} {args:Array Value} {w:World} {R:Ending→World→Prop} (h:Calls P f args w R):CallsIn (FR rd) n P f args w R:=(callsIn_wide (n:=n)).2 h
theorem callsFR' {rd:Option Nat} {n:Nat} {P:Program} {f:FuncId} {args:Array Value} {w:World} {R:Ending→World→Prop} (h:CallsIn (FR rd) n P f args w R):Calls P f args w R:=(callsIn_wide (n:=n)).1 h
def markD (D:Nat):Deferred:={ target:=.collected D,args:=#[] }
structure DB where
 lo:Nat
 ds:List Deferred:=[]
def DfOk (B:DB) (σ:Sg) (ds:List Deferred):Prop:=∃l:List Nat,ds=l.map markD++B.ds∧l.Nodup∧∀D∈l,B.lo≤D∧σ.RM D=some (.deferred (some []))
theorem DfOk.nil {B:DB} {σ:Sg}:DfOk B σ B.ds:=⟨[],rfl,.nil,fun d h=>by cases h⟩
theorem DfOk.mono {B:DB} {σ τ:Sg} {ds:List Deferred} (h:DfOk B σ ds) (l:Sg.Le σ τ):DfOk B τ ds:=
 let ⟨x,a,b,c⟩:=h;⟨x,a,b,fun D hd=>⟨(c D hd).1,l.RM _ _ (c D hd).2⟩⟩
def YlOk (y:Yl) (σ:Sg):Prop:=σ.RM y.l=some (.loop y.rc)∧y.rc.state= .ready∧y.rc.pending=none∧VRels σ y.fr y.rc.tmps.toList
def YOk (C:Ctx) (σ:Sg):Prop:=∀y,C.yl=some y→YlOk y σ
theorem YlOk.mono {y:Yl} {σ τ:Sg} (h:YlOk y σ) (l:Sg.Le σ τ):YlOk y τ:=⟨l.RM _ _ h.1,h.2.1,h.2.2.1,h.2.2.2.mono l⟩
theorem YOk.mono {C:Ctx} {σ τ:Sg} (h:YOk C σ) (l:Sg.Le σ τ):YOk C τ:=fun y e=>(h y e).mono l
theorem YOk.none {C:Ctx} {σ:Sg} (h:C.yl=Option.none):YOk C σ:=fun y e=>by rw [h] at e;cases e
structure WK (C:Ctx) (c:Code) (fr:List AV) (h:Heap) (K:AE→List AV→Heap→Prop):Prop where
 use:∀(rd:Option Nat) (B:DB) (σ:Sg) (w:World) (a:Act) (Q:Exit→Act→World→Prop),(C.inR=false→rd=none)→YOk C σ→B.lo≤w.heap.size→Sim σ h w→VRels σ fr a.tmps.toList→DfOk B σ a.defers→
  (∀e fr' h' σ' a' w',K e fr' h'→Mv σ h w σ' h' w'→VRels σ' fr' a'.tmps.toList→DfOk B σ' a'.defers→Q e.toExit a' w')→c.wpIn (FR rd) 0 C.P Q a w
theorem WK.mono {C:Ctx} {c:Code} {fr:List AV} {h:Heap} {K K':AE→List AV→Heap→Prop} (x:WK C c fr h K) (hk:∀e fr h,K e fr h→K' e fr h):WK C c fr h K':=
 ⟨fun rd B σ w a Q h1 h2 h3 h4 h5 h6 hQ=>x.use rd B σ w a Q h1 h2 h3 h4 h5 h6 fun e fr' h' σ' a' w' k=>hQ e fr' h' σ' a' w' (hk _ _ _ k)⟩
def bindP:List Tmp→List AV→List AV→List AV
 |p::ps,v::vs,fr=>bindP ps vs (fr.set p v)
 |_,_,fr=>fr
theorem bindP_rel {σ:Sg}:∀(ps:List Tmp) (as:List AV) (vs:List Value) (fr:List AV) (tmps:Array Value),VRels σ as vs→VRels σ fr tmps.toList→
  VRels σ (bindP ps as fr) ((ps.zip vs).foldl (fun tmps (p:Tmp×Value)=>tmps.setIfInBounds p.1 p.2) tmps).toList:=by
 intro ps
 induction ps with
 |nil=>intro as vs fr tmps _ h;cases as<;>cases vs<;>exact h
 |cons p ps ih=>
  intro as vs fr tmps ha h
  match as,vs,ha with
  | [],[],_=>exact h
  | [],_::_,ha=>exact absurd ha.1 (by simp)
  |_::_,[],ha=>exact absurd ha.1 (by simp)
  |a::as,v::vs,ha=>
   have ht:VRels σ as vs:=⟨by have:=ha.1;simpa using this,fun i b u x y=>ha.2 (i+1) b u (by simpa using x) (by simpa using y)⟩;refine ih as vs _ _ ht ⟨by simpa using h.1,fun i c u x y=>?_⟩;simp only [Array.toList_setIfInBounds] at x y;by_cases hi:i=p
   ·subst hi;rw [List.getElem?_set_self'] at x y;cases hx:fr[i]? with
    |none=>simp [hx] at x
    |some _=>
     cases hy:tmps.toList[i]? with
     |none=>simp only [hy] at y;cases y
     |some _=>
      simp [hx] at x;simp only [hy] at y;cases y;subst x;exact ha.2 0 _ _ rfl rfl
   ·rw [List.getElem?_set_ne (Ne.symm hi)] at x y;exact h.2 i c u x y
def RoundK (C:Ctx) (assign body:Code) (fr:List AV) (h:Heap) (K:Heap→Prop):Prop:=
 WK C.round assign fr h fun e fr h=>match e with
  | .normal=>WK C.round body fr h fun e _ h=>match e with
   | .normal=>K h
   | .exit _=>False
   | .ret=>False
   | .pan _ _=>False
  | .exit _=>False
  | .ret=>False
  | .pan _ _=>False
theorem RoundK.mono {C:Ctx} {assign body:Code} {fr:List AV} {h:Heap} {K K':Heap→Prop} (hk:∀h,K h→K' h) (x:RoundK C assign body fr h K):RoundK C assign body fr h K':=by
 refine WK.mono x fun e fr h y=>?_;cases e with
 |normal=>exact WK.mono y fun e fr h z=>by cases e<;>first|exact hk _ z|exact z
 |_=>exact y
def yieldK (C:Ctx) (ev:Operand→AV) (c:Call) (h:Heap) (K:AV→Heap→Prop):Prop:=
 match c.callee with
 | .value fo=>match ev fo with
  | .fn (.yield l) [] []=>match C.yl with
   |some y=>l=y.l∧c.args.size=y.rc.params.size∧RoundK C y.rc.assign y.rc.body (bindP y.rc.params.toList (c.args.toList.map ev) y.fr) h (fun h=>K (.bool true) h)
   |none=>False
  |_=>False
 |_=>False
theorem yieldK_mono {C:Ctx} {ev:Operand→AV} {c:Call} {h0:Heap} {K K':AV→Heap→Prop} (hk:∀v h,K v h→K' v h) (h:yieldK C ev c h0 K):yieldK C ev c h0 K':=by
 unfold yieldK at h ⊢
 split at h
 ·split at h
  ·split at h
   ·exact ⟨h.1,h.2.1,h.2.2.mono fun _=>hk _ _⟩
   ·exact h
  ·exact h
 ·exact h
theorem round_sound {C:Ctx} {y:Yl} {σ:Sg} {h:Heap} {w:World} {rd:Option Nat} (hy:YlOk y σ) (s:Sim σ h w) {as:List AV} {vs:Array Value} (hv:VRels σ as vs.toList) {K:Heap→Prop}
  (hk:RoundK C y.rc.assign y.rc.body (bindP y.rc.params.toList as y.fr) h K) {R:Ending→World→Prop}
  (hR:∀h' σ' w',K h'→Mv σ h w σ' h' w'→R (.returned (.bool true)) w'):
  RoundIn (FR rd) (0-1) C.P y.l y.rc.fn ((y.rc.params.zip vs).foldl (fun tmps (t,a)=>tmps.setIfInBounds t a) y.rc.tmps) y.rc.assign y.rc.body w R:=by
 obtain ⟨l,rc,fr⟩:=y;obtain ⟨y1,y2,y3,y4⟩:=hy;simp only at y1 y2 y3 y4 hk ⊢;refine roundIn_of_wpIn trivial ?_;obtain ⟨hl,_⟩:=s.rm _ _ y1;have hlt:l<w.heap.size:=(Array.getElem?_eq_some_iff.1 hl).1
 let Rb:Nat→Option Obj:=fun b=>if b=l then none else σ.RM b
 have sb:Sim (σ.withRM Rb) h w:=s.withRM Rb (fun _ _=>rfl) (fun _ _=>rfl) fun b o x=>by
  have x:(if b=l then none else σ.RM b)=some o:=x
  split at x
  ·cases x
  ·exact s.rm b o x
 have hlow:(σ.withRM Rb).RM l=none:=by show (if l=l then none else σ.RM l)=none;simp
 have hfr:VRels (σ.withRM Rb) (bindP rc.params.toList as fr) ((rc.params.zip vs).foldl (fun tmps (t,a)=>tmps.setIfInBounds t a) rc.tmps).toList:=by
  have:=bindP_rel rc.params.toList as vs.toList fr rc.tmps hv y4;have e:((rc.params.zip vs).foldl (fun tmps (t,a)=>tmps.setIfInBounds t a) rc.tmps)=((rc.params.toList.zip vs.toList).foldl (fun tmps (p:Tmp×Value)=>tmps.setIfInBounds p.1 p.2) rc.tmps):=by
   rw [←Array.foldl_toList,Array.toList_zip]
  rw [e];exact this.mono0 (σ.withRM_le0 Rb)
 refine hk.use (some l) ⟨w.heap.size,[]⟩ (σ.withRM Rb) w _ _ (fun e=>by cases e) (YOk.none rfl) (Nat.le_refl _) sb hfr .nil fun e fr1 h1 σ1 a1 w1 k1 m1 v1 d1=>?_;cases e with
 |exit id=>exact k1.elim
 |ret=>exact k1.elim
 |pan t v=>exact k1.elim
 |normal=>
 have hl1:w1.heap[l]? =some (.loop rc):=by
  rw [m1.block l hlt (fun x=>by have:=Live.noRM s (live_withRM.1 x);rw [y1] at this;cases this)];exact hl
 have hs1:=m1.size;have nl1:¬Live σ1 h1 l:=Live.notRec m1.sim hl1 rfl;refine ⟨_,run_beginRound hl1 y2,?_⟩
 let R1:Nat→Option Obj:=fun b=>if b=l then none else σ1.RM b
 have oth1:∀b,b≠l→(w1.putObj l (.loop { rc with state:=.busy })).heap[b]? =w1.heap[b]?:=fun b hb=>World.putObj_heap_other hb;have s1:Sim (σ1.withRM R1) h1 (w1.putObj l (.loop { rc with state:=.busy })):=m1.sim.withRM R1
  (fun b hb=>oth1 b (by rintro rfl;exact nl1 hb)) (fun b hb=>oth1 b (by rintro rfl;exact hb (m1.sim.notFM hl1 rfl))) fun b o x=>by
   have x:(if b=l then none else σ1.RM b)=some o:=x
   split at x
   ·cases x
   ·rename_i hb;rw [oth1 b hb];exact m1.sim.rm b o x
 refine k1.use (some l) ⟨w.heap.size,[]⟩ (σ1.withRM R1) _ a1 _ (fun e=>by cases e) (YOk.none rfl) (by rw [World.putObj_size];omega) s1 (v1.mono0 (σ1.withRM_le0 R1)) ?_ fun e fr2 h2 σ2 a2 w2 k2 m2 v2 d2=>?_
 ·obtain ⟨ls,e1,e2,e3⟩:=d1;refine ⟨ls,e1,e2,fun D hD=>⟨(e3 D hD).1,?_⟩⟩;have:w.heap.size≤D:=(e3 D hD).1;show (if D=l then none else σ1.RM D)=_;rw [if_neg (by omega)];exact (e3 D hD).2
 cases e with
 |exit id=>exact k2.elim
 |ret=>exact k2.elim
 |pan t v=>exact k2.elim
 |normal=>
 have hlb:(w1.putObj l (.loop { rc with state:=.busy })).heap[l]? =some (.loop { rc with state:=.busy }):=World.putObj_heap_same (by omega);have hsz:(w1.putObj l (.loop { rc with state:=.busy })).heap.size=w1.heap.size:=World.putObj_size;have hl2:w2.heap[l]? =some (.loop { rc with state:=.busy }):=by
  rw [m2.block l (by omega) (fun x=>nl1 (live_withRM.1 x))];exact hlb
 have hs2:=m2.size;have nl2:¬Live σ2 h2 l:=Live.notRec m2.sim hl2 rfl;have hend:=run_endRound (P:=C.P) none hl2;have erc:({ rc with state:=if (none:Option Code).isNone=true then .ready else .done,pending:=none }:Loop)=rc:=by
  obtain ⟨st,pd,_,_,_,_,_,_⟩:=rc;simp only at y2 y3;subst y2;subst y3;rfl
 refine ⟨_,_,hend,?_⟩;have erc':({ ({ rc with state:=.busy }:Loop) with state:=if (none:Option Code).isNone=true then .ready else .done,pending:=none }:Loop)=rc:=erc;rw [erc']
 let R2:Nat→Option Obj:=fun b=>if b=l then some (.loop rc) else σ2.RM b
 have oth2:∀b,b≠l→(w2.putObj l (.loop rc)).heap[b]? =w2.heap[b]?:=fun b hb=>World.putObj_heap_other hb;have s2:Sim (σ2.withRM R2) h2 (w2.putObj l (.loop rc)):=m2.sim.withRM R2
  (fun b hb=>oth2 b (by rintro rfl;exact nl2 hb)) (fun b hb=>oth2 b (by rintro rfl;exact hb (m2.sim.notFM hl2 rfl))) fun b o x=>by
   have x:(if b=l then some (.loop rc) else σ2.RM b)=some o:=x;by_cases hb:b=l
   ·rw [if_pos hb] at x;obtain rfl:=Option.some.inj x;rw [hb];exact ⟨World.putObj_heap_same (by omega),rfl⟩
   ·rw [if_neg hb] at x;rw [oth2 b hb];exact m2.sim.rm b o x
 refine hR h2 (σ2.withRM R2) _ k2 ⟨⟨fun _ _ _ x=>m2.le.ρ _ _ _ (m1.le.ρ _ _ _ x),fun _ _ x=>m2.le.FM _ _ (m1.le.FM _ _ x),fun b o x=>?_⟩,s2,m2.os.trans m1.os,m2.tape.trans m1.tape,m2.output.trans m1.output,by rw [World.putObj_size];omega,fun b hb hnl=>?_,fun b hb=>?_,fun b hb=>?_⟩
 ·show (if b=l then some (.loop rc) else σ2.RM b)=some o
  split
  ·rename_i e;subst e;rw [y1] at x;exact x
  ·rename_i e;have x1:(σ.withRM Rb).RM b=some o:=by show (if b=l then none else σ.RM b)=some o;rw [if_neg e];exact x
   have x2:(σ1.withRM R1).RM b=some o:=by show (if b=l then none else σ1.RM b)=some o;rw [if_neg e];exact m1.le.RM _ _ x1
   exact m2.le.RM _ _ x2
 ·by_cases e:b=l
  ·subst e;rw [World.putObj_heap_same (by omega),hl]
  ·rw [oth2 b e,m2.block b (by omega) (fun x=>?_),oth1 b e,m1.block b hb hnl]
   rcases m1.live b (live_withRM.1 x) with h3|h3
   ·exact hnl (live_withRM.1 h3)
   ·omega
 ·rcases m2.live b (live_withRM.1 hb) with h3|h3
  ·rcases m1.live b (live_withRM.1 h3) with h4|h4
   ·exact .inl (live_withRM.1 h4)
   ·exact .inr h4
  ·exact .inr (by omega)
 ·rcases m2.new b hb with h3|h3|h3
  ·rcases m1.new b h3 with h4|h4|h4
   ·exact .inl h4
   ·exact .inr (.inl (live_withRM.1 h4))
   ·exact .inr (.inr h4)
  ·rcases m1.live b (live_withRM.1 h3) with h4|h4
   ·exact .inr (.inl (live_withRM.1 h4))
   ·exact .inr (.inr h4)
  ·exact .inr (.inr (by omega))
end Go.Ab

namespace Go.Ab
def AV.sh0 (B E:Nat):AV→AV
 | .optr (.d k) ep sz i off=>.optr (.d (B+k)) (ep+E) sz i off
 | .oslc (.d k) ep sz off len lim=>.oslc (.d (B+k)) (ep+E) sz off len lim
 | .mp (.d k) ep=>.mp (.d (B+k)) (ep+E)
 | .optr (.s _) _ _ _ _| .oslc (.s _) _ _ _ _ _| .mp (.s _) _| .agg _| .tup _| .fn _ _ _=>.u
 |a=>a
def AV.sh1 (B E:Nat):AV→AV
 | .fn f a b=>.fn f (a.map (AV.sh0 B E)) (b.map (AV.sh0 B E))
 |a=>a.sh0 B E
def AV.shA (B E:Nat):AV→AV
 | .agg cs=>.agg (cs.map (AV.sh1 B E))
 |a=>a.sh1 B E
def AV.sh (B E:Nat):AV→AV
 | .tup cs=>.tup (cs.map (AV.shA B E))
 |a=>a.shA B E
def AObj.sh (B E:Nat):AObj→AObj
 | .vec ep rows=>.vec (ep+E) (rows.map fun r=>r.map (AV.sh1 B E))
 | .map ep es=>.map (ep+E) (es.map fun p=>(p.1.sh1 B E,p.2.sh1 B E))
 | .hole=>.hole
section
variable {σ1 σ':Sg} {B E:Nat}
theorem VRel.sh0 (hρ:∀k ep pl,σ1.ρ (.d k) ep=some pl→σ'.ρ (.d (B+k)) (ep+E)=some pl) (hF:∀b cs,σ1.FM b=some cs→σ'.FM b=some cs) {a:AV} {v:Value} (h:VRel σ1 a v):VRel σ' (a.sh0 B E) v:=by
 have lp:Sg.Le0 σ1.pure σ'.pure:=⟨fun _ _ _ x=>by simp at x,hF⟩;cases h with
 |int=>exact .int
 |bool=>exact .bool
 |str=>exact .str
 |nilp=>exact .nilp
 |nils=>exact .nils
 |nilm=>exact .nilm
 |nilf=>exact .nilf
 |nili=>exact .nili
 |ifc=>exact .ifc
 | @optr _ id _ _ _ _ _ _ _ _ h=>cases id with
  |s n=>exact .u
  |d k=>exact .optr (hρ _ _ _ h)
 |lptr g hw hc ho hv=>exact .lptr g hw (fun i j c x=>let ⟨cs,a,b⟩:=hc i j c x;⟨cs,hF _ _ a,b⟩) ho (fun i j c x=>(hv i j c x).mono0 lp)
 | @oslc _ id _ _ _ _ _ _ _ _ _ _ h h1 h2 h3 h4 h5=>cases id with
  |s n=>exact .u
  |d k=>exact .oslc (hρ _ _ _ h) h1 h2 h3 h4 h5
 | @onil _ id _ _ _ h=>cases id with
  |s n=>exact .u
  |d k=>exact .onil (hρ _ _ _ h)
 | @onilz _ id _ _ _ _ h=>cases id with
  |s n=>exact .u
  |d k=>exact .onilz (hρ _ _ _ h)
 |lslc g hw hc ho hv h1 h3 h5=>exact .lslc g hw (fun i j c x=>let ⟨cs,a,b⟩:=hc i j c x;⟨cs,hF _ _ a,b⟩) ho (fun i j c x=>(hv i j c x).mono0 lp) h1 h3 h5
 |lnil=>exact .lnil
 | @oz _ id _ _ _ _ _ _ _ _ _ h h1 h2=>cases id with
  |s n=>exact .u
  |d k=>exact .oz (hρ _ _ _ h) h1 h2
 |lz=>exact .lz
 | @mp _ id _ _ _ _ _ _ h=>cases id with
  |s n=>exact .u
  |d k=>exact .mp (hρ _ _ _ h)
 |fn=>exact .u
 |agg=>exact .u
 |tup=>exact .u
 |u=>exact .u
theorem VRel.sh1 (hρ:∀k ep pl,σ1.ρ (.d k) ep=some pl→σ'.ρ (.d (B+k)) (ep+E)=some pl) (hF:∀b cs,σ1.FM b=some cs→σ'.FM b=some cs) {a:AV} {v:Value} (h:VRel σ1 a v):VRel σ' (a.sh1 B E) v:=by
 have hh:=h;cases h with
 |fn l1 l2 v1 v2=>
  refine .fn (by simpa using l1) (by simpa using l2) (fun i c v x y=>?_) (fun i c v x y=>?_)
  ·simp only [List.getElem?_map,Option.map_eq_some_iff] at x;obtain ⟨c',x,rfl⟩:=x;exact (v1 i c' v x y).sh0 hρ hF
  ·simp only [List.getElem?_map,Option.map_eq_some_iff] at x;obtain ⟨c',x,rfl⟩:=x;exact (v2 i c' v x y).sh0 hρ hF
 |_=>exact VRel.sh0 hρ hF hh
theorem VRel.shA (hρ:∀k ep pl,σ1.ρ (.d k) ep=some pl→σ'.ρ (.d (B+k)) (ep+E)=some pl) (hF:∀b cs,σ1.FM b=some cs→σ'.FM b=some cs) {a:AV} {v:Value} (h:VRel σ1 a v):VRel σ' (a.shA B E) v:=by
 have hh:=h;cases h with
 |agg l o w=>
  refine .agg (by simpa using l) o (fun i c v x y=>?_);simp only [List.getElem?_map,Option.map_eq_some_iff] at x;obtain ⟨c',x,rfl⟩:=x;exact (w i c' v x y).sh1 hρ hF
 |fn l1 l2 v1 v2=>exact VRel.sh1 hρ hF (.fn l1 l2 v1 v2)
 |_=>exact VRel.sh1 hρ hF hh
theorem VRel.sh (hρ:∀k ep pl,σ1.ρ (.d k) ep=some pl→σ'.ρ (.d (B+k)) (ep+E)=some pl) (hF:∀b cs,σ1.FM b=some cs→σ'.FM b=some cs) {a:AV} {v:Value} (h:VRel σ1 a v):VRel σ' (a.sh B E) v:=by
 have hh:=h;cases h with
 |tup l w=>
  refine .tup (by simpa using l) (fun i c v x y=>?_);simp only [List.getElem?_map,Option.map_eq_some_iff] at x;obtain ⟨c',x,rfl⟩:=x;exact (w i c' v x y).shA hρ hF
 |fn l1 l2 v1 v2=>exact VRel.shA hρ hF (.fn l1 l2 v1 v2)
 |agg l o w=>exact VRel.shA hρ hF (.agg l o w)
 |_=>exact VRel.shA hρ hF hh
theorem cellAt_map {rows:List (List AV)} {f:AV→AV} {i j:Nat} {c:AV} (h:cellAt (rows.map fun r=>r.map f) i j=some c):∃c',cellAt rows i j=some c'∧c=f c':=by
 unfold cellAt at h ⊢;rw [List.getElem?_map] at h;cases hr:rows[i]? with
 |none=>rw [hr] at h;cases h
 |some r=>
  rw [hr] at h;have h:(r.map f)[j]? =some c:=h;rw [List.getElem?_map] at h;cases hc:r[j]? with
  |none=>rw [hc] at h;cases h
  |some c'=>rw [hc] at h;exact ⟨c',hc,(Option.some.inj h).symm⟩
theorem ObjOk.sh (hρ:∀k ep pl,σ1.ρ (.d k) ep=some pl→σ'.ρ (.d (B+k)) (ep+E)=some pl) (hF:∀b,σ'.FM b=σ1.FM b) {w:World} {k:Nat} {o:AObj} (h:ObjOk σ1 w (.d k) o):ObjOk σ' w (.d (B+k)) (o.sh B E):=by
 have hF':∀b cs,σ1.FM b=some cs→σ'.FM b=some cs:=fun b cs x=>by rw [hF];exact x
 cases o with
 |hole=>trivial
 |vec ep rows=>
  rcases h with ⟨h1,h2⟩|⟨blk,st,sz,n,size,cs,T,h1,h2,h3,h4,h5,h6,h7,h8⟩
  ·exact .inl ⟨by rw [h1];rfl,hρ _ _ _ h2⟩
  ·refine .inr ⟨blk,st,sz,n,size,cs,T,hρ _ _ _ h1,h2,h3,by simpa using h4,h5,by rw [hF];exact h6,fun i row hr=>?_,fun i j c x=>?_⟩
   ·rw [List.getElem?_map,Option.map_eq_some_iff] at hr;obtain ⟨r,hr,rfl⟩:=hr;simpa using h7 i r hr
   ·obtain ⟨c',x',rfl⟩:=cellAt_map x;obtain ⟨v,a,b,d⟩:=h8 i j c' x';exact ⟨v,a,b,d.sh1 hρ hF'⟩
 |map ep es=>
  obtain ⟨blk,st,sz,n,size,ents,clock,h1,h2,h3,h4,h5⟩:=h;refine ⟨blk,st,sz,n,size,ents,clock,hρ _ _ _ h1,h2,by rw [hF];exact h3,by simpa using h4,fun i k v e x y=>?_⟩;rw [List.getElem?_map,Option.map_eq_some_iff] at x;obtain ⟨⟨k',v'⟩,x,e1⟩:=x;cases e1;obtain ⟨a,b⟩:=h5 i k' v' e x y;exact ⟨a.sh1 hρ hF',b.sh1 hρ hF'⟩
theorem blk_sh (hρ:∀k ep,σ'.ρ (.d (B+k)) (ep+E)=σ1.ρ (.d k) ep) {k:Nat} {o:AObj}:(o.sh B E).blk σ' (.d (B+k))=o.blk σ1 (.d k):=by
 cases o with
 |hole=>rfl
 |vec ep rows=>simp [AObj.sh,AObj.blk,hρ]
 |map ep es=>simp [AObj.sh,AObj.blk,hρ]
end
theorem ACalls.fetch {P:Program} {f:FuncId} {args:List AV} {K:AV→Heap→Prop} (hc:ACalls P f args Heap.nil K) (hp:args.all AV.isPure=true) {σ:Sg} {h:Heap} {w:World} (s:Sim σ h w) {vs:Array Value} (hv:VRels σ args vs.toList):
  Calls P f vs w fun e w'=>∃v,e= .returned v∧∃E σ' r h',K r h'∧Mv σ h w σ' ⟨h.st,h.dy++h'.dy.map (AObj.sh h.dy.length E)⟩ w'∧VRel σ' (r.sh h.dy.length E) v:=by
 refine (hc.use σ.pure w vs s.pure (hv.pure hp)).mono ?_;rintro e w' ⟨v,rfl,σ1,h1,r,hk,m,hr⟩;obtain ⟨E,hE⟩:=s.fresh
 let σ':Sg:={ ρ:=fun i e=>match i with
   | .s n=>σ.ρ (.s n) e
   | .d n=>if h.dy.length≤n∧E≤e then σ1.ρ (.d (n-h.dy.length)) (e-E) else σ.ρ (.d n) e,FM:=σ1.FM,RM:=σ.RM }
 have hρ:∀k ep,σ'.ρ (.d (h.dy.length+k)) (ep+E)=σ1.ρ (.d k) ep:=fun k ep=>by
  show (if h.dy.length≤h.dy.length+k∧E≤ep+E then σ1.ρ (.d (h.dy.length+k-h.dy.length)) (ep+E-E) else σ.ρ (.d (h.dy.length+k)) (ep+E))=_;rw [if_pos ⟨by omega,by omega⟩,Nat.add_sub_cancel_left,Nat.add_sub_cancel]
 have hle:Sg.Le σ σ':=by
  refine ⟨fun id ep pl x=>?_,fun b cs x=>m.le.FM b cs x,fun _ _ x=>x⟩;cases id with
  |s n=>exact x
  |d n=>
   show (if h.dy.length≤n∧E≤ep then σ1.ρ (.d (n-h.dy.length)) (ep-E) else σ.ρ (.d n) ep)=some pl;rw [if_neg]
   ·exact x
   ·rintro ⟨_,h2⟩;rw [hE _ _ h2] at x;cases x
 have nl:∀b,¬Live σ.pure Heap.nil b:=fun b ⟨i,o,ho,_⟩=>Heap.nil_some ho;have hblock:∀b,b<w.heap.size→w'.heap[b]? =w.heap[b]?:=fun b hb=>m.block b hb (nl b);have hfm:∀b,Live σ h b→σ1.FM b=none:=fun b hb=>by
  cases hf:σ1.FM b with
  |none=>rfl
  |some cs=>
   rcases m.new b (by rw [hf];simp) with x|x|x
   ·exact absurd (Live.noFM s hb) x
   ·exact absurd x (nl b)
   ·have:=Live.lt s hb;omega
 have hlive1:∀b,Live σ1 h1 b→w.heap.size≤b:=fun b hb=>(m.live b hb).resolve_left (nl b);have obj:∀(i:Id) (o:AObj),(⟨h.st,h.dy++h1.dy.map (AObj.sh h.dy.length E)⟩:Heap)[i]? =some o→
   h[i]? =some o∨∃k o1,i= .d (h.dy.length+k)∧h1[Id.d k]? =some o1∧o=o1.sh h.dy.length E:=by
  intro i o ho;cases i with
  |s n=>exact .inl ho
  |d n=>
   have ho:(h.dy++h1.dy.map (AObj.sh h.dy.length E))[n]? =some o:=ho;by_cases hn:n<h.dy.length
   ·rw [List.getElem?_append_left hn] at ho;exact .inl ho
   ·rw [List.getElem?_append_right (by omega),List.getElem?_map,Option.map_eq_some_iff] at ho;obtain ⟨o1,x,rfl⟩:=ho;exact .inr ⟨n-h.dy.length,o1,by rw [show h.dy.length+(n-h.dy.length)=n by omega],x,rfl⟩
 have blk_old:∀(i:Id) (o:AObj),h[i]? =some o→o.blk σ' i=o.blk σ i:=fun i o ho=>blk_le (s.obj i o ho) hle;have hρ':∀k ep pl,σ1.ρ (.d k) ep=some pl→σ'.ρ (.d (h.dy.length+k)) (ep+E)=some pl:=fun k ep pl x=>by rw [hρ];exact x
 have hvr:VRel σ' (r.sh h.dy.length E) v:=hr.sh hρ' (fun _ _ x=>x);refine ⟨v,rfl,E,σ',r,h1,hk,⟨hle,⟨m.sim.fm,fun i o ho=>?_,fun i j oi oj b hi hj bi bj=>?_,?_,fun b o x=>let ⟨r1,r2⟩:=s.rm b o x;⟨by rw [hblock b (Array.getElem?_eq_some_iff.1 r1).1];exact r1,r2⟩,fun p hp=>hle.FM _ _ (s.gl p hp)⟩,m.os,m.tape,m.output,m.size,fun b hb _=>hblock b hb,fun b hb=>?_,fun b hb=>?_⟩,hvr⟩
 ·rcases obj i o ho with h2|⟨k,o1,rfl,h2,rfl⟩
  ·exact (s.obj i o h2).keep hle fun b hb=>⟨hblock b (Live.lt s ⟨i,o,h2,hb⟩),hfm b ⟨i,o,h2,hb⟩⟩
  ·exact (m.sim.obj _ _ h2).sh hρ' fun _=>rfl
 ·rcases obj i oi hi with h2|⟨k,o1,rfl,h2,rfl⟩<;>rcases obj j oj hj with h3|⟨k',o2,rfl,h3,rfl⟩
  ·rw [blk_old i oi h2] at bi;rw [blk_old j oj h3] at bj;exact s.apart i j oi oj b h2 h3 bi bj
  ·rw [blk_old i oi h2] at bi;rw [blk_sh hρ] at bj;have l1:=Live.lt s ⟨i,oi,h2,bi⟩;have l2:=hlive1 b ⟨_,o2,h3,bj⟩;omega
  ·rw [blk_sh hρ] at bi;rw [blk_old j oj h3] at bj;have l1:=Live.lt s ⟨j,oj,h3,bj⟩;have l2:=hlive1 b ⟨_,o1,h2,bi⟩;omega
  ·rw [blk_sh hρ] at bi bj;have:=m.sim.apart _ _ _ _ b h2 h3 bi bj;cases this;rfl
 ·obtain ⟨E1,hE1⟩:=m.sim.fresh;refine ⟨E+E1,fun id ep hep=>?_⟩;cases id with
  |s n=>exact hE _ _ (by omega)
  |d n=>
   show (if h.dy.length≤n∧E≤ep then σ1.ρ (.d (n-h.dy.length)) (ep-E) else σ.ρ (.d n) ep)=none
   split
   ·exact hE1 _ _ (by omega)
   ·exact hE _ _ (by omega)
 ·obtain ⟨i,o,ho,hbx⟩:=hb
  rcases obj i o ho with h2|⟨k,o1,rfl,h2,rfl⟩
  ·rw [blk_old i o h2] at hbx;exact .inl ⟨i,o,h2,hbx⟩
  ·rw [blk_sh hρ] at hbx;exact .inr (hlive1 b ⟨_,o1,h2,hbx⟩)
 ·rcases m.new b hb with x|x|x
  ·exact .inl x
  ·exact absurd x (nl b)
  ·exact .inr (.inr x)
structure HRet (P:Program) (f:FuncId) (args:List AV) (R:Nat→(Nat→Nat)→AV) (H:Nat→(Nat→Nat)→List AObj):Prop where
 out:ACalls P f args Heap.nil fun r h'=>∃eps,r=R 0 eps∧h'.dy=H 0 eps
 sh:∀B E eps,∃eps',(R 0 eps).sh B E=R B eps'∧(H 0 eps).map (AObj.sh B E)=H B eps'
theorem HRet.use {P:Program} {f:FuncId} {args:List AV} {R:Nat→(Nat→Nat)→AV} {H:Nat→(Nat→Nat)→List AObj} (hc:HRet P f args R H) (hp:args.all AV.isPure=true) {σ:Sg} {h:Heap} {w:World} (s:Sim σ h w) {vs:Array Value} (hv:VRels σ args vs.toList):
  Calls P f vs w fun e w'=>∃v,e= .returned v∧∃eps σ',Mv σ h w σ' ⟨h.st,h.dy++H h.dy.length eps⟩ w'∧VRel σ' (R h.dy.length eps) v:=by
 refine (hc.out.fetch hp s hv).mono ?_;rintro e w' ⟨v,rfl,E,σ',r,h',⟨eps,rfl,e2⟩,m,x⟩;obtain ⟨eps',h1,h2⟩:=hc.sh h.dy.length E eps;rw [e2,h2] at m;rw [h1] at x;exact ⟨v,rfl,eps',σ',m,x⟩
end Go.Ab
