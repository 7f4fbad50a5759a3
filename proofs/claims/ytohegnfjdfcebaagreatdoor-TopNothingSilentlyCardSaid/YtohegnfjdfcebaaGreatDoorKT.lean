/-
  What is proved here serves the law's text: each part says its own claim and its conditions. No condition is left open.
-/
import Derived.Test.YtohegnfjdfcebaaGreatDoorKS
import Derived.Sort.Grow
import Derived.Sort.Row
import Derived.Sort.Statements
import Derived.Lib.LaidTab
import Derived.Lib.ItoaNum
import Derived.Maps.RangeRun
set_option maxHeartbeats 32000000
set_option maxRecDepth 100000
set_option linter.unusedSimpArgs false
set_option linter.unusedVariables false

namespace Go.Ab
theorem PCalls.sub {P:Program} {f:FuncId} {args:List AV} {r:AV} (h:PCalls P f args fun x=>Sub x r) (hp:r.isPure2=true):PRet P f args r:=by
 refine ⟨⟨⟨fun σ w vs s hv=>?_⟩⟩⟩;refine (h.out.use σ w vs s hv).mono ?_;rintro e w' ⟨v,rfl,σ1,h1,r1,k,m,x⟩;obtain ⟨σ2,h2,r2,m2,x2,_,k2⟩:=frzK_sound m.sim x k;exact ⟨v,rfl,σ2,h2,r,frzK_pure hp ⟨hp,rfl⟩,m.trans m2,k2.use σ2 v x2⟩
theorem psub_of {C:Ctx} (ok:COk C) (hm:C.P.follows .mixedOrders=true) {A:Ann} {f:FuncId} {fn:Func} {c:Code} (n:Nat) (hf:C.P.funcs[f]? =some fn) (hb:fn.body=some c) {args:List AV} {r:AV} (hp:r.isPure2=true)
  (hk:forceR (frame0 args fn.ntmps) fun fr=>forceHR (heap0 Heap.nil n) fun h=>aexR C A c fr h fun e fr h'=>match e with
   | .normal=>resR C.ti fn.results.toList fr h' fun vs=>retV vs fun v=>frzK h' v fun r' _=>r'.isPure2=true∧Sub r' r
   | .ret=>resR C.ti fn.results.toList fr h' fun vs=>retV vs fun v=>frzK h' v fun r' _=>r'.isPure2=true∧Sub r' r
   | .pan _ _=>False
   | .exit _=>False) (hy:C.yl=none:=by rfl):PRet C.P f args r:=PCalls.sub ⟨fn_of ok hm n hf hb hk hy⟩ hp
theorem trunc_ex {h:Heap} {n:Nat} {l dy:List AObj} (e:h.trunc n=⟨l,dy⟩):∃r,h=⟨l++r,dy⟩:=by
 obtain ⟨st,d⟩:=h;unfold Heap.trunc at e;simp only [Heap.mk.injEq] at e;exact ⟨st.drop n,by rw [←e.1,e.2,List.take_append_drop]⟩
theorem callT {P:Program} {f:FuncId} {args:List AV} {h:Heap} {v:AV} {n:Nat} {l dy:List AObj} {K:AV→Heap→Prop} (hc:ACalls P f args h fun r h'=>r=v∧h'.trunc n=⟨l,dy⟩)
  (hK:∀rest,K v ⟨l++rest,dy⟩):ACalls P f args h K:=hc.mono fun r h' e=>by
 obtain ⟨e1,e2⟩:=e;obtain ⟨rest,e3⟩:=trunc_ex e2;rw [e1,e3];exact hK rest
end Go.Ab
namespace Go.Ab
theorem ACalls.fz {P:Program} {f:FuncId} {args:List AV} {h:Heap} {K:AV→Heap→Prop} (n:Nat) (hk:fzSK n args h fun args' h'=>ACalls P f args' h' K):ACalls P f args h K:=
 ⟨fun σ w vs s hv=>by
  obtain ⟨σ',fr',h',k,m,v⟩:=fzSK_sound hv s hk;refine (k.use σ' w vs m.sim v).mono ?_;rintro e w' ⟨x,rfl,σ2,h2,r,hk,m2,vr⟩;exact ⟨x,rfl,σ2,h2,r,hk,m.trans m2,vr⟩⟩
theorem PRet.calls {P:Program} {f:FuncId} {args:List AV} {r:AV} {h:Heap} {K:AV→Heap→Prop} (hc:PRet P f args r) (hk:K r h):ACalls P f args h K:=
 ⟨fun σ w vs s hv=>by
  refine (hc.out.use s hv).mono ?_;rintro e w' ⟨x,rfl,σ2,h2,rfl,m2,vr⟩;exact ⟨x,rfl,σ2,h,_,hk,m2,vr⟩⟩
end Go.Ab
namespace Go.Ab
def noS:AV→Bool
 | .oslc (.s _) _ _ _ _ _=>false
 |_=>true
theorem eqsP_no {n ep:Nat}:∀{l:List AV},(∀a∈l,noS a=true)→eqsP n ep l
 | [],_=>trivial
 |a::l,h=>by
  have h1:=h a (List.mem_cons_self ..);have h2:=eqsP_no (n:=n) (ep:=ep) fun b hb=>h b (List.mem_cons_of_mem _ hb);unfold eqsP
  split
  ·simp [noS] at h1
  ·exact h2
theorem eqsP_rows {α:Type} {n ep:Nat} {f:α→List AV} (l:List α) (h:∀x,(f x).all noS=true):eqsP n ep ((l.map f).flatten):=
 eqsP_no fun a ha=>by
  obtain ⟨r,hr,ha⟩:=List.mem_flatten.1 ha;obtain ⟨x,_,rfl⟩:=List.mem_map.1 hr;exact List.all_eq_true.1 (h x) a ha
theorem fcS_no {n:Nat} {rows:List (List AV)} {a:AV} (h:noS a=true):fcS n rows a=a:=by
 unfold fcS
 split
 ·simp [noS] at h
 ·rfl
theorem pure_map {α:Type} {f:α→List AV} (l:List α) (h:∀x,(f x).all AV.pure1=true):pureRows (l.map f):=by
 intro row hr c hc;obtain ⟨x,_,rfl⟩:=List.mem_map.mp hr;exact List.all_eq_true.mp (h x) c hc
end Go.Ab
namespace Go.Ab
theorem Sub.part {sz off len:Nat} {rows:List (List AV)} (hl:off+len≤rows.length):Sub (.lslc sz rows off len false) (.lslc sz ((rows.drop off).take len) 0 len false):=⟨fun σ v h=>by
 have row:∀(i:Nat) (r:List AV),((rows.drop off).take len)[i]? =some r→rows[off+i]? =some r:=fun i r x=>by
  rw [List.getElem?_take] at x
  split at x
  ·rwa [List.getElem?_drop] at x
  ·cases x
 have cell:∀(i j:Nat) (c:AV),cellAt ((rows.drop off).take len) i j=some c→cellAt rows (off+i) j=some c:=fun i j c x=>by
  obtain ⟨r,hr,hj⟩:=cellAt_get x;unfold cellAt;rw [row i r hr];exact hj
 cases h with
 |lslc g hw hc ho hv h1 h3 h5=>
  rename_i blk st cap;have:=VRel.lslc (σ:=σ) (sz:=sz) (rows:=(rows.drop off).take len) (off:=0) (len:=len) (lim:=false) (blk:=blk) (st:=st+off * sz) (cap:=cap) (fun i j=>g (off+i) j)
   (fun i r x=>hw _ r (row i r x))
   (fun i j c x=>by
    obtain ⟨cs,a,b⟩:=hc _ j c (cell i j c x);refine ⟨cs,a,?_⟩;rw [←b]
    congr 1
    rw [Nat.add_mul];omega)
   (fun i j c x=>ho _ j c (cell i j c x)) (fun i j c x=>hv _ j c (cell i j c x)) (by simp;omega) (fun x=>by cases x) h5
  simpa using this
 |lnil=>exact .lnil
 |lz=>exact .lz⟩
end Go.Ab

namespace Go.Ab
theorem optO {o:Option AObj} {ep:Nat} {rows:List (List AV)} {P:Nat→List (List AV)→Prop} (h:o=some (.vec ep rows)) (hk:P ep rows):(match (generalizing:=false) o with|some (.vec ep' rows)=>P ep' rows|_=>False):=by
 subst h;exact hk
end Go.Ab

namespace Go.Ab
open Go.Sort
theorem Sim.grown {σ:Sg} {h:Heap} {w w':World} (s:Sim σ h w) {os:Array Obj} (hw:w'.heap=w.heap++os) (ho:SameOut w w'):Mv σ h w σ h w':=by
 have hb:∀b,b<w.heap.size→w'.heap[b]? =w.heap[b]?:=fun b hb=>by rw [hw,Array.getElem?_append_left hb]
 have lt:∀(b:Nat) (o:Obj),w.heap[b]? =some o→w'.heap[b]? =some o:=fun b o x=>by rw [hb b (Array.getElem?_eq_some_iff.1 x).1];exact x
 refine ⟨.refl _,⟨fun b cs x=>?_,fun i o x=>?_,s.apart,s.fresh,fun b o x=>⟨lt b o (s.rm b o x).1,(s.rm b o x).2⟩,s.gl⟩,ho.os,ho.tape,ho.output,by rw [hw];simp,fun b hlt _=>hb b hlt,fun b x=>.inl x,fun b x=>.inl x⟩
 ·obtain ⟨T,fz,x⟩:=s.fm b cs x;exact ⟨T,fz,lt b _ x⟩
 ·refine (s.obj i o x).keep (.refl _) fun b hx=>⟨hb b (Live.lt s ⟨i,o,x,hx⟩),Live.noFM s ⟨i,o,x,hx⟩⟩
theorem Sim.rewrite {σ:Sg} {h:Heap} {w w':World} (s:Sim σ h w) {id:Id} {ep:Nat} {rows rows':List (List AV)} (ho:h[id]? =some (.vec ep rows)) {blk st sz n size:Nat} (hρ:σ.ρ id ep=some (.at blk st sz n size))
  {cs cs':Array Value} {T:TypeId} (hb:w.heap[blk]? =some (.cells cs T (0,0))) {os:Array Obj} (hw:w'.heap=(w.heap.setIfInBounds blk (.cells cs' T (0,0)))++os) (so:SameOut w w') (hcs:cs'.size=cs.size)
  (hlen:rows'.length=rows.length) (hwid:∀(i:Nat) (row:List AV),rows'[i]? =some row→row.length=sz)
  (hcell:∀(i j:Nat) (c:AV),cellAt rows' i j=some c→∃v,cs'[st+i * sz+j]? =some v∧v.oneCell'=true∧VRel σ c v):Mv σ h w σ (h.set id (.vec ep rows')) w':=by
 have hlt:blk<w.heap.size:=(Array.getElem?_eq_some_iff.1 hb).1
 let w1:World:={ w with heap:=w.heap.setIfInBounds blk (.cells cs' T (0,0)) }
 have hw1:w1.heap[blk]? =some (.cells cs' T (0,0)):=by
  show (w.heap.setIfInBounds blk _)[blk]? =_;rw [Array.getElem?_setIfInBounds_self];simp [hlt]
 have m1:Mv σ h w σ (h.set id (.vec ep rows')) w1:=by
  rcases s.obj _ _ ho with ⟨_,x⟩|⟨blk2,st2,sz2,n2,size2,cs2,T2,h1,h2,h3,h4,h5,h6,h7,h8⟩
  ·rw [hρ] at x;cases x
  ·rw [hρ] at h1;cases h1;rw [hb] at h2;cases h2;refine s.write (blk:=blk) ho (by simp [AObj.blk,hρ]) (by simp [AObj.blk,hρ]) (fun b hne=>?_) ?_ ⟨rfl,rfl,rfl⟩ (.inr ⟨blk,st,sz,n,size,cs',T,hρ,hw1,by rw [hcs];exact h3,by rw [hlen];exact h4,h5,h6,hwid,hcell⟩)
   ·show (w.heap.setIfInBounds blk _)[b]? =_;rw [Array.getElem?_setIfInBounds_ne (Ne.symm hne)]
   ·show (w.heap.setIfInBounds blk _).size=_;simp
 exact m1.trans (m1.sim.grown (w':=w') (os:=os) (by rw [hw]) ⟨so.os,so.tape,so.output⟩)
def srt (zs:List Int):List Int:=zs.mergeSort fun x y=>decide (x≤y)
end Go.Ab

namespace Go.Ab
open Go.RowKit
theorem Sim.below {σ:Sg} {h:Heap} {w w':World} (s:Sim σ h w) (hb:Below w.heap.size w w'):Mv σ h w σ h w':=by
 have lt:∀(b:Nat) (o:Obj),w.heap[b]? =some o→w'.heap[b]? =some o:=fun b o x=>by rw [hb.block b (Array.getElem?_eq_some_iff.1 x).1];exact x
 refine ⟨.refl _,⟨fun b cs x=>?_,fun i o x=>?_,s.apart,s.fresh,fun b o x=>⟨lt b o (s.rm b o x).1,(s.rm b o x).2⟩,s.gl⟩,hb.os,hb.tape,hb.output,hb.size,fun b hlt _=>hb.block b hlt,fun b x=>.inl x,fun b x=>.inl x⟩
 ·obtain ⟨T,fz,x⟩:=s.fm b cs x;exact ⟨T,fz,lt b _ x⟩
 ·refine (s.obj i o x).keep (.refl _) fun b hx=>⟨hb.block b (Live.lt s ⟨i,o,x,hx⟩),Live.noFM s ⟨i,o,x,hx⟩⟩
theorem pret_lib {P:Program} {f:FuncId} {args:List AV} {r:AV} (hp:r.isPure2=true)
  (hc:∀(σ:Sg) (w:World) (vs:Array Value),Sim σ Heap.nil w→VRels σ args vs.toList→Calls P f vs w fun e w'=>∃v,e= .returned v∧Below w.heap.size w w'∧VRel σ r v):PRet P f args r:=
 ⟨⟨⟨fun σ w vs s hv=>by
  refine (hc σ w vs s hv).mono ?_;rintro e w' ⟨v,rfl,hb,hr⟩;exact ⟨v,rfl,σ,Heap.nil,r,frzK_pure hp ⟨hp,rfl⟩,s.below hb,hr⟩⟩⟩⟩
theorem pret_list {P:Program} {f:FuncId} {args:List AV} {l:List Value} {as:List AV} (hl:l.length=as.length) (hp:(AV.lslc 1 (as.map fun a=>[a]) 0 as.length false).isPure2=true)
  (hone:∀v∈l,v.oneCell'=true) (hrel:∀(σ:Sg) (i:Nat) (a:AV) (v:Value),as[i]? =some a→l[i]? =some v→VRel σ a v)
  (hc:∀(σ:Sg) (w:World) (vs:Array Value),Sim σ Heap.nil w→VRels σ args vs.toList→
   Calls P f vs w fun e w'=>∃T,e= .returned (.slice (some ⟨w.heap.size,0,none⟩) l.length l.length)∧w'=w.alloc (.cells l.toArray T)):PRet P f args (.lslc 1 (as.map fun a=>[a]) 0 as.length false):=
 ⟨⟨⟨fun σ w vs s hv=>by
  refine (hc σ w vs s hv).mono ?_;rintro e w' ⟨T,rfl,rfl⟩;have hn:σ.FM w.heap.size=none:=by
   cases e:σ.FM w.heap.size with
   |none=>rfl
   |some cs=>
    obtain ⟨T,fz,x⟩:=s.fm _ _ e;have:=(Array.getElem?_eq_some_iff.1 x).1;omega
  let σ':Sg:={ ρ:=σ.ρ,FM:=fun b=>if b=w.heap.size then some l.toArray else σ.FM b,RM:=σ.RM }
  have hle:Sg.Le σ σ':=⟨fun _ _ _ x=>x,fun b cs x=>by
   show (if b=w.heap.size then some l.toArray else σ.FM b)=some cs;by_cases e:b=w.heap.size
   ·rw [e,hn] at x;cases x
   ·rw [if_neg e];exact x,fun _ _ x=>x⟩
  have old:∀(b:Nat),b<w.heap.size→(w.alloc (.cells l.toArray T)).heap[b]? =w.heap[b]?:=fun b hb=>by
   show (w.heap.push _)[b]? =_;rw [Array.getElem?_push_lt hb];simp [hb]
  have new:(w.alloc (.cells l.toArray T)).heap[w.heap.size]? =some (.cells l.toArray T):=by
   show (w.heap.push _)[w.heap.size]? =_;simp
  refine ⟨_,rfl,σ',Heap.nil,.lslc 1 (as.map fun a=>[a]) 0 as.length false,frzK_pure hp ⟨hp,rfl⟩,⟨hle,⟨fun b cs x=>?_,fun i o ho=>(Heap.nil_some ho).elim,fun i j oi oj b hi=>(Heap.nil_some hi).elim,s.fresh,fun b o x=>?_,fun p hp=>hle.FM _ _ (s.gl p hp)⟩,rfl,rfl,rfl,?_,fun b hb _=>old b hb,?_,fun b x=>?_⟩,?_⟩
  ·have x:(if b=w.heap.size then some l.toArray else σ.FM b)=some cs:=x;by_cases e:b=w.heap.size
   ·rw [if_pos e] at x;cases x;rw [e];exact ⟨T,_,new⟩
   ·rw [if_neg e] at x;obtain ⟨T,fz,y⟩:=s.fm b cs x;exact ⟨T,fz,by rw [old b (Array.getElem?_eq_some_iff.1 y).1];exact y⟩
  ·obtain ⟨r1,r2⟩:=s.rm b o x;exact ⟨by rw [old b (Array.getElem?_eq_some_iff.1 r1).1];exact r1,r2⟩
  ·show _≤(w.heap.push _).size;simp
  ·rintro b ⟨i,o,ho,_⟩;exact (Heap.nil_some ho).elim
  ·have x:(if b=w.heap.size then some l.toArray else σ.FM b)≠none:=x;by_cases e:b=w.heap.size
   ·exact .inr (.inr (by omega))
   ·rw [if_neg e] at x;exact .inl x
  ·have cell:∀(i j:Nat) (c:AV),cellAt (as.map fun a=>[a]) i j=some c→j=0∧as[i]? =some c:=by
    intro i j c x;unfold cellAt at x;rw [List.getElem?_map] at x;cases ha:as[i]? with
    |none=>rw [ha] at x;simp at x
    |some a=>
     rw [ha] at x;cases j with
     |zero=>simp at x;subst x;exact ⟨rfl,rfl⟩
     |succ n=>simp at x
   have hv:∀(i:Nat) (c:AV),as[i]? =some c→∃v,l[i]? =some v:=fun i c x=>by
    have:=(List.getElem?_eq_some_iff.1 x).1;exact ⟨l[i],List.getElem?_eq_getElem (by omega)⟩
   have k:=VRel.lslc (σ:=σ') (sz:=1) (rows:=as.map fun a=>[a]) (off:=0) (len:=as.length) (lim:=false) (blk:=w.heap.size) (st:=0) (cap:=l.length) (fun i _=>(l[i]?).getD .nilFunc) (fun i row x=>by
     rw [List.getElem?_map,Option.map_eq_some_iff] at x;obtain ⟨a,_,rfl⟩:=x;rfl) (fun i j c x=>by
     obtain ⟨rfl,h1⟩:=cell i j c x;obtain ⟨v,h2⟩:=hv i c h1;exact ⟨l.toArray,by show (if w.heap.size=w.heap.size then _ else _)=_;rw [if_pos rfl],by simp [h2]⟩) (fun i j c x=>by
     obtain ⟨rfl,h1⟩:=cell i j c x;obtain ⟨v,h2⟩:=hv i c h1;rw [h2];exact hone v (List.mem_of_getElem? h2)) (fun i j c x=>by
     obtain ⟨rfl,h1⟩:=cell i j c x;obtain ⟨v,h2⟩:=hv i c h1;rw [h2];exact hrel _ i c v h1 h2) (by simp) (by simp) (by omega)
   rw [hl] at k ⊢;simpa using k⟩⟩⟩
theorem Sim.glob {σ:Sg} {h:Heap} {w:World} (s:Sim σ h w) {b:Nat} {cs:Array Value} (hg:(b,cs)∈GL):∃T fz,w.heap[b]? =some (.cells cs T fz):=s.fm b cs (s.gl (b,cs) hg)
def dgs (n:Nat):List UInt8:=if n<10 then [UInt8.ofNat (48+n)] else if n<100 then [UInt8.ofNat (48+n / 10),UInt8.ofNat (48+n % 10)] else [UInt8.ofNat (48+n / 100),UInt8.ofNat (48+n / 10 % 10),UInt8.ofNat (48+n % 10)]
def itoa3 (n:Int):List UInt8:=if n<0 then 45::dgs n.natAbs else dgs n.toNat
theorem dgs_eq {n:Nat} (h:n<1000):Lib.decDigits n=dgs n:=by
 unfold dgs;rw [Lib.decDigits]
 split
 ·rfl
 ·rw [Lib.decDigits]
  split
  ·rename_i h1 h2;rw [if_pos (by omega)];rfl
  ·rename_i h1 h2;rw [if_neg (by omega),Lib.decDigits,dif_pos (by omega)];have:n / 10 / 10=n / 100:=by omega
   rw [this];rfl
theorem itoa_eq {n:Int} (h0: -1000<n) (h1:n<1000):Lib.itoa n=itoa3 n:=by
 unfold Lib.itoa itoa3
 split
 ·rw [dgs_eq (by omega)]
 ·rw [dgs_eq (by omega)]
end Go.Ab

namespace Go.Ab
theorem leavesMP {C:Ctx} {fn:Func} {tmps:Array Value} {R:Ending→World→Prop} {σ:Sg} {h:Heap} {w:World} {h':Heap} {ch:List PanicEntry} (hlow:∀b o,σ.RM b=some o→w.heap.size≤b→False)
  (hR:∀σ' w',Mv σ h w σ' h' w'→R (.panicked ch) w'):∀(l:List Nat) (σ':Sg) (w':World),l.Nodup→(∀D∈l,w.heap.size≤D∧σ'.RM D=some (.deferred (some [])))→
  Mv σ h w σ' h' w'→LeavesInM (FR none) 0 C.P fn tmps R (l.map markD) (.panicking ch) w':=by
 intro l
 induction l with
 |nil=>intro σ' w' _ _ m;exact hR σ' w' m
 |cons D l ih=>
  intro σ' w' hn hd m;obtain ⟨d1,d2⟩:=hd D (by simp);obtain ⟨r1,r2⟩:=m.sim.rm D _ d2;have hDl:=(Array.getElem?_eq_some_iff.1 r1).1;have nl:¬Live σ' h' D:=Live.notRec m.sim r1 rfl;refine ⟨by simp,.inl ⟨D,_,rfl,run_takeDeferred r1,?_⟩⟩
  let R1:Nat→Option Obj:=fun b=>if b=D then none else σ'.RM b
  have oth:∀b,b≠D→(w'.putObj D (.deferred none)).heap[b]? =w'.heap[b]?:=fun b hb=>World.putObj_heap_other hb;have s1:Sim (σ'.withRM R1) h' (w'.putObj D (.deferred none)):=m.sim.withRM R1
   (fun b hb=>oth b (by rintro rfl;exact nl hb)) (fun b hb=>oth b (by rintro rfl;exact hb (m.sim.notFM r1 rfl))) fun b o x=>by
    have x:(if b=D then none else σ'.RM b)=some o:=x
    split at x
    ·cases x
    ·rename_i hb;rw [oth b hb];exact m.sim.rm b o x
  have hnl:=List.nodup_cons.1 hn;refine ih (σ'.withRM R1) _ hnl.2 (fun D' h1=>⟨(hd D' (by simp [h1])).1,?_⟩) ⟨⟨m.le.ρ,m.le.FM,fun b o x=>?_⟩,s1,m.os,m.tape,m.output,by rw [World.putObj_size];exact m.size,fun b hb hnl=>?_,m.live,m.new⟩
  ·show (if D'=D then none else σ'.RM D')=_;rw [if_neg (by rintro rfl;exact hnl.1 h1)];exact (hd D' (by simp [h1])).2
  ·show (if b=D then none else σ'.RM b)=some o;rw [if_neg]
   ·exact m.le.RM _ _ x
   ·rintro rfl;exact hlow b o x d1
  ·rw [oth b (by omega)];exact m.block b hb hnl
theorem fnPW_of {C:Ctx} (ok:COk C) {f:FuncId} {fn:Func} {c:Code} (n:Nat) (hf:C.P.funcs[f]? =some fn) (hb:fn.body=some c) {args:List AV} {h:Heap} {K:AV→Heap→Prop} {KP:Nat→Value→Heap→Prop}
  (hk:WK C c (frame0 args fn.ntmps) (heap0 h n) fun e fr h'=>match e with
   | .normal=>resR C.ti fn.results.toList fr h' fun vs=>retV vs fun v=>K v h'
   | .ret=>resR C.ti fn.results.toList fr h' fun vs=>retV vs fun v=>K v h'
   | .pan t v=>KP t v h'
   | .exit _=>False) (hy:C.yl=none:=by rfl):ACallsP C.P f args h K KP:=by
 refine ⟨fun σ w vs s hv=>?_⟩;have hy:YOk C σ:=YOk.none hy;refine callsFR' (rd:=none) (n:=0) (callsIn_of_wp_marks hf hb trivial ?_);have m0:=s.grow n;have hl:args.length=vs.size:=by have:=hv.1;simpa using this
 have hfr:VRels σ (frame0 args fn.ntmps) (vs++Array.replicate (fn.ntmps-vs.size) undef).toList:=by
  simp only [frame0,Array.toList_append,Array.toList_replicate];refine VRels.append hv ⟨by simp [hl],fun i a v x y=>?_⟩;rw [List.getElem?_replicate] at x
  split at x
  ·cases x;exact .u
  ·cases x
 have low:∀b o,σ.RM b=some o→w.heap.size≤b→False:=fun b o x hb=>by have:=(Array.getElem?_eq_some_iff.1 (s.rm b o x).1).1;omega
 refine hk.use none ⟨w.heap.size,[]⟩ σ w { tmps:=vs++Array.replicate (fn.ntmps-vs.size) undef,defers:=[] } _ (fun _=>rfl) hy (Nat.le_refl _) m0.sim hfr .nil fun e fr' h' σ' a' w' k m hv' hd'=>?_;have fin:(resR C.ti fn.results.toList fr' h' fun vs=>retV vs fun v=>K v h')→LeavesInM (FR none) 0 C.P fn a'.tmps (fun e w'=>(∃v,e= .returned v∧∃σ' h' r,K r h'∧Mv σ h w σ' h' w'∧VRel σ' r v)∨(∃t v,e= .panicked [{ v:=.iface t v,recovered:=false }]∧∃σ' h',KP t v h'∧Mv σ h w σ' h' w')) a'.defers .returning w':=by
  intro k;simp only [resR_eq,retV_eq] at k;obtain ⟨l,e1,e2,e3⟩:=hd';rw [e1,List.append_nil];refine leavesM (σ:=σ) (h:=heap0 h n) (w:=w) (fr':=fr') (h':=h') low (fun σ2 w2 m2 v2=>?_) l σ' w' e2 e3 m hv';obtain ⟨v,rs,h1,h2,h3⟩:=results_sound ok m2.sim v2 fn k;exact ⟨v,h1,.inl ⟨v,rfl,σ2,h',_,h3,m0.trans m2,h2⟩⟩
 cases e with
 |normal=>exact fin k
 |ret=>exact fin k
 |exit id=>exact k.elim
 |pan t v=>
  obtain ⟨l,e1,e2,e3⟩:=hd';show LeavesInM (FR none) 0 C.P fn a'.tmps _ a'.defers (.panicking _) w';rw [e1,List.append_nil];exact leavesMP (σ:=σ) (h:=heap0 h n) (w:=w) (h':=h') low (fun σ2 w2 m2=>.inr ⟨t,v,rfl,σ2,h',k,m0.trans m2⟩) l σ' w' e2 e3 m
theorem wkA {C:Ctx} (ok:COk C) (hm:C.P.follows .mixedOrders=true) {A:Ann} {c:Code} {fr:List AV} {h:Heap} {K:AE→List AV→Heap→Prop}
  (hk:forceR fr fun fr=>forceHR h fun h=>aexR C A c fr h K):WK C c fr h K:=by
 rw [forceR_eq,forceHR_eq,aexR_eq] at hk;exact aexec_sound ok hm hk
theorem fnP_of {C:Ctx} (ok:COk C) (hm:C.P.follows .mixedOrders=true) {A:Ann} {f:FuncId} {fn:Func} {c:Code} (n:Nat) (hf:C.P.funcs[f]? =some fn) (hb:fn.body=some c) {args:List AV} {h:Heap} {K:AV→Heap→Prop} {KP:Nat→Value→Heap→Prop}
  (hk:forceR (frame0 args fn.ntmps) fun fr=>forceHR (heap0 h n) fun h=>aexR C A c fr h fun e fr h'=>match e with
   | .normal=>resR C.ti fn.results.toList fr h' fun vs=>retV vs fun v=>K v h'
   | .ret=>resR C.ti fn.results.toList fr h' fun vs=>retV vs fun v=>K v h'
   | .pan t v=>KP t v h'
   | .exit _=>False) (hy:C.yl=none:=by rfl):ACallsP C.P f args h K KP:=by
 refine fnPW_of ok n hf hb ?_ hy;rw [forceR_eq,forceHR_eq,aexR_eq] at hk;exact aexec_sound ok hm hk
theorem Mv.frame {σ σ1:Sg} {st1 st2 dy:List AObj} {w w':World} {h1:Heap} (s:Sim σ ⟨st1++st2,dy⟩ w) (m:Mv σ ⟨st1,dy⟩ w σ1 h1 w'):Mv σ ⟨st1++st2,dy⟩ w σ1 ⟨padTo st1.length h1.st++st2,h1.dy⟩ w':=by
 have part:∀(i:Id) (o:AObj),(⟨st1,dy⟩:Heap)[i]? =some o→(⟨st1++st2,dy⟩:Heap)[i]? =some o:=by
  intro i o ho;cases i with
  |d n=>exact ho
  |s n=>
   have ho:st1[n]? =some o:=ho;show (st1++st2)[n]? =some o;rw [List.getElem?_append_left (List.getElem?_eq_some_iff.1 ho).1];exact ho
 have rest:∀(k:Nat) (o:AObj),st2[k]? =some o→(⟨st1++st2,dy⟩:Heap)[Id.s (st1.length+k)]? =some o:=fun k o ho=>by
  show (st1++st2)[st1.length+k]? =some o;rw [List.getElem?_append_right (by omega),Nat.add_sub_cancel_left];exact ho
 have nlive:∀(k:Nat) (o:AObj) (b:Nat),st2[k]? =some o→o.blk σ (.s (st1.length+k))=some b→¬Live σ ⟨st1,dy⟩ b:=by
  rintro k o b ho hb ⟨i,x,hx,hbx⟩;have:=s.apart i _ x o b (part i x hx) (rest k o ho) hbx hb;subst this;have hx:st1[st1.length+k]? =some x:=hx;rw [List.getElem?_eq_none (by omega)] at hx;cases hx
 have lt:∀(k:Nat) (o:AObj) (b:Nat),st2[k]? =some o→o.blk σ (.s (st1.length+k))=some b→b<w.heap.size:=fun k o b ho hb=>Live.lt s ⟨_,o,rest k o ho,hb⟩;have nfm:∀(k:Nat) (o:AObj) (b:Nat),st2[k]? =some o→o.blk σ (.s (st1.length+k))=some b→σ1.FM b=none:=fun k o b ho hb=>by
  cases hf:σ1.FM b with
  |none=>rfl
  |some cs=>
   rcases m.new b (by rw [hf];simp) with x|x|x
   ·exact absurd (Live.noFM s ⟨_,o,rest k o ho,hb⟩) x
   ·exact absurd x (nlive k o b ho hb)
   ·have:=lt k o b ho hb;omega
 have obj:∀(i:Id) (o:AObj),(⟨padTo st1.length h1.st++st2,h1.dy⟩:Heap)[i]? =some o→o= .hole∨h1[i]? =some o∨∃k,i= .s (st1.length+k)∧st2[k]? =some o:=by
  intro i o ho;cases i with
  |d n=>exact .inr (.inl ho)
  |s n=>
   have ho:(padTo st1.length h1.st++st2)[n]? =some o:=ho;by_cases hn:n<st1.length
   ·rw [List.getElem?_append_left (by rw [padTo_len];exact hn)] at ho;exact (padTo_get ho).imp (fun x=>x) (fun x=>.inl x)
   ·rw [List.getElem?_append_right (by rw [padTo_len];omega),padTo_len] at ho;exact .inr (.inr ⟨n-st1.length,by rw [show st1.length+(n-st1.length)=n by omega],ho⟩)
 have bk:∀(k:Nat) (o:AObj),st2[k]? =some o→o.blk σ1 (.s (st1.length+k))=o.blk σ (.s (st1.length+k)):=fun k o ho=>blk_le (s.obj _ o (rest k o ho)) m.le;have lv1:∀b,Live σ1 h1 b→Live σ ⟨st1,dy⟩ b∨w.heap.size≤b:=m.live;refine ⟨m.le,⟨m.sim.fm,fun i o ho=>?_,fun i j oi oj b hi hj bi bj=>?_,m.sim.fresh,m.sim.rm,m.sim.gl⟩,m.os,m.tape,m.output,m.size,fun b hb hnl=>?_,fun b hb=>?_,fun b hb=>?_⟩
 ·rcases obj i o ho with rfl|h2|⟨k,rfl,h2⟩
  ·trivial
  ·exact m.sim.obj i o h2
  ·exact (s.obj _ o (rest k o h2)).keep m.le fun b hb=>⟨m.block b (lt k o b h2 hb) (nlive k o b h2 hb),nfm k o b h2 hb⟩
 ·have cross:∀(i:Id) (o:AObj) (k:Nat) (o2:AObj),h1[i]? =some o→o.blk σ1 i=some b→st2[k]? =some o2→o2.blk σ1 (.s (st1.length+k))=some b→False:=by
   intro i o k o2 h2 b2 h3 b3;rw [bk k o2 h3] at b3
   rcases lv1 b ⟨i,o,h2,b2⟩ with y|y
   ·exact nlive k o2 b h3 b3 y
   ·have:=lt k o2 b h3 b3;omega
  rcases obj i oi hi with rfl|h2|⟨k,rfl,h2⟩
  ·simp [AObj.blk] at bi
  ·rcases obj j oj hj with rfl|h3|⟨k',rfl,h3⟩
   ·simp [AObj.blk] at bj
   ·exact m.sim.apart i j oi oj b h2 h3 bi bj
   ·exact (cross i oi k' oj h2 bi h3 bj).elim
  ·rcases obj j oj hj with rfl|h3|⟨k',rfl,h3⟩
   ·simp [AObj.blk] at bj
   ·exact (cross j oj k oi h3 bj h2 bi).elim
   ·rw [bk k oi h2] at bi;rw [bk k' oj h3] at bj;exact s.apart _ _ oi oj b (rest k oi h2) (rest k' oj h3) bi bj
 ·exact m.block b hb fun ⟨i,o,ho,hbx⟩=>hnl ⟨i,o,part i o ho,hbx⟩
 ·obtain ⟨i,o,ho,hbx⟩:=hb
  rcases obj i o ho with rfl|h2|⟨k,rfl,h2⟩
  ·simp [AObj.blk] at hbx
  ·rcases lv1 b ⟨i,o,h2,hbx⟩ with ⟨i',o',h3,h4⟩|y
   ·exact .inl ⟨i',o',part i' o' h3,h4⟩
   ·exact .inr y
  ·rw [bk k o h2] at hbx;exact .inl ⟨_,o,rest k o h2,hbx⟩
 ·rcases m.new b hb with y|⟨i,o,h3,h4⟩|y
  ·exact .inl y
  ·exact .inr (.inl ⟨i,o,part i o h3,h4⟩)
  ·exact .inr (.inr y)
theorem ACallsP.part {P:Program} {f:FuncId} {args:List AV} {h:Heap} {st1 dy:List AObj} {K0 K:AV→Heap→Prop} {KP0 KP:Nat→Value→Heap→Prop} (n:Nat) (hn:st1.length=n) (e1:h.st.take n=st1) (e2:h.dy=dy) (hc:ACallsP P f args ⟨st1,dy⟩ K0 KP0)
  (hK:∀r h1,K0 r h1→K r ⟨padTo n h1.st++h.st.drop n,h1.dy⟩) (hP:∀t v h1,KP0 t v h1→KP t v ⟨padTo n h1.st++h.st.drop n,h1.dy⟩):ACallsP P f args h K KP:=by
 subst hn;have e:h=⟨st1++h.st.drop st1.length,dy⟩:=by
  obtain ⟨st,dy'⟩:=h;simp only at e1 e2 ⊢;subst e2;have:st=st.take st1.length++st.drop st1.length:=(List.take_append_drop _ _).symm;rw [e1] at this;rw [←this]
 refine ⟨fun σ w vs s hv=>?_⟩;have s':Sim σ ⟨st1++h.st.drop st1.length,dy⟩ w:=by rw [←e];exact s
 have part:∀(i:Id) (o:AObj),(⟨st1,dy⟩:Heap)[i]? =some o→(⟨st1++h.st.drop st1.length,dy⟩:Heap)[i]? =some o:=by
  intro i o ho;cases i with
  |d n=>exact ho
  |s n=>
   have ho:st1[n]? =some o:=ho;show (st1++h.st.drop st1.length)[n]? =some o;rw [List.getElem?_append_left (List.getElem?_eq_some_iff.1 ho).1];exact ho
 have m0:Mv σ ⟨st1++h.st.drop st1.length,dy⟩ w σ ⟨st1,dy⟩ w:=s'.forget fun i o ho=>.inr (part i o ho);refine (hc.use σ w vs m0.sim hv).mono ?_;rintro ee w' (⟨v,rfl,σ1,h1,r,k,m,x⟩|⟨t,v,rfl,σ1,h1,k,m⟩)
 ·refine .inl ⟨v,rfl,σ1,_,r,hK r h1 k,?_,x⟩;have:=Mv.frame s' m;rw [←e] at this;exact this
 ·refine .inr ⟨t,v,rfl,σ1,_,hP t v h1 k,?_⟩;have:=Mv.frame s' m;rw [←e] at this;exact this
theorem ACallsP.tail {P:Program} {f:FuncId} {args:List AV} {st1 tl dy:List AObj} {K0 K:AV→Heap→Prop} {KP0 KP:Nat→Value→Heap→Prop} (hc:ACallsP P f args ⟨st1,dy⟩ K0 KP0)
  (hK:∀r h1,K0 r h1→K r ⟨padTo st1.length h1.st++tl,h1.dy⟩) (hP:∀t v h1,KP0 t v h1→KP t v ⟨padTo st1.length h1.st++tl,h1.dy⟩):ACallsP P f args ⟨st1++tl,dy⟩ K KP:=
 ACallsP.part (h:=⟨st1++tl,dy⟩) st1.length rfl (by simp) rfl hc (by simpa using hK) (by simpa using hP)
theorem ACalls.tail {P:Program} {f:FuncId} {args:List AV} {st1 tl dy:List AObj} {K0 K:AV→Heap→Prop} (hc:ACalls P f args ⟨st1,dy⟩ K0)
  (hK:∀r h1,K0 r h1→K r ⟨padTo st1.length h1.st++tl,h1.dy⟩):ACalls P f args ⟨st1++tl,dy⟩ K:=
 ACalls.part (h:=⟨st1++tl,dy⟩) st1.length rfl (by simp) rfl hc (by simpa using hK)
theorem loopYP {C:Ctx} {c:Code} (ok:COk C) (hm:C.P.follows .mixedOrders=true) {A:Ann} (l:List Nat) (kp:List Nat) {S:Type} (fr:S→List AV) (h:S→Heap) (μ:S→Nat) {K:AE→List AV→Heap→Prop} {fr0:List AV} {h0:Heap} (s0:S)
  (e1:maskF 0 l fr0=fr s0) (e2:maskH 0 kp h0=h s0) (lo ko:List Nat) {S':Type} (X:S'→Nat) (frX:S'→List AV) (hX:S'→Heap) (lr kr:List Nat) {S2:Type} (frR:S2→List AV) (hR:S2→Heap) (KP:Nat→Value→List AV→Heap→Prop)
  (hround:∀s,aexR C A c (fr s) (h s) fun e fr' h'=>match e with
   | .normal=>Back fun s'=>maskF 0 l fr'=fr s'∧maskH 0 kp h'=h s'∧μ s'<μ s
   | .exit id=>Back fun s'=>id=X s'∧maskF 0 lo fr'=frX s'∧maskH 0 ko h'=hX s'
   | .ret=>Back fun s'=>maskF 0 lr fr'=frR s'∧maskH 0 kr h'=hR s'
   | .pan t v=>KP t v fr' h')
  (hp:∀t v fr h,KP t v fr h→K (.pan t v) fr h) (hr:∀s',K .ret (frR s') (hR s')) (hk:∀s',K (.exit (X s')) (frX s') (hX s')):WK C (.loop c) fr0 h0 K:=by
 have key:=loopM (K:=fun e fr' h'=>match e with
   | .normal=>False
   | .exit id=>Back fun s'=>id=X s'∧maskF 0 lo fr'=frX s'∧maskH 0 ko h'=hX s'
   | .ret=>Back fun s'=>maskF 0 lr fr'=frR s'∧maskH 0 kr h'=hR s'
   | .pan t v=>KP t v fr' h') ok hm (A:=A) l kp fr h μ s0 e1 e2 hround
 refine ⟨fun rd B σ w a Q hrd hy hB sm hf hd hQ=>?_⟩;refine key.use rd B σ w a Q hrd hy hB sm hf hd fun e fr' h' σ' a' w' k m v d=>?_;have fin:∀(e:AE) (lo ko:List Nat) (fr2:List AV) (h2:Heap),maskF 0 lo fr'=fr2→maskH 0 ko h'=h2→K e fr2 h2→Q e.toExit a' w':=by
  intro e lo ko fr2 h2 e3 e4 hK;have m3:Mv σ' h' w' σ' (maskH 0 ko h') w':=m.sim.forget fun i o x=>maskH_get _ _ _ _ _ x;rw [e4] at m3;have v3:=maskF_rel fr' 0 lo _ v;rw [e3] at v3;exact hQ e _ _ σ' a' w' hK (m.trans m3) v3 d
 cases e with
 |normal=>exact k.elim
 |pan t x=>exact hQ (.pan t x) fr' h' σ' a' w' (hp _ _ _ _ k) m v d
 |ret=>
  obtain ⟨s',e3,e4⟩:=back_ex k;exact fin .ret lr kr _ _ e3 e4 (hr s')
 |exit id=>
  obtain ⟨s',rfl,e3,e4⟩:=back_ex k;exact fin (.exit (X s')) lo ko _ _ e3 e4 (hk s')
end Go.Ab

namespace Go.Ab
open Go.ChangeMaps (setBlock)
theorem Sim.ghost {σ:Sg} {h:Heap} {w:World} (s:Sim σ h w) (id:Id) (b:Nat):∃ep σ',Mv σ h w σ' h w∧σ'.ρ id ep=some (.at b 0 1 1 1):=by
 obtain ⟨e0,he0⟩:=s.fresh
 let σ':Sg:={ ρ:=fun i e=>if i=id∧e=e0 then some (.at b 0 1 1 1) else σ.ρ i e,FM:=σ.FM,RM:=σ.RM }
 have hle:Sg.Le σ σ':=by
  refine ⟨fun i e pl hp=>?_,fun _ _ x=>x,fun _ _ x=>x⟩;show (if i=id∧e=e0 then _ else σ.ρ i e)=_;rw [if_neg]
  ·exact hp
  ·rintro ⟨rfl,rfl⟩;rw [he0 _ e (Nat.le_refl _)] at hp;cases hp
 have hnew:σ'.ρ id e0=some (.at b 0 1 1 1):=by show (if id=id∧e0=e0 then _ else _)=_;simp
 have hb:∀(i:Id) (o:AObj) (b:Nat),h[i]? =some o→o.blk σ' i=some b→o.blk σ i=some b:=fun i o b ho hbx=>by
  rwa [blk_le (s.obj i o ho) hle] at hbx
 refine ⟨e0,σ',⟨hle,⟨s.fm,fun i o ho=>?_,fun i j oi oj b hi hj bi bj=>s.apart i j oi oj b hi hj (hb i oi b hi bi) (hb j oj b hj bj),⟨e0+1,fun i ep hep=>?_⟩,s.rm,fun p hp=>hle.FM _ _ (s.gl p hp)⟩,rfl,rfl,rfl,Nat.le_refl _,fun _ _ _=>rfl,fun b hl=>?_,fun _ x=>.inl x⟩,hnew⟩
 ·exact (s.obj i o ho).keep hle fun b hbx=>⟨rfl,Live.noFM s ⟨i,o,ho,hbx⟩⟩
 ·show (if i=id∧ep=e0 then _ else σ.ρ i ep)=none;rw [if_neg (by rintro ⟨_,rfl⟩;omega)];exact he0 i ep (by omega)
 ·obtain ⟨i,o,ho,hbx⟩:=hl;exact .inl ⟨i,o,ho,hb i o b ho hbx⟩
structure Hid (σ:Sg) (h:Heap) (w:World) (b:Nat) (o:Obj):Prop where
 get:w.heap[b]? =some o
 live:¬Live σ h b
 fm:σ.FM b=none
theorem Hid.lt {σ:Sg} {h:Heap} {w:World} {b:Nat} {o:Obj} (x:Hid σ h w b o):b<w.heap.size:=(Array.getElem?_eq_some_iff.1 x.get).1
theorem Hid.mv {σ σ':Sg} {h h':Heap} {w w':World} {b:Nat} {o:Obj} (x:Hid σ h w b o) (m:Mv σ h w σ' h' w'):Hid σ' h' w' b o:=by
 have hlt:=x.lt;refine ⟨(m.block b hlt x.live).trans x.get,fun l=>?_,?_⟩
 ·rcases m.live b l with y|y
  ·exact x.live y
  ·omega
 ·cases hf:σ'.FM b with
  |none=>rfl
  |some cs=>
   rcases m.new b (by rw [hf];simp) with y|y|y
   ·exact absurd x.fm y
   ·exact absurd y x.live
   ·omega
theorem Hid.turn {σ0 σ:Sg} {h0 h:Heap} {w0 w w1:World} {r:Nat} {o o':Obj} (m:Mv σ0 h0 w0 σ h w) (x:Hid σ h w r o) (hr0:w0.heap.size≤r) (hrec:isRec o=false) (hw:w1=w∨w1=w.drew):
  Mv σ0 h0 w0 σ h (setBlock w1 r o')∧Hid σ h (setBlock w1 r o') r o'∧∀b,b≠r→(setBlock w1 r o').heap[b]? =w.heap[b]?:=by
 have hlt:=x.lt;have hheap:(setBlock w1 r o').heap=w.heap.setIfInBounds r o':=by rcases hw with rfl|rfl<;>rfl
 have oth:∀b,b≠r→(setBlock w1 r o').heap[b]? =w.heap[b]?:=fun b hb=>by rw [hheap,Array.getElem?_setIfInBounds_ne (Ne.symm hb)]
 have self:(setBlock w1 r o').heap[r]? =some o':=by rw [hheap,Array.getElem?_setIfInBounds_self];simp [hlt]
 have s:=m.sim;have os':(setBlock w1 r o').os=w.os:=by rcases hw with rfl|rfl<;>rfl
 have tp':(setBlock w1 r o').tape=w.tape:=by rcases hw with rfl|rfl<;>rfl
 have ou':(setBlock w1 r o').output=w.output:=by rcases hw with rfl|rfl<;>rfl
 refine ⟨⟨m.le,⟨fun b cs y=>?_,fun i oo ho=>?_,s.apart,s.fresh,fun b oo y=>?_,s.gl⟩,os'.trans m.os,tp'.trans m.tape,ou'.trans m.output,?_,fun b hb hl=>?_,m.live,m.new⟩,⟨self,x.live,x.fm⟩,oth⟩
 ·obtain ⟨T,fz,e⟩:=s.fm b cs y;exact ⟨T,fz,by rw [oth b (by rintro rfl;rw [x.fm] at y;cases y)];exact e⟩
 ·exact (s.obj i oo ho).keep (.refl _) fun b hb=>⟨oth b (by rintro rfl;exact x.live ⟨i,oo,ho,hb⟩),Live.noFM s ⟨i,oo,ho,hb⟩⟩
 ·obtain ⟨e1,e2⟩:=s.rm b oo y;refine ⟨by rw [oth b (by rintro rfl;rw [x.get] at e1;cases e1;rw [hrec] at e2;cases e2)];exact e1,e2⟩
 ·rw [hheap];simpa using m.size
 ·rw [oth b (by omega)];exact m.block b hb hl
structure Iter (σ:Sg) (h:Heap) (w:World) (gid:Id) (epI:Nat) (es:List (AV×AV)) (ents:Array MapEntry) (clock m r:Nat) (seen:Array Nat) (idx:List Nat):Prop where
 ptr:σ.ρ gid epI=some (.at r 0 1 1 1)
 hm:Hid σ h w m (.map ents clock)
 hr:Hid σ h w r (.mapIter (some m) clock seen clock)
 born:BornOk ents clock
 len:es.length=ents.size
 rel:∀(i:Nat) (k v:AV) (e:MapEntry),es[i]? =some (k,v)→ents[i]? =some e→VRel σ k e.key∧VRel σ v e.val
 seen:∀(i:Nat) (e:MapEntry),ents[i]? =some e→(e.born∈seen↔i∈idx)
theorem Iter.mv {σ σ':Sg} {h h':Heap} {w w':World} {gid:Id} {epI:Nat} {es:List (AV×AV)} {ents:Array MapEntry} {clock m r:Nat} {seen:Array Nat} {idx:List Nat} (x:Iter σ h w gid epI es ents clock m r seen idx) (mv:Mv σ h w σ' h' w'):
  Iter σ' h' w' gid epI es ents clock m r seen idx:=
 ⟨mv.le.ρ _ _ _ x.ptr,x.hm.mv mv,x.hr.mv mv,x.born,x.len,fun i k v e a b=>let ⟨c,d⟩:=x.rel i k v e a b;⟨c.mono mv.le,d.mono mv.le⟩,x.seen⟩
theorem nodup_born {ents:Array MapEntry} {clock:Nat} (h:BornOk ents clock):(ents.toList.map (·.born)).Nodup:=by
 unfold List.Nodup;rw [List.pairwise_iff_getElem];intro i j hi hj hij e;simp only [List.length_map,Array.length_toList] at hi hj;simp only [List.getElem_map,Array.getElem_toList] at e;have:=(h i _ (Array.getElem?_eq_getElem hi)).2 j _ (Array.getElem?_eq_getElem hj) e;omega
theorem Iter.next {P:Program} {σ0 σ:Sg} {h0 h:Heap} {w0 w:World} {gid:Id} {epI:Nat} {es:List (AV×AV)} {ents:Array MapEntry} {clock m r:Nat} {seen:Array Nat} {idx:List Nat} (x:Iter σ h w gid epI es ents clock m r seen idx)
  (mv:Mv σ0 h0 w0 σ h w) (hr0:w0.heap.size≤r) (ty:TypeId):
  ((∀i,i<es.length→i∈idx)∧(Instr.next (.pointer (some ⟨r,0,none⟩)) false ty).run P w= .ok (.tuple #[.bool false]) w)∨
  ∃(i:Nat) (k v:AV) (e:MapEntry) (w':World),i∉idx∧es[i]? =some (k,v)∧e∈ents.toList∧VRel σ k e.key∧VRel σ v e.val∧(Instr.next (.pointer (some ⟨r,0,none⟩)) false ty).run P w= .ok (.tuple #[.bool true,e.key,e.val]) w'∧
   Mv σ0 h0 w0 σ h w'∧Iter σ h w' gid epI es ents clock m r (seen.push e.born) (i::idx):=by
 rcases run_next_at (P:=P) w ty r m clock clock seen ents clock x.hr.get x.hm.get (fun y hy=>by
  obtain ⟨i,hi⟩:=List.getElem?_of_mem hy;exact (x.born i y (by simpa using hi)).1) (Nat.le_refl _) with ⟨h1,h2⟩|⟨e,he,w1,hw1,hrun⟩
 ·refine .inl ⟨fun i hi=>?_,h2⟩;have hi2:i<ents.size:=by rw [←x.len];exact hi
  refine (x.seen i ents[i] (Array.getElem?_eq_getElem hi2)).1 ?_;unfold leftOf at h1;have h3:ents.filter (fun e=>!seen.contains e.born)= #[]:=Array.eq_empty_of_size_eq_zero h1;rw [Array.filter_eq_empty_iff] at h3;have:=h3 ents[i] (Array.getElem_mem hi2);simpa using this
 ·right
  unfold leftOf at he;have he2:e∈ents∧e.born∉seen:=by simpa using he
  obtain ⟨i,hi,hie⟩:=Array.getElem_of_mem he2.1;have hi2:i<es.length:=by rw [x.len];exact hi
  have hei:ents[i]? =some e:=by rw [Array.getElem?_eq_getElem hi,hie]
  obtain ⟨k,v,hkv⟩:∃k v,es[i]? =some (k,v):=⟨(es[i]).1,(es[i]).2,by rw [List.getElem?_eq_getElem hi2]⟩;obtain ⟨r1,r2⟩:=x.rel i k _ e hkv hei;obtain ⟨t1,t2,t3⟩:=Hid.turn (o':=.mapIter (some m) clock (seen.push e.born) clock) mv x.hr hr0 rfl hw1;refine ⟨i,k,_,e,_,fun hin=>he2.2 ((x.seen i e hei).2 hin),hkv,by simpa using he2.1,r1,r2,hrun,t1,⟨x.ptr,⟨?_,x.hm.live,x.hm.fm⟩,t2,x.born,x.len,x.rel,fun j e' hj=>?_⟩⟩
  ·rw [t3 m (by rintro rfl;have:=x.hm.get;rw [x.hr.get] at this;cases this)];exact x.hm.get
  ·rw [Array.mem_push,List.mem_cons,x.seen j e' hj]
   constructor
   ·rintro (y|y)
    ·exact .inr y
    ·exact .inl ((x.born j e' hj).2 i e hei y)
   ·rintro (y|y)
    ·subst y;rw [hei] at hj;cases hj;exact .inr rfl
    ·exact .inl y
theorem Iter.entry {P:Program} {σ:Sg} {h:Heap} {w:World} {gid:Id} {epI:Nat} {es:List (AV×AV)} {ents:Array MapEntry} {clock m r:Nat} {seen:Array Nat} {idx:List Nat} {e:MapEntry} (x:Iter σ h w gid epI es ents clock m r (seen.push e.born) idx) (he:e∈ents.toList):
  (Instr.entry (.pointer (some ⟨r,0,none⟩))).run P w= .ok (.tuple #[e.key,e.val]) w:=
 run_entry_at w r m clock seen ents clock e x.hr.get x.hm.get he (nodup_born x.born)
end Go.Ab
