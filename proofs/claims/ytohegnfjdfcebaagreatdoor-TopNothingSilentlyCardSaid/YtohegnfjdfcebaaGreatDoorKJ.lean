/-
  What is proved here serves the law's text: each part says its own claim and its conditions. No condition is left open.
-/
import Derived.Test.YtohegnfjdfcebaaGreatDoorKI
set_option maxHeartbeats 32000000
set_option maxRecDepth 100000
set_option linter.unusedSimpArgs false
set_option linter.unusedVariables false

namespace Go.Ab
structure COk (C:Ctx):Prop where
 tok:TOk C.P C.ti
 fn : ∀ f, C.fnok f = true → ∃ fn, C.P.funcs[f]? = some fn ∧ (fn.name == "runtime.NumGoroutine") = false ∧ fn.body.isNone = false
def globR:List (Nat×Array Value)→Nat→AV
 | [],_=>.u
 |(b,cs)::r,g=>match Nat.beq b g with
  |true=>.lptr cs.size [cs.toList.map fun v=>(ofVal v).getD .u] 0 0
  |false=>globR r g
theorem globR_rel {σ:Sg}:∀(l:List (Nat×Array Value)),(∀p∈l,σ.FM p.1=some p.2)→(∀p∈l,∀v∈p.2.toList,v.oneCell'=true)→∀g,VRel σ (globR l g) (.pointer (some ⟨g,0,none⟩))
 | [],_,_,g=>.u
 |(b,cs)::r,h,h1,g=>by
  unfold globR
  split
  ·rename_i e;obtain rfl:=Nat.eq_of_beq_eq_true e;have hF:σ.FM b=some cs:=h (b,cs) (List.mem_cons_self ..);have cell:∀(i j:Nat) (c:AV),cellAt [cs.toList.map fun v=>(ofVal v).getD .u] i j=some c→i=0∧∃v,cs[j]? =some v∧c=(ofVal v).getD .u:=by
    intro i j c x;unfold cellAt at x;cases i with
    |zero=>
     simp only [List.getElem?_cons_zero,Option.bind_some,List.getElem?_map,Array.getElem?_toList,Option.map_eq_some_iff] at x;obtain ⟨v,e1,e2⟩:=x;exact ⟨rfl,v,e1,e2.symm⟩
    |succ n=>simp at x
   have:=VRel.lptr (σ:=σ) (sz:=cs.size) (rows:=[cs.toList.map fun v=>(ofVal v).getD .u]) (i:=0) (off:=0) (blk:=b) (st:=0) (fun _ j=>(cs[j]?).getD .nilFunc) (fun i row x=>by
     cases i with
     |zero=>simp only [List.getElem?_cons_zero,Option.some.injEq] at x;subst x;simp
     |succ n=>simp at x) (fun i j c x=>by
     obtain ⟨rfl,v,e1,e2⟩:=cell i j c x;exact ⟨cs,hF,by simp [e1]⟩) (fun i j c x=>by
     obtain ⟨rfl,v,e1,e2⟩:=cell i j c x;rw [e1];exact h1 (b,cs) (List.mem_cons_self ..) v (List.mem_of_getElem? (by rw [Array.getElem?_toList];exact e1))) (fun i j c x=>by
     obtain ⟨rfl,v,e1,rfl⟩:=cell i j c x;rw [e1];cases hv:ofVal v with
     |none=>exact .u
     |some a=>exact VRel.ofVal hv)
   simpa using this
  ·exact globR_rel r (fun p hp=>h p (List.mem_cons_of_mem _ hp)) (fun p hp=>h1 p (List.mem_cons_of_mem _ hp)) g
def evl (fr:List AV):Operand→AV
 | .tmp t=>fr.getD t .u
 | .const v=>(ofVal v).getD .u
 | .global g=>globR GL g
 | .func f=>.fn (.func f) [] []
theorem evl_rel {σ:Sg} {fr:List AV} {a:Act} (hg:∀p∈GL,σ.FM p.1=some p.2) (h:VRels σ fr a.tmps.toList):OpRel σ (evl fr) a.eval:=by
 intro x;cases x with
 |tmp t=>
  simp only [evl,Act.eval,List.getD];cases hf:fr[t]? with
  |none=>exact .u
  |some v=>
   have ht:=(List.getElem?_eq_some_iff.1 hf).1;have hl:fr.length=a.tmps.size:=by have:=h.1;simpa using this
   have ht':t<a.tmps.size:=hl ▸ ht;have hx:a.tmps.toList[t]? =some (a.tmps[t]'ht'):=by rw [Array.getElem?_toList];exact Array.getElem?_eq_getElem ht'
   have:=h.2 t v (a.tmps[t]'ht') hf hx;simpa [Array.getD,ht'] using this
 |const v=>
  simp only [evl,Act.eval];cases ho:ofVal v with
  |none=>exact .u
  |some a=>exact VRel.ofVal ho
 |global g=>exact globR_rel GL hg gl_cells g
 |func f=>exact .fn rfl rfl (fun i c v x=>by simp at x) (fun i c v x=>by simp at x)
inductive Cls where
 |pure|read|alloc|eff|app|pcall|hcall|xcall|icall|ncheck|call
 deriving DecidableEq
def clsOf (C:Ctx) (op:Op):Cls:=
 match op with
 | .load .. | .lookup .. =>.read
 | .nilCheck _=>.ncheck
 | .alloc .. | .box .. | .buildSlice .. | .makeSlice .. | .makeMap .. =>.alloc
 | .store .. | .mapUpdate .. =>.eff
 | .binOp op _ _ (.const (.slice none 0 0)) _=>(match op with| .eql| .neq=>.eff|_=>.pure)
 | .call c=>match c.callee with
  | .builtin .append=>(match C.gd with|true=>.app|false=>.eff)
  | .builtin .copy| .builtin .clear=>.eff
  | .builtin _=>.pure
  | .invoke _ _=>.icall
  | .value (.func f)=>if C.pureFn f then .pcall else if C.hFn f then .hcall else if C.xFn f then .xcall else .call
  |_=>.call
 |_=>.pure
def fnOf (C:Ctx) (ev:Operand→AV) (c:Call):Option (FuncId×List AV):=
 match c.callee with
 | .value fo=>match ev fo with
  | .fn (.func f) first cap=>if C.fnok f then some (f,first++c.args.toList.map ev++cap) else none
  |_=>none
 |_=>none
def callK (C:Ctx) (f:FuncId) (args:List AV) (h:Heap) (K:AV→Heap→Prop):Prop:=
 match C.pureFn f with
 |true=>∃r,PRet C.P f args r∧K r h
 |false=>match C.hFn f with
  |true=>(match args.all AV.isPure with|true=>∃R H,HRet C.P f args R H∧∀eps,K (R h.dy.length eps) ⟨h.st,h.dy++H h.dy.length eps⟩|false=>False)
  |false=>match C.xFn f with
   |true=>ACalls C.P f args h fun r h'=>(∀(i:Id) (o:AObj),h[i]? =some o→(h'.trunc h.st.length)[i]? =some o)∧K r (h'.trunc h.st.length)
   |false=>ACalls C.P f args h fun r h'=>K r (h'.trunc h.st.length)
structure MethOk (P:Program) (t:Nat) (name:String) (f:FuncId):Prop where
 run:∀w,(method (P.types.size+Made.depth) t (.agg #[]) name).run P w= .ok (f,.agg #[]) w
 fn : ∃ fn, P.funcs[f]? = some fn ∧ (fn.name == "runtime.NumGoroutine") = false ∧ fn.body.isNone = false
def invK (C:Ctx) (ev:Operand→AV) (c:Call) (K:AV→Prop):Prop:=
 match c.callee with
 | .invoke recv name=>match ev recv with
  | .ifc t (.agg ⟨[]⟩)=>∃f r,MethOk C.P t name f∧PRet C.P f (.agg []::c.args.toList.map ev) r∧K r
  |_=>False
 |_=>False
structure NilOk (P:Program) (t:Nat) (name:String):Prop where
 run:∀w,(nilAhead (P.types.size+Made.depth) t (.agg #[]) name).run P w= .ok (some false) w
def nchK (C:Ctx) (ev:Operand→AV) (x:Operand) (K:AV→Prop):Prop:=
 match ev x with
 | .fn (.method name) [.ifc t (.agg ⟨[]⟩)] []=>NilOk C.P t name∧K (.fn (.method name) [.ifc t (.agg #[])] [])
 |_=>pureK C.ti ev (.nilCheck x) K
def opK (C:Ctx) (ev:Operand→AV) (id:Id) (h:Heap) (op:Op) (K:AV→Heap→Prop):Prop:=
 match clsOf C op with
 | .pure=>pureK C.ti ev op fun v=>K v h
 | .read=>readK C.ti ev h op fun v=>K v h
 | .alloc=>allocK C.ti ev id h op K
 | .eff=>effK C.ti ev id h op K
 | .app=>match op with
  | .call c=>appE C.ti ev h c K
  |_=>False
 | .ncheck=>match op with
  | .nilCheck x=>nchK C ev x fun v=>K v h
  |_=>False
 | .icall=>match op with
  | .call c=>invK C ev c fun v=>K v h
  |_=>False
 | .pcall| .hcall| .xcall| .call=>match op with
  | .call c=>(match fnOf C ev c with|some (f,args)=>callK C f args h K|none=>yieldK C ev c h K)
  |_=>False
theorem cls_app {C:Ctx} {c:Call} (h:clsOf C (.call c)= .app):c.callee= .builtin .append:=by
 simp only [clsOf] at h;cases hc:c.callee with
 |builtin b=>cases b<;>simp [hc] at h ⊢
 |value fo=>
  simp only [hc] at h;cases fo with
  |func f=>simp only at h;split at h<;>(try split at h)<;>(try split at h)<;>cases h
  |_=>simp at h
 |_=>simp [hc] at h
theorem elemsOf_imp {h0:Heap} {size:Nat} {x:AV} {K K':List (List AV)→Prop} (hk:∀l,K l→K' l) (h:elemsOf h0 size x K):elemsOf h0 size x K':=by
 unfold elemsOf at h ⊢
 split at h
 ·split at h
  ·rename_i e;rw [if_pos e]
   split at h
   ·exact ⟨h.1,hk _ h.2⟩
   ·exact h.elim
  ·exact h.elim
 ·split at h
  ·rename_i e;rw [if_pos e];exact hk _ h
  ·exact h.elim
 ·exact hk _ h
 ·exact h.elim
theorem appE_eff {ti:TI} {ev:Operand→AV} {h:Heap} {c:Call} {id:Id} {K:AV→Heap→Prop} (hc:c.callee= .builtin .append) (hk:appE ti ev h c K):effK ti ev id h (.call c) K:=by
 unfold appE at hk;unfold effK;simp only [hc]
 split at hk
 ·rename_i s x hl
  try simp only [hl]
  split at hk
  ·rename_i e e2 k1 k2
   try simp only [k1,k2]
   split at hk
   ·rename_i d hd
    try simp only [hd]
    split at hk
    ·exact hk.elim
    ·rename_i hz;rw [if_neg hz];refine elemsOf_imp (fun new hn=>?_) hk
     split at hn
     ·rename_i id0 ep sz off len hs
      try simp only [hs]
      split at hn
      ·rename_i hsz;rw [if_pos hsz];obtain ⟨rfl,ho,hb,hk'⟩:=hn
       try simp only [ho]
       refine ⟨by first|exact rfl|trivial,by simpa using hb,fun ep2=>?_⟩;have:=hk' ep2;simpa using this
      ·exact hn.elim
     ·exact hn.elim
   ·exact hk.elim
  ·exact hk.elim
 ·exact hk.elim
theorem COk.round {C:Ctx} (ok:COk C):COk C.round:=⟨ok.tok,ok.fn⟩
section
variable {C:Ctx} {σ:Sg}
theorem fnOf_sound (ok:COk C) {ev:Operand→AV} {ρ:Operand→Value} (hr:OpRel σ ev ρ) {c:Call} {f:FuncId} {args:List AV} (h:fnOf C ev c=some (f,args)) (o:Oper) (ho:o.op= .call c) (w:World):
  ∃vs:Array Value,(execOp ρ o).run C.P w= .ok (.enter f vs) w∧VRels σ args vs.toList:=by
 obtain ⟨dst,op,type,pos,after,guard⟩:=o;simp only at ho;subst ho;unfold fnOf at h
 split at h
 ·rename_i fo hc
  split at h
  ·rename_i g first cap e
   split at h
   ·rename_i hok;simp only [Option.some.injEq,Prod.mk.injEq] at h;obtain ⟨rfl,rfl⟩:=h;have hf:=hr fo;rw [e] at hf;generalize hv:ρ fo=u at hf;cases hf with
    | @fn _ _ _ _ first' cap' l1 l2 v1 v2=>
     obtain ⟨fn,h1,h2,h3⟩:=ok.fn _ hok;refine ⟨(first'++c.args.map ρ)++cap',?_,?_⟩
     ·have h2' : ¬ fn.name = "runtime.NumGoroutine" := by simpa using h2
      have h3':¬fn.body=none:=by intro e;rw [e] at h3;cases h3
      simp [execOp,resolve,hc,hv,Deferred.ofValue,invoke,callFunc,h1,h2',h3']
     ·simp only [Array.toList_append,Array.toList_map];exact ((VRels.append ⟨by simpa using l1,fun i c v x y=>v1 i c v x (by simpa using y)⟩ (vrels_map hr c.args.toList)).append ⟨by simpa using l2,fun i c v x y=>v2 i c v x (by simpa using y)⟩)
   ·cases h
  ·cases h
 ·cases h
theorem callK_use {f:FuncId} {args:List AV} {h:Heap} {K:AV→Heap→Prop} (hk:callK C f args h K) {w:World} (s:Sim σ h w) {vs:Array Value} (hv:VRels σ args vs.toList):
  Calls C.P f vs w fun e w'=>∃v,e= .returned v∧∃σ' h' r,K r h'∧Mv σ h w σ' h' w'∧VRel σ' r v:=by
 unfold callK at hk
 split at hk
 ·obtain ⟨r0,hr0,hk⟩:=hk;refine (hr0.out.use s hv).mono ?_;rintro e w' ⟨v,rfl,σ',r,k,m,x⟩;subst k;exact ⟨v,rfl,σ',h,_,hk,m,x⟩
 ·split at hk
  ·split at hk
   ·rename_i hp;obtain ⟨R,H,hr0,hk⟩:=hk;refine (hr0.use hp s hv).mono ?_;rintro e w' ⟨v,rfl,eps,σ',m,x⟩;exact ⟨v,rfl,σ',_,_,hk eps,m,x⟩
   ·exact hk.elim
  split at hk
  ·refine (hk.use σ w vs s hv).mono ?_;rintro e w' ⟨v,rfl,σ',h',r,⟨_,k⟩,m,x⟩;exact ⟨v,rfl,σ',h'.trunc h.st.length,r,k,m.trans (m.sim.forget fun i o ho=>.inr (Heap.trunc_get ho)),x⟩
  ·refine (hk.use σ w vs s hv).mono ?_;rintro e w' ⟨v,rfl,σ',h',r,k,m,x⟩;exact ⟨v,rfl,σ',h'.trunc h.st.length,r,k,m.trans (m.sim.forget fun i o ho=>.inr (Heap.trunc_get ho)),x⟩
theorem op_sound (ok:COk C) {rd:Option Nat} (hy:YOk C σ) {fr:List AV} {a:Act} (hfr:VRels σ fr a.tmps.toList) {h:Heap} {w:World} (s:Sim σ h w) (id:Id) (o:Oper) {K:AV→Heap→Prop} (hk:opK C (evl fr) id h o.op K)
  {next:Act→World→Prop} {Q:Exit→Act→World→Prop} (hnext:∀v r σ' h' w',K r h'→Mv σ h w σ' h' w'→VRel σ' r v→next (a.put o.dst v) w'):o.wpIn (FR rd) 0 C.P a w next Q:=by
 have hr:=evl_rel s.gl hfr;have hab:∀f,o.about C.P w a.eval=some f→(FR rd).fn f:=fun _ _=>trivial;have hdep:(FR rd).depth.isSome=true→1≤0:=fun x=>by cases x
 unfold opK at hk;have hcall:∀c,o.op= .call c→(match fnOf C (evl fr) c with|some (f,args)=>callK C f args h K|none=>yieldK C (evl fr) c h K)→o.wpIn (FR rd) 0 C.P a w next Q:=by
  intro c ho hk;refine ⟨hab,?_⟩;rw [Oper.semAt_eq _ _ _ (by intro c';rw [ho];simp)]
  split at hk
  ·rename_i f args hf;obtain ⟨vs,h1,h2⟩:=fnOf_sound ok hr hf o ho w;rw [h1,Oper.uponIn_enter];refine ⟨hdep,callsFR ((callK_use hk s h2).mono ?_)⟩;rintro e w' ⟨v,rfl,σ',h',r,k,m,x⟩;exact hnext v r σ' h' w' k m x
  ·unfold yieldK at hk
   split at hk
   ·rename_i fo hc
    split at hk
    ·rename_i l e
     split at hk
     ·rename_i y hyl;obtain ⟨rfl,hsz,hk⟩:=hk;have hyo:=hy y hyl;have hf:=hr fo;rw [e] at hf;generalize hv:a.eval fo=u at hf;cases hf with
      | @fn _ _ _ _ first' cap' l1 l2 v1 v2=>
       have e1:first'= #[]:=Array.eq_empty_of_size_eq_zero (by simpa using l1.symm);have e2:cap'= #[]:=Array.eq_empty_of_size_eq_zero (by simpa using l2.symm);subst e1;subst e2;obtain ⟨hl,_⟩:=s.rm _ _ hyo.1;have hargs:VRels σ (c.args.toList.map (evl fr)) (c.args.map a.eval).toList:=by rw [Array.toList_map];exact vrels_map hr c.args.toList
       have hrun:=run_yield (P:=C.P) (args:=c.args.map a.eval) hl (by simpa using hsz);have hx:(execOp a.eval o).run C.P w= .ok (.round y.l y.rc.fn ((y.rc.params.zip (c.args.map a.eval)).foldl (fun tmps (t,a)=>tmps.setIfInBounds t a) y.rc.tmps) y.rc.assign y.rc.body) w:=by
        obtain ⟨dst,op,type,pos,after,guard⟩:=o;simp only at ho;subst ho;simp [execOp,resolve,hc,hv,Deferred.ofValue,invoke,hrun]
       rw [hx,Oper.uponIn_round];refine ⟨hdep,round_sound hyo s hargs hk fun h' σ' w' k m=>?_⟩;exact hnext _ _ σ' h' w' k m .bool
     ·exact hk.elim
    ·exact hk.elim
   ·exact hk.elim
 have hnd:∀{r:Result Next},(∀c,o.op≠.defer c)→(execOp a.eval o).run C.P w=r→o.uponIn (FR rd) 0 C.P a next Q r→o.wpIn (FR rd) 0 C.P a w next Q:=fun h1 h2 h3=>⟨hab,by rw [Oper.semAt_eq _ _ _ h1,h2];exact h3⟩
 split at hk
 ·obtain ⟨v,r,h1,h2,h3⟩:=pure_sound ok.tok hr o hk w;refine hnd (fun c e=>by rw [e] at hk;exact hk) h1 ?_;rw [Oper.uponIn_value];exact hnext v r σ h w h3 (.refl s) h2
 ·obtain ⟨v,r,h1,h2,h3⟩:=read_sound ok.tok hr s o hk;refine hnd (fun c e=>by rw [e] at hk;exact hk) h1 ?_;rw [Oper.uponIn_value];exact hnext v r σ h w h3 (.refl s) h2
 ·obtain ⟨v,r,σ',h',w',h1,h2,h3,h4⟩:=alloc_sound ok.tok hr s id o hk;refine hnd (fun c e=>by rename_i hc;rw [e] at hc;cases hc) h1 ?_;rw [Oper.uponIn_value];exact hnext v r σ' h' w' h4 h2 h3
 ·obtain ⟨n,v,r,σ',h',w',h1,h2,h3,h4,h5⟩:=eff_sound ok.tok hr s id o hk;refine hnd (fun c e=>by rename_i hc;rw [e] at hc;cases hc) h1 ?_
  rcases h2 with rfl|⟨rfl,rfl⟩
  ·exact hnext v r σ' h' w' h5 h3 h4
  ·exact hnext undef r σ' h' w' h5 h3 h4
 ·rename_i hc
  split at hk
  ·rename_i c hop;have hcl:=hc;rw [hop] at hcl;obtain ⟨n,v,r,σ',h',w',h1,h2,h3,h4,h5⟩:=eff_sound ok.tok hr s id o (by rw [hop];exact appE_eff (id:=id) (cls_app hcl) hk);refine hnd (fun c e=>by rw [e] at hop;cases hop) h1 ?_
   rcases h2 with rfl|⟨rfl,rfl⟩
   ·exact hnext v r σ' h' w' h5 h3 h4
   ·exact hnext undef r σ' h' w' h5 h3 h4
  ·exact hk.elim
 ·split at hk
  ·rename_i x ho;unfold nchK at hk
   split at hk
   ·rename_i name t e;obtain ⟨hm,hk⟩:=hk;have hx:=hr x;rw [e] at hx;generalize hv:a.eval x=u at hx;cases hx with
    | @fn _ _ _ _ first' cap' l1 l2 v1 v2=>
     match first',l1,v1 with
     | ⟨[q]⟩,_,v1=>
      have hq:=v1 0 _ q rfl rfl;cases hq;obtain rfl:=Array.eq_empty_of_size_eq_zero (l2.symm.trans rfl);have hrun:(execOp a.eval o).run C.P w= .ok (.value (.func (.method name) #[.iface t (.agg #[])] #[])) w:=by
       obtain ⟨dst,op,type,pos,after,guard⟩:=o;simp only at ho;subst ho;have:=hm.run w;simp [execOp,hv,this]
      refine hnd (fun c e=>by rw [e] at ho;cases ho) hrun ?_;rw [Oper.uponIn_value];exact hnext _ _ σ h w hk (.refl s) (.fn rfl rfl (fun i c v y z=>by
       match i,y,z with
       |0,y,z=>cases y;cases z;exact .ifc) (fun i c v y=>by simp at y))
   ·obtain ⟨v,r,h1,h2,h3⟩:=pure_sound ok.tok hr { o with op:=.nilCheck x } hk w;have ho2:({ o with op:=.nilCheck x }:Oper)=o:=by cases o;simp only at ho;rw [ho]
    rw [ho2] at h1;refine hnd (fun c e=>by rw [e] at ho;cases ho) h1 ?_;rw [Oper.uponIn_value];exact hnext v r σ h w h3 (.refl s) h2
  ·exact hk.elim
 ·split at hk
  ·rename_i c ho;unfold invK at hk
   split at hk
   ·rename_i recv name hcal
    split at hk
    ·rename_i t e;obtain ⟨f, r, hm, hp, hk⟩ := hk;have hrv := hr recv;rw [e] at hrv;generalize hv : a.eval recv = u at hrv;cases hrv;obtain ⟨fn, h1, h2, h3⟩ := hm.fn;have h2' : ¬ fn.name = "runtime.NumGoroutine" := by simpa using h2
     have h3':¬fn.body=none:=by intro e;rw [e] at h3;cases h3
     have hx:(execOp a.eval o).run C.P w= .ok (.enter f (#[.agg #[]]++c.args.map a.eval)) w:=by
      obtain ⟨dst,op,type,pos,after,guard⟩:=o;simp only at ho;subst ho;have hmr:=hm.run w;have e0:∀(x:Value) (l:Array Value),(#[x]++l)[0]? =some x:=fun x l=>by simp [Array.getElem?_append]
      have e1:∀(x:Value) (l:Array Value),(#[x]++l).extract 1 (#[x]++l).size=l:=fun x l=>by
       apply Array.ext'
       simp [List.extract_eq_take_drop]
      simp only [execOp,resolve,hcal,hv,Sem.run_bind,Sem.run_pure,Result.andThen_ok,invoke,e0,e1,callMethod];simp [hmr,callFunc,h1,h2',h3']
     refine hnd (fun c e=>by rw [e] at ho;cases ho) hx ?_;rw [Oper.uponIn_enter];have hargs:VRels σ (.agg []::c.args.toList.map (evl fr)) (#[Value.agg #[]]++c.args.map a.eval).toList:=by
      simp only [Array.toList_append,Array.toList_map];exact VRels.cons (.agg rfl (fun v hv=>by simp at hv) (fun i c v x=>by simp at x)) (vrels_map hr c.args.toList)
     refine ⟨hdep,callsFR ((hp.out.use s hargs).mono ?_)⟩;rintro e w' ⟨v,rfl,σ',r',k,m,x⟩;subst k;exact hnext v _ σ' h w' hk m x
    ·exact hk.elim
   ·exact hk.elim
  ·exact hk.elim
 ·split at hk
  ·rename_i c hc;exact hcall c hc hk
  ·exact hk.elim
 ·split at hk
  ·rename_i c hc;exact hcall c hc hk
  ·exact hk.elim
 ·split at hk
  ·rename_i c hc;exact hcall c hc hk
  ·exact hk.elim
 ·split at hk
  ·rename_i c hc;exact hcall c hc hk
  ·exact hk.elim
def putF (fr:List AV) (dst:Option Tmp) (v:AV):List AV:=
 match dst with
 |some d=>fr.set d v
 |none=>fr
theorem putF_rel {fr:List AV} {a:Act} (h:VRels σ fr a.tmps.toList) {dst:Option Tmp} {r:AV} {v:Value} (hv:VRel σ r v):VRels σ (putF fr dst r) (a.put dst v).tmps.toList:=by
 cases dst with
 |none=>exact h
 |some d=>
  refine ⟨by simp [putF,Act.put];simpa using h.1,fun i c u x y=>?_⟩;simp only [putF,Act.put,Array.toList_setIfInBounds] at x y;by_cases hi:i=d
  ·subst hi;rw [List.getElem?_set_self'] at x y;cases hx:fr[i]? with
   |none=>simp [hx] at x
   |some _=>
    cases hy:a.tmps.toList[i]? with
    |none=>simp only [hy] at y;cases y
    |some _=>
     simp [hx] at x;simp only [hy] at y;cases y;subst x;exact hv
  ·rw [List.getElem?_set_ne (Ne.symm hi)] at x y;exact h.2 i c u x y
theorem undef_rel {σ:Sg}:VRel σ (.tup []) undef:=.tup rfl fun i c v x=>by simp at x
def wantA (ops:Array Oper) (o:Oper) (fr:List AV):Option Bool:=
 match o.guard with
 |none=>some true
 |some (j,want)=>match (ops[j]?).bind (·.dst) with
  |some d=>match fr[d]? with
   |some (.bool b)=>some (b==want)
   |some (.tup [])=>some false
   |_=>none
  |none=>none
theorem wantA_sound {ops:Array Oper} {o:Oper} {fr:List AV} {a:Act} (h:VRels σ fr a.tmps.toList) {b:Bool} (hb:wantA ops o fr=some b):Region.wanted o (yielded ops a.tmps)=b:=by
 unfold wantA at hb;unfold Region.wanted
 split at hb
 ·rename_i hg;simp only [hg];exact Option.some.inj hb
 ·rename_i j want hg;simp only [hg];unfold yielded
  split at hb
  ·rename_i d hd;simp only [hd,Option.bind_some]
   split at hb
   ·rename_i c hc;have hl:fr.length=a.tmps.size:=by have:=h.1;simpa using this
    have hlt:=(List.getElem?_eq_some_iff.1 hc).1;have hv:=h.2 d _ (a.tmps[d]'(by omega)) hc (by simp);have e:a.tmps[d]? =some (a.tmps[d]'(by omega)):=by simp
    rw [e];generalize a.tmps[d]'(by omega)=u at hv;cases hv;cases hb;cases c<;>cases want<;>rfl
   ·rename_i hc;have hl:fr.length=a.tmps.size:=by have:=h.1;simpa using this
    have hlt:=(List.getElem?_eq_some_iff.1 hc).1;have hv:=h.2 d _ (a.tmps[d]'(by omega)) hc (by simp);have e:a.tmps[d]? =some (a.tmps[d]'(by omega)):=by simp
    rw [e];generalize a.tmps[d]'(by omega)=u at hv;cases hv;cases hb;cases want<;>rfl
   ·cases hb
  ·cases hb
def runOrd (C:Ctx) (ops:Array Oper) (slot:Nat→Id):List Nat→List AV→Heap→(List AV→Heap→Prop)→Prop
 | [],fr,h,K=>K fr h
 |i::r,fr,h,K=>
  match ops[i]? with
  |none=>False
  |some o=>match wantA ops o fr with
   |some true=>opK C (evl fr) (slot i) h o.op fun v h'=>runOrd C ops slot r (putF fr o.dst v) h' K
   |some false=>runOrd C ops slot r (putF fr o.dst (.tup [])) h K
   |none=>False
theorem runOrd_sound (ok:COk C) {rd:Option Nat} {ops:Array Oper} {slot:Nat→Id} {Q:Exit→Act→World→Prop}:∀(ord:List Nat) {σ:Sg} {fr:List AV} {a:Act} {h:Heap} {w:World} {K:List AV→Heap→Prop},
  YOk C σ→VRels σ fr a.tmps.toList→Sim σ h w→runOrd C ops slot ord fr h K→
  (∀fr' h' σ' a' w',K fr' h'→Mv σ h w σ' h' w'→VRels σ' fr' a'.tmps.toList→a'.defers=a.defers→Q .normal a' w')→wpOpsIn (FR rd) 0 C.P ops Q ord a w:=by
 intro ord
 induction ord with
 |nil=>
  intro σ fr a h w K hy hfr s hk hQ;exact hQ fr h σ a w hk (.refl s) hfr rfl
 |cons i r ih=>
  intro σ fr a h w K hy hfr s hk hQ;unfold runOrd at hk;unfold wpOpsIn
  split at hk
  ·exact hk.elim
  ·rename_i o ho;simp only [ho]
   split at hk
   ·rename_i hw;rw [wantA_sound hfr hw];refine op_sound ok hy hfr s (slot i) o hk fun v x σ' h' w' k m hv=>?_;refine ih (hy.mono m.le) (putF_rel (hfr.mono m.le) hv) m.sim k fun fr' h'' σ'' a' w'' k2 m2 hv2 hd=>?_;exact hQ fr' h'' σ'' a' w'' k2 (m.trans m2) hv2 (hd.trans (by cases o.dst<;>rfl))
   ·rename_i hw;rw [wantA_sound hfr hw];simp only [Bool.false_eq_true,if_false];refine ⟨fun _ _=>trivial,?_⟩;refine ih hy (putF_rel hfr undef_rel) s hk fun fr' h'' σ'' a' w'' k2 m2 hv2 hd=>?_;exact hQ fr' h'' σ'' a' w'' k2 m2 hv2 (hd.trans (by cases o.dst<;>rfl))
   ·exact hk.elim
end
end Go.Ab

namespace Go.Ab
theorem aOff_mono {K K':AV→Prop} (hk:∀v,K v→K' v) {n:Nat} {x:AV} (h:aOff K n x):aOff K' n x:=by
 cases x<;>first|exact hk _ h|exact h
theorem binInt_mono {K K':AV→Prop} (hk:∀v,K v→K' v) {op:BinOp} {k:IntKind} {a b:Int} (h:binInt op k a b K):binInt op k a b K':=by
 cases op<;>simp only [binInt] at h ⊢ <;>first|exact hk _ h|exact ⟨h.1,hk _ h.2⟩|exact h
theorem eqCK_mono {ti:TI}:∀{l:List (Nat×Nat)} {a b:List AV} {K K':Bool→Prop},(∀v,K v→K' v)→eqCK ti l a b K→eqCK ti l a b K':=by
 intro l
 induction l with
 |nil=>intro a b K K' hk h;simp only [eqCK] at h ⊢;exact hk _ h
 |cons f l ih=>
  intro a b K K' hk h;cases a with
  |nil=>simp [eqCK] at h
  |cons x a=>cases b with
   |nil=>simp [eqCK] at h
   |cons y b=>
    simp only [eqCK] at h ⊢
    split at h
    ·split at h
     ·rename_i e;rw [if_pos e];exact ih (fun r=>hk _) h
     ·exact h.elim
    ·exact ih (fun r=>hk _) h
    ·exact h.elim
theorem eqAK_mono {ti:TI} {t:Nat} {a b:List AV} {K K':Bool→Prop} (hk:∀v,K v→K' v) (h:eqAK ti t a b K):eqAK ti t a b K':=by
 unfold eqAK at h ⊢
 split at h
 ·split at h
  ·exact eqCK_mono hk h
  ·exact eqCK_mono hk h
  ·exact h.elim
 ·exact h.elim
theorem binK_mono {K K':AV→Prop} (hk:∀v,K v→K' v) {ti:TI} {op:BinOp} {t:Nat} {x y:AV} (h:binK ti op t x y K):binK ti op t x y K':=by
 unfold binK at h ⊢
 split at h
 ·exact ⟨h.1,hk _ h.2⟩
 ·exact ⟨h.1,hk _ h.2⟩
 ·split at h
  ·rename_i e;rw [if_pos e];exact binInt_mono hk h
  ·exact h.elim
 ·exact ⟨h.1,hk _ h.2⟩
 ·exact ⟨h.1,hk _ h.2⟩
 ·exact hk _ h
 ·exact hk _ h
 ·exact ⟨h.1,hk _ h.2⟩
 ·exact eqAK_mono (fun r=>hk _) h
 ·exact eqAK_mono (fun r=>hk _) h
 ·exact ⟨h.1,hk _ h.2⟩
 ·exact ⟨h.1,hk _ h.2⟩
 ·refine ⟨h.1,?_⟩;have h2:=h.2
  split at h2
  ·rename_i e;rw [if_pos e];exact hk _ h2
  ·rename_i e;rw [if_neg e]
   split at h2
   ·exact hk _ h2
   ·exact h2.elim
 ·refine ⟨h.1,?_⟩;have h2:=h.2
  split at h2
  ·rename_i e;rw [if_pos e];exact hk _ h2
  ·rename_i e;rw [if_neg e]
   split at h2
   ·exact hk _ h2
   ·exact h2.elim
 ·exact h.elim
theorem unK_mono {K K':AV→Prop} (hk:∀v,K v→K' v) {op:UnOp} {x:AV} (h:unK op x K):unK op x K':=by
 unfold unK at h ⊢;split at h<;>first|exact hk _ h|exact h.elim
theorem extK_mono {K K':AV→Prop} (hk:∀v,K v→K' v) {vs:List AV} {n:Nat} (h:extK vs n K):extK vs n K':=by
 unfold extK at h ⊢;split at h<;>first|exact hk _ h|exact h.elim
theorem minK_mono {K K':AV→Prop} (hk:∀v,K v→K' v) {mx:Bool}:∀{l:List AV} {x:AV},minK mx l x K→minK mx l x K':=by
 intro l
 induction l with
 |nil=>intro x h;exact hk _ h
 |cons y r ih=>
  intro x h;simp only [minK] at h ⊢
  split at h
  ·split at h
   ·rename_i e;rw [if_pos e];exact ih h
   ·exact h.elim
  ·exact h.elim
theorem sliceGo_mono {K K':AV→Prop} (hk:∀v,K v→K' v) {lo hi mx:Option AV} {len:Nat} {f:Nat→Nat→Bool→AV} (h:sliceGo lo hi mx K len f):sliceGo lo hi mx K' len f:=by
 unfold sliceGo at h ⊢
 split at h<;>first|exact hk _ h|exact ⟨h.1,hk _ h.2⟩|exact h.elim
theorem sliceK_mono {K K':AV→Prop} (hk:∀v,K v→K' v) {x:AV} {lo hi mx:Option AV} (h:sliceK x lo hi mx K):sliceK x lo hi mx K':=by
 unfold sliceK at h ⊢
 split at h<;>first|exact sliceGo_mono hk h|exact h.elim
theorem idxK_mono {K K':AV→Prop} (hk:∀v,K v→K' v) {size:Nat} {n:Int} {x:AV} (h:idxK size n K x):idxK size n K' x:=by
 unfold idxK at h ⊢
 split at h
 ·split at h
  ·rename_i e;rw [if_pos e];exact ⟨h.1,hk _ h.2⟩
  ·exact h.elim
 ·split at h
  ·rename_i e;rw [if_pos e];exact ⟨h.1,hk _ h.2⟩
  ·exact h.elim
 ·exact h.elim
theorem fillK_mono {K K':List AV→Prop} (hk:∀v,K v→K' v) {place:Nat→Option (Nat×Nat)}:∀{parts:List (Nat×AV)} {cells:List AV},fillK place cells parts K→fillK place cells parts K':=by
 intro parts
 induction parts with
 |nil=>intro cells h;exact hk _ h
 |cons p r ih=>
  intro cells h;obtain ⟨i,v⟩:=p;unfold fillK at h ⊢
  split at h
  ·split at h
   ·rename_i e1 e2 e3;simp only [e1,e2,e3,and_self,if_true];exact ih h
   ·exact h.elim
  ·exact h.elim
theorem pureK_mono {ti:TI} {ev:Operand→AV} {op:Op} {K K':AV→Prop} (hk:∀v,K v→K' v) (h:pureK ti ev op K):pureK ti ev op K':=by
 unfold pureK at h ⊢
 split at h
 ·exact hk _ h
 ·exact hk _ h
 ·skip
  split at h
  ·split at h<;>exact hk _ h
  ·exact h.elim
 ·skip
  split at h
  ·rename_i e;rw [if_pos e];exact hk _ h
  ·rename_i e;rw [if_neg e]
   split at h
   ·exact hk _ h
   ·exact h.elim
 ·exact binK_mono hk h
 ·exact unK_mono hk h
 ·skip
  split at h<;>first|exact hk _ h|exact h.elim
 ·skip
  split at h
  ·split at h
   ·split at h
    ·split at h
     ·exact h.elim
     ·rename_i e1 e2 e3 e4;rw [if_neg e4];exact aOff_mono hk h
    ·exact h.elim
   ·exact h.elim
  ·exact h.elim
 ·skip
  split at h
  ·split at h
   ·split at h
    ·split at h
     ·exact hk _ h
     ·exact h.elim
    ·exact h.elim
   ·exact h.elim
  ·exact h.elim
 ·skip
  split at h
  ·split at h
   ·exact idxK_mono hk h
   ·exact h.elim
  ·split at h
   ·exact ⟨h.1,aOff_mono hk h.2⟩
   ·exact h.elim
  ·exact h.elim
 ·skip
  split at h
  ·split at h
   ·refine ⟨h.1,?_⟩;have h2:=h.2
    split at h2
    ·exact hk _ h2
    ·exact h2.elim
   ·exact h.elim
  ·exact ⟨h.1,hk _ h.2⟩
  ·exact h.elim
 ·skip
  split at h
  ·exact extK_mono hk h
  ·exact h.elim
 ·skip
  split at h
  ·split at h
   ·split at h
    ·rename_i e;rw [if_pos e];exact sliceK_mono hk h
    ·exact h.elim
   ·exact h.elim
  ·split at h
   ·split at h
    ·exact sliceGo_mono hk h
    ·exact h.elim
   ·exact h.elim
  ·exact h.elim
 ·skip
  split at h
  ·split at h
   ·split at h
    ·exact h.elim
    ·rename_i e;rw [if_neg e];exact fillK_mono (fun cs=>hk _) h
   ·split at h
    ·exact fillK_mono (fun cs=>hk _) h
    ·exact h.elim
   ·exact h.elim
  ·exact h.elim
 ·skip
  split at h
  ·split at h
   ·exact hk _ h
   ·exact h.elim
  ·exact h.elim
 ·exact hk _ h
 ·skip
  split at h
  ·split at h<;>first|exact hk _ h|exact h.elim
  ·exact minK_mono hk h
  ·exact minK_mono hk h
  ·exact h.elim
 ·exact h.elim
theorem rowK_mono {d:TD} {r:Option (List AV)} {off:Nat} {K K':AV→Prop} (hk:∀v,K v→K' v) (h:rowK d r off K):rowK d r off K':=by
 unfold rowK at h ⊢
 split at h
 ·split at h
  ·exact hk _ h
  ·exact h.elim
 ·exact h.elim
theorem readK_mono {ti:TI} {ev:Operand→AV} {h0:Heap} {op:Op} {K K':AV→Prop} (hk:∀v,K v→K' v) (h:readK ti ev h0 op K):readK ti ev h0 op K':=by
 unfold readK at h ⊢
 split at h
 ·skip
  split at h
  ·exact h.elim
  ·split at h
   ·split at h
    ·exact ⟨h.1,rowK_mono hk h.2⟩
    ·exact h.elim
   ·exact rowK_mono hk h
   ·exact h.elim
 ·exact lookK_mono hk h
 ·exact h.elim
theorem allocK_mono {ti:TI} {ev:Operand→AV} {id:Id} {h0:Heap} {op:Op} {K K':AV→Heap→Prop} (hk:∀v h,K v h→K' v h) (h:allocK ti ev id h0 op K):allocK ti ev id h0 op K':=by
 unfold allocK at h ⊢
 split at h
 ·exact h.elim
 ·exact h.elim
 ·exact h.elim
 ·skip
  split at h
  ·skip
   split at h
   ·exact fun ep=>hk _ _ (h ep)
   ·exact h.elim
  ·skip
   split at h
   ·split at h
    ·rename_i e;rw [if_pos e];exact fun ep=>hk _ _ (h ep)
    ·exact h.elim
   ·exact h.elim
  ·skip
   split at h
   ·split at h
    ·split at h
     ·exact h.elim
     ·rename_i e;rw [if_neg e];exact fillK_mono (fun cs x ep=>hk _ _ (x ep)) h
    ·exact h.elim
   ·exact h.elim
  ·skip
   split at h
   ·split at h
    ·exact ⟨h.1,fun ep=>hk _ _ (h.2 ep)⟩
    ·exact h.elim
   ·exact h.elim
  ·exact fun ep=>hk _ _ (h ep)
  ·exact h.elim
theorem elemsOf_mono {h0:Heap} {size:Nat} {x:AV} {K K':List (List AV)→Prop} (hk:∀l,K l→K' l) (h:elemsOf h0 size x K):elemsOf h0 size x K':=by
 unfold elemsOf at h ⊢
 split at h
 ·split at h
  ·rename_i e;rw [if_pos e]
   split at h
   ·exact ⟨h.1,hk _ h.2⟩
   ·exact h.elim
  ·exact h.elim
 ·split at h
  ·rename_i e;rw [if_pos e];exact hk _ h
  ·exact h.elim
 ·exact hk _ h
 ·exact h.elim
theorem nilEqK_mono {x:AV} {K K':Bool→Prop} (hk:∀b,K b→K' b) (h:nilEqK x K):nilEqK x K':=by
 unfold nilEqK at h ⊢
 split at h
 ·exact hk _ h
 ·exact ⟨fun e=>hk _ (h.1 e),hk _ h.2⟩
 ·exact ⟨fun e=>hk _ (h.1 e),hk _ h.2⟩
 ·exact h.elim
theorem effK_mono {ti:TI} {ev:Operand→AV} {id:Id} {h0:Heap} {op:Op} {K K':AV→Heap→Prop} (hk:∀v h,K v h→K' v h) (h:effK ti ev id h0 op K):effK ti ev id h0 op K':=by
 unfold effK at h ⊢
 split at h
 ·skip
  split at h
  ·split at h
   ·rename_i e;rw [if_pos e]
    split at h
    ·split at h
     ·refine ⟨h.1,?_⟩;have h2:=h.2
      split at h2
      ·split at h2
       ·rename_i e;rw [if_pos e];rw [forceL_eq] at h2 ⊢;exact hk _ _ h2
       ·exact h2.elim
      ·exact h2.elim
     ·exact h.elim
    ·exact h.elim
   ·exact h.elim
  ·exact h.elim
 ·skip
  split at h
  ·skip
   split at h
   ·skip
    split at h
    ·split at h
     ·exact h.elim
     ·rename_i e;rw [if_neg e];refine elemsOf_mono (fun new x=>?_) h
      split at x
      ·split at x
       ·rename_i e;rw [if_pos e]
        split at x
        ·exact ⟨x.1,x.2.1,fun ep=>hk _ _ (x.2.2 ep)⟩
        ·exact x.elim
       ·exact x.elim
      ·split at x
       ·exact x.elim
       ·rename_i e;rw [if_neg e];exact ⟨x.1,fun ep=>hk _ _ (x.2 ep)⟩
      ·split at x
       ·exact x.elim
       ·rename_i e;rw [if_neg e];exact ⟨x.1,fun ep=>hk _ _ (x.2 ep)⟩
      ·split at x
       ·exact x.elim
       ·rename_i e;rw [if_neg e];exact ⟨x.1,fun ep=>hk _ _ (x.2 ep)⟩
      ·exact x.elim
    ·exact h.elim
   ·exact h.elim
  ·skip
   split at h
   ·skip
    split at h
    ·refine elemsOf_mono (fun new x=>?_) h
     split at x
     ·split at x
      ·rename_i e;rw [if_pos e]
       split at x
       ·exact ⟨x.1,hk _ _ x.2⟩
       ·exact x.elim
      ·exact x.elim
     ·exact x.elim
    ·exact h.elim
   ·exact h.elim
  ·skip
   split at h
   ·skip
    split at h
    ·skip
     split at h
     ·split at h
      ·rename_i e;rw [if_pos e]
       split at h
       ·exact ⟨h.1,hk _ _ h.2⟩
       ·exact h.elim
      ·exact h.elim
     ·exact h.elim
    ·exact h.elim
   ·exact h.elim
  ·exact h.elim
 ·split at h
  ·split at h
   ·exact nilEqK_mono (fun b x=>hk _ _ x) h
   ·exact nilEqK_mono (fun b x=>hk _ _ x) h
   ·exact h.elim
  ·exact h.elim
 ·exact updK_mono hk h
 ·exact h.elim
theorem callK_mono {C:Ctx} {f:FuncId} {args:List AV} {h0:Heap} {K K':AV→Heap→Prop} (hk:∀v h,K v h→K' v h) (h:callK C f args h0 K):callK C f args h0 K':=by
 unfold callK at h ⊢
 split at h
 ·obtain ⟨r,h1,h2⟩:=h;exact ⟨r,h1,hk _ _ h2⟩
 ·split at h
  ·split at h
   ·obtain ⟨R,H,h1,h2⟩:=h;exact ⟨R,H,h1,fun eps=>hk _ _ (h2 eps)⟩
   ·exact h.elim
  ·split at h
   ·exact h.mono fun r h' q=>⟨q.1,hk _ _ q.2⟩
   ·exact h.mono fun r h'=>hk _ _
theorem appE_mono {ti:TI} {ev:Operand→AV} {h0:Heap} {c:Call} {K K':AV→Heap→Prop} (hk:∀v h,K v h→K' v h) (h:appE ti ev h0 c K):appE ti ev h0 c K':=by
 unfold appE at h ⊢
 split at h
 ·split at h
  ·split at h
   ·split at h
    ·exact h.elim
    ·rename_i hz;rw [if_neg hz];refine elemsOf_mono (fun new hn=>?_) h
     split at hn
     ·split at hn
      ·rename_i hsz;rw [if_pos hsz];exact ⟨hn.1,hn.2.1,hn.2.2.1,fun ep2=>hk _ _ (hn.2.2.2 ep2)⟩
      ·exact hn.elim
     ·exact hn.elim
   ·exact h.elim
  ·exact h.elim
 ·exact h.elim
theorem invK_mono {C:Ctx} {ev:Operand→AV} {c:Call} {K K':AV→Prop} (hk:∀v,K v→K' v) (h:invK C ev c K):invK C ev c K':=by
 unfold invK at h ⊢
 split at h
 ·split at h
  ·obtain ⟨f,r,h1,h2,h3⟩:=h;exact ⟨f,r,h1,h2,hk _ h3⟩
  ·exact h.elim
 ·exact h.elim
theorem nchK_mono {C:Ctx} {ev:Operand→AV} {x:Operand} {K K':AV→Prop} (hk:∀v,K v→K' v) (h:nchK C ev x K):nchK C ev x K':=by
 unfold nchK at h ⊢
 split at h
 ·exact ⟨h.1,hk _ h.2⟩
 ·exact pureK_mono hk h
theorem opK_mono {C:Ctx} {ev:Operand→AV} {id:Id} {h0:Heap} {op:Op} {K K':AV→Heap→Prop} (hk:∀v h,K v h→K' v h) (h:opK C ev id h0 op K):opK C ev id h0 op K':=by
 unfold opK at h ⊢
 split at h
 ·exact pureK_mono (fun v=>hk v h0) h
 ·exact readK_mono (fun v=>hk v h0) h
 ·exact allocK_mono hk h
 ·exact effK_mono hk h
 ·split at h
  ·exact appE_mono hk h
  ·exact h.elim
 ·split at h
  ·exact nchK_mono (fun v=>hk v h0) h
  ·exact h.elim
 ·split at h
  ·exact invK_mono (fun v=>hk v h0) h
  ·exact h.elim
 ·skip
  split at h
  ·split at h
   ·exact callK_mono hk h
   ·exact yieldK_mono hk h
  ·exact h.elim
 ·skip
  split at h
  ·split at h
   ·exact callK_mono hk h
   ·exact yieldK_mono hk h
  ·exact h.elim
 ·skip
  split at h
  ·split at h
   ·exact callK_mono hk h
   ·exact yieldK_mono hk h
  ·exact h.elim
 ·skip
  split at h
  ·split at h
   ·exact callK_mono hk h
   ·exact yieldK_mono hk h
  ·exact h.elim
end Go.Ab
