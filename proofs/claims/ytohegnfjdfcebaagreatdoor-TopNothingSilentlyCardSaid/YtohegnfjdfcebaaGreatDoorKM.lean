/-
  What is proved here serves the law's text: each part says its own claim and its conditions. No condition is left open.
-/
import Derived.Test.YtohegnfjdfcebaaGreatDoorKL
set_option maxHeartbeats 32000000
set_option maxRecDepth 100000
set_option linter.unusedSimpArgs false
set_option linter.unusedVariables false

namespace Go.Ab
structure RAnn where
 live:Option (List Nat):=none
 keep:Option (List Nat):=none
 slots:List (Nat×Nat):=[]
 lifts:List (Nat×Nat×Nat):=[]
 canon:Option (List Nat):=none
 frz:List Nat:=[]
 mv:List Nat:=[]
 dg:Bool:=false
 plan:Option Plan:=none
 pan:List Nat:=[]
abbrev Ann:=Nat→RAnn
def maskF:Nat→List Nat→List AV→List AV
 |_,[],fr=>fr.map fun _=>.u
 |_,_::_,[]=>[]
 |i,k::l,v::fr=>if i=k then v::maskF (i+1) l fr else .u::maskF (i+1) (k::l) fr
def maskL:Nat→List Nat→List AObj→List AObj
 |_,[],h=>h.map fun _=>.hole
 |_,_::_,[]=>[]
 |i,k::l,o::h=>if i=k then o::maskL (i+1) l h else .hole::maskL (i+1) (k::l) h
def maskH (i:Nat) (l:List Nat) (h:Heap):Heap:=⟨maskL i l h.st,h.dy⟩
def isAlloc:Op→Bool
 | .alloc .. | .box .. | .buildSlice .. | .makeSlice .. | .makeMap .. =>true
 |_=>false
def holesH:List (Nat×Nat)→Array Oper→Heap→Heap
 | [],_,h=>h
 |(i,s)::r,ops,h=>holesH r ops (match ops[i]? with
  |some o=>if isAlloc o.op then h.set (.s s) .hole else h
  |none=>h)
def liftK:List (Nat×Nat×Nat)→List AV→Heap→(List AV→Heap→Prop)→Prop
 | [],fr,h,K=>K fr h
 |(t,id,sz)::r,fr,h,K=>
  match fr[t]? with
  |some .nils=>∀ep,liftK r (fr.set t (.oslc (.s id) ep sz 0 0 false)) (h.set (.s id) (.vec ep [])) K
  |_=>liftK r fr h K
def frzSlots:List Nat→List AV→Heap→(List AV→Heap→Prop)→Prop
 | [],fr,h,K=>K fr h
 |t::r,fr,h,K=>match fr[t]? with
  |some a=>frzK h a fun a' h'=>frzSlots r (fr.set t a') h' K
  |none=>fzSK (t-1000) fr h fun fr h=>frzSlots r fr h K
def movSlots:List Nat→List AV→Heap→(List AV→Heap→Prop)→Prop
 | [],fr,h,K=>K fr h
 |t::r,fr,h,K=>match fr[t]? with
  |some a=>movK h a fun a' h'=>movSlots r (fr.set t a') h' K
  |none=>mvSK (t-1000) fr h fun fr h=>movSlots r fr h K
def forceH (h:Heap) (K:Heap→Prop):Prop:=match h with
 | ⟨st,dy⟩=>forceL st fun st=>K ⟨st,dy⟩
theorem forceH_eq (h:Heap) (K:Heap→Prop):forceH h K=K h:=by
 cases h;simp only [forceH,forceL_eq]
section
variable {σ:Sg}
theorem maskF_rel:∀(fr:List AV) (i:Nat) (l:List Nat) (vs:List Value),VRels σ fr vs→VRels σ (maskF i l fr) vs:=by
 intro fr
 induction fr with
 |nil=>
  intro i l vs h;cases l<;>exact h
 |cons v fr ih=>
  intro i l vs h;have h1:=h.1
  match vs,h with
  | [],h=>cases h.1
  |u::vs,h=>
   have ht:VRels σ fr vs:=⟨by have:=h.1;simpa using this,fun i a v x y=>h.2 (i+1) a v (by simpa using x) (by simpa using y)⟩;cases l with
   |nil=>
    refine ⟨by simp [maskF];simpa using h.1,fun k a b x y=>?_⟩;simp only [maskF,List.getElem?_map,Option.map_eq_some_iff] at x;obtain ⟨_,_,rfl⟩:=x;exact .u
   |cons k l=>
    unfold maskF
    split
    ·exact VRels.cons (h.2 0 v u rfl rfl) (ih _ _ _ ht)
    ·exact VRels.cons .u (ih _ _ _ ht)
theorem maskL_get:∀(h:List AObj) (i:Nat) (l:List Nat) (j:Nat) (o:AObj),(maskL i l h)[j]? =some o→o= .hole∨h[j]? =some o:=by
 intro h
 induction h with
 |nil=>
  intro i l j o x;cases l<;>simp [maskL] at x
 |cons p h ih=>
  intro i l j o x;cases l with
  |nil=>
   simp only [maskL,List.getElem?_map,Option.map_eq_some_iff] at x;obtain ⟨_,_,rfl⟩:=x;exact .inl rfl
  |cons k l=>
   unfold maskL at x
   split at x
   ·cases j with
    |zero=>simp at x;exact .inr (by simp [x])
    |succ j=>simp at x;simpa using ih _ _ j o x
   ·cases j with
    |zero=>simp at x;exact .inl x.symm
    |succ j=>simp at x;simpa using ih _ _ j o x
theorem maskH_get (h:Heap) (i:Nat) (l:List Nat) (j:Id) (o:AObj) (x:(maskH i l h)[j]? =some o):o= .hole∨h[j]? =some o:=by
 cases j with
 |s n=>exact maskL_get h.st i l n o x
 |d n=>exact .inr x
theorem set_hole_get {h:Heap} {s j:Id} {o:AObj} (x:(h.set s .hole)[j]? =some o):o= .hole∨h[j]? =some o:=by
 by_cases hi:j=s
 ·subst hi;rw [Heap.getElem?_set_self'] at x;cases hh:h[j]? with
  |none=>simp [hh] at x
  |some y=>simp [hh] at x;exact .inl x.symm
 ·rw [Heap.getElem?_set_ne (Ne.symm hi)] at x;exact .inr x
theorem holesH_get (ops:Array Oper):∀(l:List (Nat×Nat)) (h:Heap) (j:Id) (o:AObj),(holesH l ops h)[j]? =some o→o= .hole∨h[j]? =some o:=by
 intro l
 induction l with
 |nil=>intro h j o x;exact .inr x
 |cons p l ih=>
  intro h j o x;obtain ⟨i,s⟩:=p;unfold holesH at x
  rcases ih _ j o x with e|e
  ·exact .inl e
  ·split at e
   ·split at e<;>first|exact set_hole_get e|exact .inr e
   ·exact .inr e
theorem frset_rel {fr:List AV} {vs:List Value} {t:Nat} {a:AV} (h:VRels σ fr vs) (ha:∀v,vs[t]? =some v→VRel σ a v):VRels σ (fr.set t a) vs:=by
 refine ⟨by simpa using h.1,fun i c v x y=>?_⟩;by_cases hi:i=t
 ·subst hi;rw [List.getElem?_set_self'] at x;cases hh:fr[i]? with
  |none=>simp [hh] at x
  |some b=>simp [hh] at x;subst x;exact ha v y
 ·rw [List.getElem?_set_ne (Ne.symm hi)] at x;exact h.2 i c v x y
theorem liftK_sound:∀(l:List (Nat×Nat×Nat)) {σ:Sg} {fr:List AV} {h:Heap} {w:World} {vs:List Value} {K:List AV→Heap→Prop},VRels σ fr vs→Sim σ h w→liftK l fr h K→
  ∃σ' fr' h',K fr' h'∧Mv σ h w σ' h' w∧VRels σ' fr' vs:=by
 intro l
 induction l with
 |nil=>intro σ fr h w vs K hf s hk;exact ⟨σ,fr,h,hk,.refl s,hf⟩
 |cons p l ih=>
  intro σ fr h w vs K hf s hk;obtain ⟨t,id,sz⟩:=p;unfold liftK at hk
  split at hk
  ·rename_i ht;obtain ⟨ep,σ1,m1,hp⟩:=s.allocNil (.s id);have hrel:VRels σ1 (fr.set t (.oslc (.s id) ep sz 0 0 false)) vs:=frset_rel (hf.mono m1.le) fun v hv=>by
    have:=hf.2 t _ v ht hv;cases this;exact .onil hp
   obtain ⟨σ',fr',h',k,m,r⟩:=ih hrel m1.sim (hk ep);exact ⟨σ',fr',h',k,m1.trans m,r⟩
  ·exact ih hf s hk
theorem frzSlots_sound:∀(l:List Nat) {σ:Sg} {fr:List AV} {h:Heap} {w:World} {vs:List Value} {K:List AV→Heap→Prop},VRels σ fr vs→Sim σ h w→frzSlots l fr h K→
  ∃σ' fr' h',K fr' h'∧Mv σ h w σ' h' w∧VRels σ' fr' vs:=by
 intro l
 induction l with
 |nil=>intro σ fr h w vs K hf s hk;exact ⟨σ,fr,h,hk,.refl s,hf⟩
 |cons t l ih=>
  intro σ fr h w vs K hf s hk;unfold frzSlots at hk
  split at hk
  ·rename_i a ht;have hlt:=(List.getElem?_eq_some_iff.1 ht).1;have hl:=hf.1;have hv:=hf.2 t a (vs[t]'(by omega)) ht (List.getElem?_eq_getElem (by omega));obtain ⟨σ1,h1,a',m1,r1,k1⟩:=frzK_sound s hv hk;have hrel:VRels σ1 (fr.set t a') vs:=frset_rel (hf.mono m1.le) fun v hv'=>by
    rw [List.getElem?_eq_getElem (by omega)] at hv';cases hv';exact r1
   obtain ⟨σ',fr',h',k,m,r⟩:=ih hrel m1.sim k1;exact ⟨σ',fr',h',k,m1.trans m,r⟩
  ·obtain ⟨σ1,fr1,h1,k1,m1,r1⟩:=fzSK_sound hf s hk;obtain ⟨σ',fr',h',k,m,r⟩:=ih r1 m1.sim k1;exact ⟨σ',fr',h',k,m1.trans m,r⟩
theorem movSlots_sound:∀(l:List Nat) {σ:Sg} {fr:List AV} {h:Heap} {w:World} {vs:List Value} {K:List AV→Heap→Prop},VRels σ fr vs→Sim σ h w→movSlots l fr h K→
  ∃σ' fr' h',K fr' h'∧Mv σ h w σ' h' w∧VRels σ' fr' vs:=by
 intro l
 induction l with
 |nil=>intro σ fr h w vs K hf s hk;exact ⟨σ,fr,h,hk,.refl s,hf⟩
 |cons t l ih=>
  intro σ fr h w vs K hf s hk;unfold movSlots at hk
  split at hk
  ·rename_i a ht;have hlt:=(List.getElem?_eq_some_iff.1 ht).1;have hl:=hf.1;have hv:=hf.2 t a (vs[t]'(by omega)) ht (List.getElem?_eq_getElem (by omega));obtain ⟨σ1,h1,a',m1,r1,k1⟩:=movK_sound s hv hk;have hrel:VRels σ1 (fr.set t a') vs:=frset_rel (hf.mono m1.le) fun v hv'=>by
    rw [List.getElem?_eq_getElem (by omega)] at hv';cases hv';exact r1
   obtain ⟨σ',fr',h',k,m,r⟩:=ih hrel m1.sim k1;exact ⟨σ',fr',h',k,m1.trans m,r⟩
  ·obtain ⟨σ1,fr1,h1,k1,m1,r1⟩:=mvSK_sound hf s hk;obtain ⟨σ',fr',h',k,m,r⟩:=ih r1 m1.sim k1;exact ⟨σ',fr',h',k,m1.trans m,r⟩
end
def runE (C:Ctx) (ops:Array Oper) (slots:List (Nat×Nat)):List Nat→List AV→Heap→(List AV→Heap→Prop)→Prop
 | [],fr,h,K=>K fr h
 |i::r,fr,h,K=>
  match ops[i]? with
  |none=>False
  |some o=>match o.guard with
   |none=>opK C (evl fr) (slotF slots i) h o.op fun v h'=>forceV v fun v=>forceL (putF fr o.dst v) fun fr=>forceH h' fun h=>runE C ops slots r fr h K
   |some (j,want)=>match (ops[j]?).bind (·.dst) with
    |none=>False
    |some d=>match fr[d]? with
     |some (.bool b)=>match b with
      |true=>(match want with
       |true=>opK C (evl (fr.set d (.bool true))) (slotF slots i) h o.op fun v h'=>forceV v fun v=>forceL (putF (fr.set d (.bool true)) o.dst v) fun fr=>forceH h' fun h=>runE C ops slots r fr h K
       |false=>forceL (putF (fr.set d (.bool true)) o.dst (.tup [])) fun fr=>runE C ops slots r fr h K)
      |false=>(match want with
       |true=>forceL (putF (fr.set d (.bool false)) o.dst (.tup [])) fun fr=>runE C ops slots r fr h K
       |false=>opK C (evl (fr.set d (.bool false))) (slotF slots i) h o.op fun v h'=>forceV v fun v=>forceL (putF (fr.set d (.bool false)) o.dst v) fun fr=>forceH h' fun h=>runE C ops slots r fr h K)
     |some (.tup [])=>forceL (putF fr o.dst (.tup [])) fun fr=>runE C ops slots r fr h K
     |_=>False
theorem set_get {α:Type} {l:List α} {i:Nat} {x:α} (h:l[i]? =some x):l.set i x=l:=by
 obtain ⟨h1,h2⟩:=List.getElem?_eq_some_iff.1 h;subst h2;exact List.set_getElem_self h1
theorem runE_ord {C:Ctx} {ops:Array Oper} {slots:List (Nat×Nat)}:∀{ord:List Nat} {fr:List AV} {h:Heap} {K:List AV→Heap→Prop},runE C ops slots ord fr h K→runOrd C ops (slotF slots) ord fr h K:=by
 intro ord
 induction ord with
 |nil=>intro fr h K x;exact x
 |cons i r ih=>
  intro fr h K x;unfold runE at x;unfold runOrd
  split at x
  ·exact x.elim
  ·rename_i o ho;simp only [ho]
   split at x
   ·rename_i hg;have:wantA ops o fr=some true:=by unfold wantA;rw [hg]
    rw [this];exact opK_mono (fun v h' y=>by rw [forceV_eq,forceL_eq,forceH_eq] at y;exact ih y) x
   ·rename_i j want hg
    split at x
    ·exact x.elim
    ·rename_i d hd
     split at x
     ·rename_i b hb;have hw:wantA ops o fr=some (b==want):=by unfold wantA;rw [hg];simp only [hd,hb]
      rw [hw]
      split at x
      ·split at x
       ·rw [set_get hb] at x;exact opK_mono (fun v h' y=>by rw [forceV_eq,forceL_eq,forceH_eq] at y;exact ih y) x
       ·rw [set_get hb,forceL_eq] at x;exact ih x
      ·split at x
       ·rw [set_get hb,forceL_eq] at x;exact ih x
       ·rw [set_get hb] at x;exact opK_mono (fun v h' y=>by rw [forceV_eq,forceL_eq,forceH_eq] at y;exact ih y) x
     ·rename_i hb;have hw:wantA ops o fr=some false:=by unfold wantA;rw [hg];simp only [hd,hb]
      rw [hw];rw [forceL_eq] at x;exact ih x
     ·exact x.elim
def planE (C:Ctx) (ops:Array Oper) (slots:List (Nat×Nat)):Plan→List AV→Heap→(List AV→Heap→Prop)→Prop
 | .done,fr,h,K=>K fr h
 | .one i p,fr,h,K=>runE C ops slots [i] fr h fun fr h=>planE C ops slots p fr h K
 | .br i j p q,fr,h,K=>(runE C ops slots [i] fr h fun fr h=>planE C ops slots p fr h K)∧(runE C ops slots [j] fr h fun fr h=>planE C ops slots q fr h K)
 | .br3 i j l p q r,fr,h,K=>(runE C ops slots [i] fr h fun fr h=>planE C ops slots p fr h K)∧(runE C ops slots [j] fr h fun fr h=>planE C ops slots q fr h K)∧(runE C ops slots [l] fr h fun fr h=>planE C ops slots r fr h K)
theorem planE_run {C:Ctx} {ops:Array Oper} {slots:List (Nat×Nat)}:∀{p:Plan} {fr:List AV} {h:Heap} {K:List AV→Heap→Prop},planE C ops slots p fr h K→p.run C ops (slotF slots) fr h K:=by
 intro p
 induction p with
 |done=>intro fr h K x;exact x
 |one i p ih=>intro fr h K x;exact stepO_mono (fun f h' y=>ih y) (runE_ord x)
 |br i j p q ihp ihq=>intro fr h K x;exact ⟨stepO_mono (fun f h' y=>ihp y) (runE_ord x.1),stepO_mono (fun f h' y=>ihq y) (runE_ord x.2)⟩
 |br3 i j l p q r ihp ihq ihr=>intro fr h K x;exact ⟨stepO_mono (fun f h' y=>ihp y) (runE_ord x.1),stepO_mono (fun f h' y=>ihq y) (runE_ord x.2.1),stepO_mono (fun f h' y=>ihr y) (runE_ord x.2.2)⟩
def regK (C:Ctx) (A:RAnn) (ops:Array Oper) (draw:Bool) (fr:List AV) (h:Heap) (K:List AV→Heap→Prop):Prop:=
 forceL (match A.live with|some l=>maskF 0 l fr|none=>fr) fun fr=>forceH (match A.keep with|some l=>maskH 0 l h|none=>h) fun h=>
  liftK A.lifts fr h fun fr h=>forceH (holesH A.slots ops h) fun h=>
   match draw with
   |false=>runE C ops A.slots (List.range ops.size) fr h fun fr h=>frzSlots A.frz fr h fun fr h=>movSlots A.mv fr h K
   |true=>match A.plan with
    |none=>forceL (match A.canon with|some l=>l|none=>List.range ops.size) fun ord=>
     match drawOk (C.g A.dg) ops A.slots ord with
     |true=>runE (C.g A.dg) ops A.slots ord fr h fun fr h=>frzSlots A.frz fr h fun fr h=>movSlots A.mv fr h K
     |false=>False
    |some p=>match planOk (C.g A.dg) ops A.slots p with
     |true=>planE (C.g A.dg) ops A.slots p fr h fun fr h=>frzSlots A.frz fr h fun fr h=>movSlots A.mv fr h K
     |false=>False
def forceR {α:Type} (l:List α) (K:List α→Prop):Prop:=
 List.rec (motive:=fun _=>(List α→Prop)→Prop) (fun K=>K []) (fun a _ ih K=>ih fun l'=>K (a::l')) l K
theorem forceR_eq {α:Type} (l:List α):∀(K:List α→Prop),forceR l K=K l:=by
 induction l with
 |nil=>intro K;rfl
 |cons a l ih=>intro K;exact ih fun l'=>K (a::l')
def forceHR (h:Heap) (K:Heap→Prop):Prop:=match h with
 | ⟨st,dy⟩=>forceR st fun st=>K ⟨st,dy⟩
theorem forceHR_eq (h:Heap) (K:Heap→Prop):forceHR h K=K h:=by
 cases h;simp only [forceHR,forceR_eq]
theorem forceHLR (h:Heap) (K:Heap→Prop):forceHR h K=forceH h K:=by rw [forceHR_eq,forceH_eq]
def stepR (C:Ctx) (ops:Array Oper) (slots:List (Nat×Nat)) (i:Nat) (k:List AV→Heap→Prop) (fr:List AV) (h:Heap):Prop:=
 match ops[i]? with
 |none=>False
 |some o=>match o.guard with
  |none=>opK C (evl fr) (slotF slots i) h o.op fun v h'=>forceV v fun v=>forceR (putF fr o.dst v) fun fr=>forceHR h' fun h=>k fr h
  |some (j,want)=>match (ops[j]?).bind (·.dst) with
   |none=>False
   |some d=>match fr[d]? with
    |some (.bool b)=>match b with
     |true=>(match want with
      |true=>opK C (evl (fr.set d (.bool true))) (slotF slots i) h o.op fun v h'=>forceV v fun v=>forceR (putF (fr.set d (.bool true)) o.dst v) fun fr=>forceHR h' fun h=>k fr h
      |false=>forceR (putF (fr.set d (.bool true)) o.dst (.tup [])) fun fr=>k fr h)
     |false=>(match want with
      |true=>forceR (putF (fr.set d (.bool false)) o.dst (.tup [])) fun fr=>k fr h
      |false=>opK C (evl (fr.set d (.bool false))) (slotF slots i) h o.op fun v h'=>forceV v fun v=>forceR (putF (fr.set d (.bool false)) o.dst v) fun fr=>forceHR h' fun h=>k fr h)
    |some (.tup [])=>forceR (putF fr o.dst (.tup [])) fun fr=>k fr h
    |_=>False
theorem forceLR {α:Type} (l:List α) (K:List α→Prop):forceR l K=forceL l K:=by rw [forceR_eq,forceL_eq]
theorem stepR_eq (C:Ctx) (ops:Array Oper) (slots:List (Nat×Nat)) (i:Nat) (k:List AV→Heap→Prop) (fr:List AV) (h:Heap):stepR C ops slots i k fr h=runE C ops slots [i] fr h k:=by
 simp only [stepR,runE,forceLR,forceHLR]
structure ACallsP (P:Program) (f:FuncId) (args:List AV) (h:Heap) (K:AV→Heap→Prop) (KP:Nat→Value→Heap→Prop):Prop where
 use:∀(σ:Sg) (w:World) (vs:Array Value),Sim σ h w→VRels σ args vs.toList→
  Calls P f vs w fun e w'=>(∃v,e= .returned v∧∃σ' h' r,K r h'∧Mv σ h w σ' h' w'∧VRel σ' r v)∨(∃t v,e= .panicked [{ v:=.iface t v,recovered:=false }]∧∃σ' h',KP t v h'∧Mv σ h w σ' h' w')
theorem ACallsP.mono {P:Program} {f:FuncId} {args:List AV} {h:Heap} {K K':AV→Heap→Prop} {KP KP':Nat→Value→Heap→Prop} (hc:ACallsP P f args h K KP) (hk:∀r h',K r h'→K' r h') (hp:∀t v h',KP t v h'→KP' t v h'):ACallsP P f args h K' KP':=
 ⟨fun σ w vs s v=>(hc.use σ w vs s v).mono fun _ _ h=>by
  rcases h with ⟨x,e,σ',h',r,k,m,v⟩|⟨t,x,e,σ',h',k,m⟩
  ·exact .inl ⟨x,e,σ',h',r,hk _ _ k,m,v⟩
  ·exact .inr ⟨t,x,e,σ',h',hp _ _ _ k,m⟩⟩
def memN (i:Nat):List Nat→Bool
 | []=>false
 |a::r=>match Nat.beq i a with
  |true=>true
  |false=>memN i r
def panK (C:Ctx) (fr:List AV) (h:Heap) (o:Oper) (K:AV→Heap→Prop) (KP:Nat→Value→List AV→Heap→Prop):Prop:=
 match o.guard with
 |some _=>False
 |none=>match o.op with
  | .panic x=>match evl fr x with
   | .ifc t v=>KP t v fr h
   |_=>False
  | .call c=>match fnOf C (evl fr) c with
   |some (f,args)=>ACallsP C.P f args h (fun r h'=>K r (h'.trunc h.st.length)) (fun t v h'=>KP t v fr (h'.trunc h.st.length))
   |none=>False
  |_=>False
def stepP (C:Ctx) (ops:Array Oper) (slots:List (Nat×Nat)) (pan:List Nat) (KP:Nat→Value→List AV→Heap→Prop) (i:Nat) (k:List AV→Heap→Prop) (fr:List AV) (h:Heap):Prop:=
 match memN i pan with
 |false=>stepR C ops slots i k fr h
 |true=>match ops[i]? with
  |none=>False
  |some o=>panK C fr h o (fun v h'=>forceV v fun v=>forceR (putF fr o.dst v) fun fr=>forceHR h' fun h=>k fr h) KP
def runP (C:Ctx) (ops:Array Oper) (slots:List (Nat×Nat)) (pan:List Nat) (KP:Nat→Value→List AV→Heap→Prop) (l:List Nat) (fr:List AV) (h:Heap) (K:List AV→Heap→Prop):Prop:=
 List.rec (motive:=fun _=>List AV→Heap→Prop) (fun fr h=>K fr h) (fun i _ ih fr h=>stepP C ops slots pan KP i ih fr h) l fr h
theorem runOrd_then {C:Ctx} (ok:COk C) {rd:Option Nat} {ops:Array Oper} {slot:Nat→Id} {Q:Exit→Act→World→Prop} {rest:List Nat}:∀(ord:List Nat) {σ:Sg} {fr:List AV} {a:Act} {h:Heap} {w:World} {K:List AV→Heap→Prop},
  YOk C σ→VRels σ fr a.tmps.toList→Sim σ h w→runOrd C ops slot ord fr h K→
  (∀fr' h' σ' a' w',K fr' h'→Mv σ h w σ' h' w'→VRels σ' fr' a'.tmps.toList→a'.defers=a.defers→wpOpsIn (FR rd) 0 C.P ops Q rest a' w')→wpOpsIn (FR rd) 0 C.P ops Q (ord++rest) a w:=by
 intro ord
 induction ord with
 |nil=>
  intro σ fr a h w K hy hfr s hk hQ;exact hQ fr h σ a w hk (.refl s) hfr rfl
 |cons i r ih=>
  intro σ fr a h w K hy hfr s hk hQ;unfold runOrd at hk;show wpOpsIn (FR rd) 0 C.P ops Q (i::(r++rest)) a w;unfold wpOpsIn
  split at hk
  ·exact hk.elim
  ·rename_i o ho;simp only [ho]
   split at hk
   ·rename_i hw;rw [wantA_sound hfr hw];refine op_sound ok hy hfr s (slot i) o hk fun v x σ' h' w' k m hv=>?_;refine ih (hy.mono m.le) (putF_rel (hfr.mono m.le) hv) m.sim k fun fr' h'' σ'' a' w'' k2 m2 hv2 hd=>?_;exact hQ fr' h'' σ'' a' w'' k2 (m.trans m2) hv2 (hd.trans (by cases o.dst<;>rfl))
   ·rename_i hw;rw [wantA_sound hfr hw];simp only [Bool.false_eq_true,if_false];refine ⟨fun _ _=>trivial,?_⟩;refine ih hy (putF_rel hfr undef_rel) s hk fun fr' h'' σ'' a' w'' k2 m2 hv2 hd=>?_;exact hQ fr' h'' σ'' a' w'' k2 m2 hv2 (hd.trans (by cases o.dst<;>rfl))
   ·exact hk.elim
theorem runP_sound {C:Ctx} (ok:COk C) {rd:Option Nat} {ops:Array Oper} {slots:List (Nat×Nat)} {pan:List Nat} {KP:Nat→Value→List AV→Heap→Prop} {Q:Exit→Act→World→Prop}:∀(ord:List Nat) {σ:Sg} {fr:List AV} {a:Act} {h:Heap} {w:World} {K:List AV→Heap→Prop},
  YOk C σ→VRels σ fr a.tmps.toList→Sim σ h w→runP C ops slots pan KP ord fr h K→
  (∀fr' h' σ' a' w',K fr' h'→Mv σ h w σ' h' w'→VRels σ' fr' a'.tmps.toList→a'.defers=a.defers→Q .normal a' w')→
  (∀t v fr' h' σ' a' w',KP t v fr' h'→Mv σ h w σ' h' w'→VRels σ' fr' a'.tmps.toList→a'.defers=a.defers→Q (AE.pan t v).toExit a' w')→wpOpsIn (FR rd) 0 C.P ops Q ord a w:=by
 intro ord
 induction ord with
 |nil=>
  intro σ fr a h w K hy hfr s hk hQ hP;exact hQ fr h σ a w hk (.refl s) hfr rfl
 |cons i r ih=>
  intro σ fr a h w K hy hfr s hk hQ hP;have hk:stepP C ops slots pan KP i (fun fr h=>runP C ops slots pan KP r fr h K) fr h:=hk;unfold stepP at hk
  split at hk
  ·rw [stepR_eq] at hk;refine runOrd_then (ord:=[i]) (rest:=r) ok hy hfr s (runE_ord hk) fun fr' h' σ' a' w' k m v d=>?_;refine ih (hy.mono m.le) v m.sim k (fun fr2 h2 σ2 a2 w2 k2 m2 v2 d2=>hQ fr2 h2 σ2 a2 w2 k2 (m.trans m2) v2 (d2.trans d)) fun t x fr2 h2 σ2 a2 w2 k2 m2 v2 d2=>hP t x fr2 h2 σ2 a2 w2 k2 (m.trans m2) v2 (d2.trans d)
  ·split at hk
   ·exact hk.elim
   ·rename_i o ho;unfold panK at hk
    split at hk
    ·exact hk.elim
    ·rename_i hg;unfold wpOpsIn;simp only [ho];have hw:wantA ops o fr=some true:=by unfold wantA;rw [hg]
     rw [wantA_sound hfr hw];simp only [if_true];have hr:=evl_rel (a:=a) s.gl hfr
     split at hk
     ·rename_i x hop
      split at hk
      ·rename_i t v he;have hx:=hr x;rw [he] at hx;generalize hv:a.eval x=u at hx;cases hx;refine ⟨fun _ _=>trivial,?_⟩;rw [Oper.semAt_eq _ _ _ (by intro c';rw [hop];simp)];have hrun:(execOp a.eval o).run C.P w= .halt (.panic (.iface t v)) w:=by
        obtain ⟨dst,op,type,pos,after,guard⟩:=o;simp only at hop;subst hop;simp [execOp,hv,Instr.panic]
       rw [hrun];exact hP t v fr h σ a w hk (.refl s) hfr rfl
      ·exact hk.elim
     ·rename_i c hop
      split at hk
      ·rename_i f args hf;refine ⟨fun _ _=>trivial,?_⟩;rw [Oper.semAt_eq _ _ _ (by intro c';rw [hop];simp)];obtain ⟨vs,h1,h2⟩:=fnOf_sound ok hr hf o hop w;rw [h1,Oper.uponIn_enter];refine ⟨(fun x=>by cases x),callsFR ((hk.use σ w vs s h2).mono ?_)⟩;rintro e w' (⟨v,rfl,σ',h',x,k,m,hv⟩|⟨t,v,rfl,σ',h',k,m⟩)
       ·simp only [forceV_eq,forceR_eq,forceHR_eq] at k;have mt:=m.trans (m.sim.forget (h':=h'.trunc h.st.length) fun i o ho=>.inr (Heap.trunc_get ho));refine ih (hy.mono mt.le) (putF_rel (hfr.mono mt.le) hv) mt.sim k (fun fr2 h2 σ2 a2 w2 k2 m2 v2 d2=>hQ fr2 h2 σ2 a2 w2 k2 (mt.trans m2) v2 (d2.trans (by cases o.dst<;>rfl))) fun t x fr2 h2 σ2 a2 w2 k2 m2 v2 d2=>hP t x fr2 h2 σ2 a2 w2 k2 (mt.trans m2) v2 (d2.trans (by cases o.dst<;>rfl))
       ·have mt:=m.trans (m.sim.forget (h':=h'.trunc h.st.length) fun i o ho=>.inr (Heap.trunc_get ho));exact hP t v fr _ σ' a w' k mt (hfr.mono mt.le) rfl
      ·exact hk.elim
     ·exact hk.elim
def regP (C:Ctx) (A:RAnn) (ops:Array Oper) (draw:Bool) (fr:List AV) (h:Heap) (K:List AV→Heap→Prop) (KP:Nat→Value→List AV→Heap→Prop):Prop:=
 match draw with
 |true=>False
 |false=>forceR (match A.live with|some l=>maskF 0 l fr|none=>fr) fun fr=>forceHR (match A.keep with|some l=>maskH 0 l h|none=>h) fun h=>
  liftK A.lifts fr h fun fr h=>forceHR (holesH A.slots ops h) fun h=>
   forceR (List.range ops.size) fun ord=>runP C ops A.slots A.pan KP ord fr h fun fr h=>frzSlots A.frz fr h fun fr h=>movSlots A.mv fr h K
def aexec (C:Ctx) (A:Ann):Code→List AV→Heap→(AE→List AV→Heap→Prop)→Prop
 | .skip,fr,h,K=>K .normal fr h
 | .region id ops draw,fr,h,K=>(match (A id).pan with
  | []=>regK C (A id) ops draw fr h fun fr h=>K .normal fr h
  |_::_=>regP C (A id) ops draw fr h (fun fr h=>K .normal fr h) fun t v fr h=>K (.pan t v) fr h)
 | .seq a b,fr,h,K=>aexec C A a fr h fun e fr h=>match e with
  | .normal=>aexec C A b fr h K
  | .exit id=>K (.exit id) fr h
  | .ret=>K .ret fr h
  | .pan t v=>K (.pan t v) fr h
 | .cond c x y,fr,h,K=>match evl fr c with
  | .bool t=>(match t with|true=>aexec C A x fr h K|false=>aexec C A y fr h K)
  |_=>False
 | .block id b,fr,h,K=>aexec C A b fr h fun e fr h=>match e with
  | .exit id'=>if id'=id then K .normal fr h else K (.exit id') fr h
  | .normal=>K .normal fr h
  | .ret=>K .ret fr h
  | .pan t v=>K (.pan t v) fr h
 | .loop b,fr,h,K=>WK C (.loop b) fr h K
 | .rangeFunc f ps assign body,fr,h,K=>WK C (.rangeFunc f ps assign body) fr h K
 | .exit id,fr,h,K=>K (.exit id) fr h
 | .ret,fr,h,K=>K .ret fr h
 |_,_,_,_=>False
theorem regK_sound {C:Ctx} (ok:COk C) (hm:C.P.follows .mixedOrders=true) {A:RAnn} {id:Nat} {ops:Array Oper} {draw:Bool} {fr:List AV} {h:Heap} {K:List AV→Heap→Prop} (hk:regK C A ops draw fr h K):
  WK C (.region id ops draw) fr h fun e fr h=>e= .normal∧K fr h:=by
 refine ⟨fun rd B σ w a Q hrd hy hB s hf hd hQ=>?_⟩;unfold regK at hk;rw [forceL_eq,forceH_eq] at hk;generalize hfr1:(match A.live with|some l=>maskF 0 l fr|none=>fr)=fr1 at hk;generalize hh1:(match A.keep with|some l=>maskH 0 l h|none=>h)=h1 at hk;have hf1:VRels σ fr1 a.tmps.toList:=by
  subst hfr1
  split
  ·exact maskF_rel _ _ _ _ hf
  ·exact hf
 have m1:Mv σ h w σ h1 w:=by
  subst hh1
  split
  ·exact s.forget fun i o x=>maskH_get _ _ _ _ _ x
  ·exact .refl s
 obtain ⟨σ2,fr2,h2,hk2,m2,hf2⟩:=liftK_sound _ hf1 m1.sim hk;rw [forceH_eq] at hk2;have m3:Mv σ2 h2 w σ2 (holesH A.slots ops h2) w:=m2.sim.forget fun i o x=>holesH_get ops _ _ _ _ x;have m123:=(m1.trans m2).trans m3;have fin:∀{w0:World},Mv σ h w σ2 (holesH A.slots ops h2) w0→∀fr' h' σ' a' w',(frzSlots A.frz fr' h' fun fr h=>movSlots A.mv fr h K)→Mv σ2 (holesH A.slots ops h2) w0 σ' h' w'→VRels σ' fr' a'.tmps.toList→a'.defers=a.defers→Q .normal a' w':=by
  intro w0 m0 fr' h' σ' a' w' k m hv hd';obtain ⟨σ4,fr4,h4,k4,m4,hv4⟩:=frzSlots_sound _ hv m.sim k;obtain ⟨σ5,fr5,h5,k5,m5,hv5⟩:=movSlots_sound _ hv4 m4.sim k4;exact hQ .normal fr5 h5 σ5 a' w' ⟨rfl,k5⟩ (((m0.trans m).trans m4).trans m5) hv5 (by rw [hd'];exact hd.mono (((m0.trans m).trans m4).trans m5).le)
 cases draw with
 |false=>
  have hrun:=runE_ord hk2;exact wpIn_region (runOrd_sound ok _ (hy.mono m123.le) hf2 m3.sim hrun (fin m123))
 |true=>
  cases hal:A.plan with
  |none=>
   simp only [hal,forceL_eq] at hk2
   split at hk2
   ·rename_i hdo;exact draw_sound (C:=C.g A.dg) ⟨ok.tok,ok.fn⟩ hm hdo (hy.mono m123.le) hf2 m3.sim (runE_ord hk2) (fin m123)
   ·exact hk2.elim
  |some p=>
   simp only [hal] at hk2
   split at hk2
   ·rename_i hdo;exact draw_sound2 (C:=C.g A.dg) ⟨ok.tok,ok.fn⟩ hm hdo (hy.mono m123.le) hf2 m3.sim (planE_run hk2) (fin m123)
   ·exact hk2.elim
theorem regP_sound {C:Ctx} (ok:COk C) {A:RAnn} {id:Nat} {ops:Array Oper} {draw:Bool} {fr:List AV} {h:Heap} {K:AE→List AV→Heap→Prop} (hk:regP C A ops draw fr h (fun fr h=>K .normal fr h) fun t v fr h=>K (.pan t v) fr h):
  WK C (.region id ops draw) fr h K:=by
 refine ⟨fun rd B σ w a Q hrd hy hB s hf hd hQ=>?_⟩;cases draw with
 |true=>exact hk.elim
 |false=>
 simp only [regP,forceR_eq,forceHR_eq] at hk;generalize hfr1:(match A.live with|some l=>maskF 0 l fr|none=>fr)=fr1 at hk;generalize hh1:(match A.keep with|some l=>maskH 0 l h|none=>h)=h1 at hk;have hf1:VRels σ fr1 a.tmps.toList:=by
  subst hfr1
  split
  ·exact maskF_rel _ _ _ _ hf
  ·exact hf
 have m1:Mv σ h w σ h1 w:=by
  subst hh1
  split
  ·exact s.forget fun i o x=>maskH_get _ _ _ _ _ x
  ·exact .refl s
 obtain ⟨σ2,fr2,h2,hk2,m2,hf2⟩:=liftK_sound _ hf1 m1.sim hk;have m3:Mv σ2 h2 w σ2 (holesH A.slots ops h2) w:=m2.sim.forget fun i o x=>holesH_get ops _ _ _ _ x;have m123:=(m1.trans m2).trans m3;refine wpIn_region (runP_sound ok _ (hy.mono m123.le) hf2 m3.sim hk2 (fun fr' h' σ' a' w' k m hv hd'=>?_) fun t v fr' h' σ' a' w' k m hv hd'=>?_)
 ·obtain ⟨σ4,fr4,h4,k4,m4,hv4⟩:=frzSlots_sound _ hv m.sim k;obtain ⟨σ5,fr5,h5,k5,m5,hv5⟩:=movSlots_sound _ hv4 m4.sim k4;exact hQ .normal fr5 h5 σ5 a' w' k5 (((m123.trans m).trans m4).trans m5) hv5 (by rw [hd'];exact hd.mono (((m123.trans m).trans m4).trans m5).le)
 ·exact hQ (.pan t v) fr' h' σ' a' w' k (m123.trans m) hv (by rw [hd'];exact hd.mono (m123.trans m).le)
theorem aexec_sound {C:Ctx} (ok:COk C) (hm:C.P.follows .mixedOrders=true) {A:Ann}:∀{c:Code} {fr:List AV} {h:Heap} {K:AE→List AV→Heap→Prop},aexec C A c fr h K→WK C c fr h K:=by
 intro c
 induction c with
 |skip=>intro fr h K hk;refine ⟨fun rd B σ w a Q hrd hy hB s hf hd hQ=>?_⟩;exact wpIn_skip (hQ .normal fr h σ a w hk (.refl s) hf hd)
 |region id ops draw=>
  intro fr h K hk;unfold aexec at hk
  split at hk
  ·refine ⟨fun rd B σ w a Q hrd hy hB s hf hd hQ=>?_⟩;exact (regK_sound ok hm (id:=id) hk).use rd B σ w a Q hrd hy hB s hf hd fun e fr' h' σ' a' w' ⟨e1,e2⟩ m v d=>by subst e1;exact hQ _ _ _ _ _ _ e2 m v d
  ·exact regP_sound ok hk
 |seq x y ihx ihy=>
  intro fr h K hk;refine ⟨fun rd B σ w a Q hrd hy hB s hf hd hQ=>?_⟩;refine wpIn_seq ((ihx hk).use rd B σ w a _ hrd hy hB s hf hd fun e fr' h' σ' a' w' k m v d=>?_);cases e with
  |normal=>
   exact (ihy k).use rd B σ' w' a' Q hrd (hy.mono m.le) (Nat.le_trans hB m.size) m.sim v d fun e2 fr2 h2 σ2 a2 w2 k2 m2 v2 d2=>hQ e2 fr2 h2 σ2 a2 w2 k2 (m.trans m2) v2 d2
  |exit id=>exact hQ (.exit id) fr' h' σ' a' w' k m v d
  |ret=>exact hQ .ret fr' h' σ' a' w' k m v d
  |pan pt pv=>exact hQ (.pan pt pv) fr' h' σ' a' w' k m v d
 |cond c x y ihx ihy=>
  intro fr h K hk;refine ⟨fun rd B σ w a Q hrd hy hB s hf hd hQ=>?_⟩;unfold aexec at hk
  split at hk
  ·rename_i t ht;have hr:=evl_rel s.gl hf c;rw [ht] at hr;have hv:a.eval c= .bool t:=by
    generalize a.eval c=u at hr;cases hr;rfl
   cases t with
   |true=>exact wpIn_cond_true hv ((ihx hk).use rd B σ w a Q hrd hy hB s hf hd hQ)
   |false=>exact wpIn_cond_false hv ((ihy hk).use rd B σ w a Q hrd hy hB s hf hd hQ)
  ·exact hk.elim
 |block id b ih=>
  intro fr h K hk;refine ⟨fun rd B σ w a Q hrd hy hB s hf hd hQ=>?_⟩;refine wpIn_block ((ih hk).use rd B σ w a _ hrd hy hB s hf hd fun e fr' h' σ' a' w' k m v d=>?_);cases e with
  |normal=>exact hQ .normal fr' h' σ' a' w' k m v d
  |exit id'=>
   show (if id'=id then Q .normal a' w' else Q (.exit id') a' w');simp only at k
   split
   ·rename_i e;rw [if_pos e] at k;exact hQ .normal fr' h' σ' a' w' k m v d
   ·rename_i e;rw [if_neg e] at k;exact hQ (.exit id') fr' h' σ' a' w' k m v d
  |ret=>exact hQ .ret fr' h' σ' a' w' k m v d
  |pan pt pv=>exact hQ (.pan pt pv) fr' h' σ' a' w' k m v d
 |loop b ih=>intro fr h K hk;exact hk
 |rangeFunc f ps assign body iha ihb=>intro fr h K hk;exact hk
 |exit id=>intro fr h K hk;refine ⟨fun rd B σ w a Q hrd hy hB s hf hd hQ=>?_⟩;exact wpIn_exit (hQ (.exit id) fr h σ a w hk (.refl s) hf hd)
 |ret=>intro fr h K hk;refine ⟨fun rd B σ w a Q hrd hy hB s hf hd hQ=>?_⟩;exact wpIn_ret (hQ .ret fr h σ a w hk (.refl s) hf hd)
 |_=>intro fr h K hk;exact hk.elim
end Go.Ab
