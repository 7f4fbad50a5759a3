/-
  What is proved here serves the law's text: each part says its own claim and its conditions. No condition is left open.
-/
import Derived.Test.YtohegnfjdfcebaaGreatDoorKM
set_option maxHeartbeats 32000000
set_option maxRecDepth 100000
set_option linter.unusedSimpArgs false
set_option linter.unusedVariables false

namespace Go.Ab
def resK (ti:TI) (fr:List AV) (h:Heap):List ResultVar→(List AV→Prop)→Prop
 | [],K=>K []
 | .tmp t::r,K=>resK ti fr h r fun vs=>K (fr.getD t .u::vs)
 | .cell a t::r,K=>readK ti (evl fr) h (.load t (.tmp a)) fun v=>resK ti fr h r fun vs=>K (v::vs)
def resV:List AV→AV
 | [v]=>v
 |vs=>.tup vs
def resOne (tmps:Array Value):ResultVar→Sem Value
 | .tmp t=>pure (tmps.getD t undef)
 | .cell a t=>do loadVar t (←asAddr (tmps.getD a undef))
theorem results_eq (fn:Func) (tmps:Array Value):results fn tmps=(do
  let vs ←fn.results.mapM (resOne tmps)
  pure (if h:vs.size=1 then vs[0] else .tuple vs)):=rfl
theorem resK_sound {C:Ctx} (ok:COk C) {σ:Sg} {fr:List AV} {h:Heap} {w:World} {tmps:Array Value} (s:Sim σ h w) (hf:VRels σ fr tmps.toList):∀(l:List ResultVar) {K:List AV→Prop},resK C.ti fr h l K→
  ∃vs rs,(l.mapM (resOne tmps)).run C.P w= .ok vs w∧VRels σ rs vs∧K rs:=by
 have hev:∀t,VRel σ (fr.getD t .u) (tmps.getD t undef):=fun t=>evl_rel (a:={ tmps:=tmps,defers:=[] }) s.gl hf (.tmp t);intro l
 induction l with
 |nil=>intro K hk;exact ⟨[],[],by simp,.nil,hk⟩
 |cons x l ih=>
  intro K hk;cases x with
  |tmp t=>
   obtain ⟨vs,rs,h1,h2,h3⟩:=ih hk;refine ⟨tmps.getD t undef::vs,fr.getD t .u::rs,?_,VRels.cons (hev t) h2,h3⟩;simp only [List.mapM_cons,Sem.run_bind,resOne,Sem.run_pure,Result.andThen_ok,h1]
  |cell a t=>
   unfold resK at hk;have hr := evl_rel (a := { tmps := tmps, defers := [] }) s.gl hf;obtain ⟨v, r, h1, h2, h3⟩ := read_sound ok.tok hr s ⟨none, .load t (.tmp a), 0, "", #[], none⟩ hk;obtain ⟨vs, rs, h4, h5, h6⟩ := ih h3;have hl : (resOne tmps (.cell a t)).run C.P w = .ok v w := by
    simp only [execOp,Sem.run_bind,Instr.loadAt,Act.eval] at h1;simp only [resOne,Sem.run_bind];generalize tmps.getD a undef=u at h1;cases u with
    |pointer p=>
     cases p with
     |none=>simp [Instr.sureAddr] at h1
     |some p=>
      simp only [Instr.sureAddr,Sem.run_pure,Result.andThen_ok] at h1;simp only [asAddr,Sem.run_bind,Sem.run_pure,Result.andThen_ok];cases hq:(loadVar t p).run C.P w with
      |ok q w2=>rw [hq] at h1;simp only [Result.andThen_ok,Sem.run_pure] at h1;cases h1;rfl
      |halt q w2=>rw [hq] at h1;simp at h1
    |_=>simp [Instr.sureAddr] at h1
   refine ⟨v::vs,r::rs,?_,VRels.cons h2 h5,h6⟩;simp only [List.mapM_cons,Sem.run_bind,hl,Result.andThen_ok,h4,Sem.run_pure]
theorem results_sound {C:Ctx} (ok:COk C) {σ:Sg} {fr:List AV} {h:Heap} {w:World} {tmps:Array Value} (s:Sim σ h w) (hf:VRels σ fr tmps.toList) (fn:Func) {K:List AV→Prop} (hk:resK C.ti fr h fn.results.toList K):
  ∃v rs,(results fn tmps).run C.P w= .ok v w∧VRel σ (resV rs) v∧K rs:=by
 obtain ⟨vs,rs,h1,h2,h3⟩:=resK_sound ok s hf _ hk;have hrun:(results fn tmps).run C.P w= .ok (if h:vs.toArray.size=1 then vs.toArray[0] else .tuple vs.toArray) w:=by
  rw [results_eq,Array.mapM_eq_mapM_toList];simp only [Sem.run_bind,Sem.run_map,h1,Result.andThen_ok,Sem.run_pure]
 refine ⟨_,rs,hrun,?_,h3⟩;have hl:=h2.1
 match rs,vs,hl,h2 with
 | [],[],_,_=>exact .tup (by simp) (fun i c v x=>by simp at x)
 | [r],[v],_,h2=>simpa [resV] using h2.2 0 r v rfl rfl
 |r::r'::rs,v::v'::vs,hl,h2=>
  have:¬((v::v'::vs).toArray.size=1):=by simp
  rw [dif_neg this];exact .tup (by simpa using hl) (fun i c u x y=>h2.2 i c u x (by simpa using y))
def frame0 (args:List AV) (ntmps:Nat):List AV:=args++List.replicate (ntmps-args.length) .u
def heap0 (h:Heap) (n:Nat):Heap:=⟨h.st++List.replicate n .hole,h.dy⟩
theorem Sim.grow {σ:Sg} {h:Heap} {w:World} (s:Sim σ h w) (n:Nat):Mv σ h w σ (heap0 h n) w:=by
 have hg:∀(i:Id) (o:AObj),(heap0 h n)[i]? =some o→o= .hole∨h[i]? =some o:=by
  intro i o ho;cases i with
  |d k=>exact .inr ho
  |s k=>
   have ho:(h.st++List.replicate n .hole)[k]? =some o:=ho;rw [List.getElem?_append] at ho
   split at ho
   ·exact .inr ho
   ·rw [List.getElem?_replicate] at ho
    split at ho
    ·exact .inl (Option.some.inj ho).symm
    ·cases ho
 exact s.forget hg
theorem leavesM {C:Ctx} {fn:Func} {tmps:Array Value} {R:Ending→World→Prop} {σ:Sg} {h:Heap} {w:World} {fr':List AV} {h':Heap} (hlow:∀b o,σ.RM b=some o→w.heap.size≤b→False)
  (hR:∀σ' w',Mv σ h w σ' h' w'→VRels σ' fr' tmps.toList→∃v,(results fn tmps).run C.P w'= .ok v w'∧R (.returned v) w'):∀(l:List Nat) (σ':Sg) (w':World),l.Nodup→(∀D∈l,w.heap.size≤D∧σ'.RM D=some (.deferred (some [])))→
  Mv σ h w σ' h' w'→VRels σ' fr' tmps.toList→LeavesInM (FR none) 0 C.P fn tmps R (l.map markD) .returning w':=by
 intro l
 induction l with
 |nil=>intro σ' w' _ _ m v;exact hR σ' w' m v
 |cons D l ih=>
  intro σ' w' hn hd m v;obtain ⟨d1,d2⟩:=hd D (by simp);obtain ⟨r1,r2⟩:=m.sim.rm D _ d2;have hDl:=(Array.getElem?_eq_some_iff.1 r1).1;have nl:¬Live σ' h' D:=Live.notRec m.sim r1 rfl;refine ⟨by simp,.inl ⟨D,_,rfl,run_takeDeferred r1,?_⟩⟩
  let R1:Nat→Option Obj:=fun b=>if b=D then none else σ'.RM b
  have oth:∀b,b≠D→(w'.putObj D (.deferred none)).heap[b]? =w'.heap[b]?:=fun b hb=>World.putObj_heap_other hb;have s1:Sim (σ'.withRM R1) h' (w'.putObj D (.deferred none)):=m.sim.withRM R1
   (fun b hb=>oth b (by rintro rfl;exact nl hb)) (fun b hb=>oth b (by rintro rfl;exact hb (m.sim.notFM r1 rfl))) fun b o x=>by
    have x:(if b=D then none else σ'.RM b)=some o:=x
    split at x
    ·cases x
    ·rename_i hb;rw [oth b hb];exact m.sim.rm b o x
  have hnl:=List.nodup_cons.1 hn;refine ih (σ'.withRM R1) _ hnl.2 (fun D' h1=>⟨(hd D' (by simp [h1])).1,?_⟩) ⟨⟨m.le.ρ,m.le.FM,fun b o x=>?_⟩,s1,m.os,m.tape,m.output,by rw [World.putObj_size];exact m.size,fun b hb hnl=>?_,m.live,m.new⟩ (v.mono0 (σ'.withRM_le0 R1))
  ·show (if D'=D then none else σ'.RM D')=_;rw [if_neg (by rintro rfl;exact hnl.1 h1)];exact (hd D' (by simp [h1])).2
  ·show (if b=D then none else σ'.RM b)=some o;rw [if_neg]
   ·exact m.le.RM _ _ x
   ·rintro rfl;exact hlow b o x d1
  ·rw [oth b (by omega)];exact m.block b hb hnl
theorem acallsC_of {C:Ctx} (ok:COk C) (hm:C.P.follows .mixedOrders=true) {A:Ann} {f:FuncId} {fn:Func} {c:Code} (n:Nat) (hf:C.P.funcs[f]? =some fn) (hb:fn.body=some c) {args:List AV} {h:Heap} {K:AV→Heap→Prop}
  (hk:aexec C A c (frame0 args fn.ntmps) (heap0 h n) fun e fr h'=>match e with
   | .normal| .ret=>resK C.ti fr h' fn.results.toList fun vs=>K (resV vs) h'
   | .pan _ _=>False
   | .exit _=>False) {σ:Sg} {w:World} {vs:Array Value} (hy:YOk C σ) (s:Sim σ h w) (hv:VRels σ args vs.toList):
  Calls C.P f vs w fun e w'=>∃v,e= .returned v∧∃σ' h' r,K r h'∧Mv σ h w σ' h' w'∧VRel σ' r v:=by
 refine callsFR' (rd:=none) (n:=0) (callsIn_of_wp_marks hf hb trivial ?_);have m0:=s.grow n;have hl:args.length=vs.size:=by have:=hv.1;simpa using this
 have hfr:VRels σ (frame0 args fn.ntmps) (vs++Array.replicate (fn.ntmps-vs.size) undef).toList:=by
  simp only [frame0,Array.toList_append,Array.toList_replicate];refine VRels.append hv ⟨by simp [hl],fun i a v x y=>?_⟩;rw [List.getElem?_replicate] at x
  split at x
  ·cases x;exact .u
  ·cases x
 refine (aexec_sound ok hm hk).use none ⟨w.heap.size,[]⟩ σ w { tmps:=vs++Array.replicate (fn.ntmps-vs.size) undef,defers:=[] } _ (fun _=>rfl) hy (Nat.le_refl _) m0.sim hfr .nil fun e fr' h' σ' a' w' k m hv' hd'=>?_;have fin:resK C.ti fr' h' fn.results.toList (fun vs=>K (resV vs) h')→LeavesInM (FR none) 0 C.P fn a'.tmps (fun e w'=>∃v,e= .returned v∧∃σ' h' r,K r h'∧Mv σ h w σ' h' w'∧VRel σ' r v) a'.defers .returning w':=by
  intro k;obtain ⟨l,e1,e2,e3⟩:=hd';rw [e1,List.append_nil];refine leavesM (σ:=σ) (h:=heap0 h n) (w:=w) (fr':=fr') (h':=h') (fun b o x hb=>by have:=(Array.getElem?_eq_some_iff.1 (s.rm b o x).1).1;omega) (fun σ2 w2 m2 v2=>?_) l σ' w' e2 e3 m hv';obtain ⟨v,rs,h1,h2,h3⟩:=results_sound ok m2.sim v2 fn k;exact ⟨v,h1,v,rfl,σ2,h',_,h3,m0.trans m2,h2⟩
 cases e with
 |normal=>exact fin k
 |ret=>exact fin k
 |pan t v=>exact k.elim
 |exit id=>exact k.elim
theorem acalls_of {C:Ctx} (ok:COk C) (hm:C.P.follows .mixedOrders=true) {A:Ann} {f:FuncId} {fn:Func} {c:Code} (n:Nat) (hf:C.P.funcs[f]? =some fn) (hb:fn.body=some c) {args:List AV} {h:Heap} {K:AV→Heap→Prop}
  (hk:aexec C A c (frame0 args fn.ntmps) (heap0 h n) fun e fr h'=>match e with
   | .normal| .ret=>resK C.ti fr h' fn.results.toList fun vs=>K (resV vs) h'
   | .pan _ _=>False
   | .exit _=>False) (hy:C.yl=none:=by rfl):ACalls C.P f args h K:=
 ⟨fun σ w vs s hv=>acallsC_of ok hm n hf hb hk (YOk.none hy) s hv⟩

def kOf:TypeDesc→Option TK
 | .int k=>some (.int k)
 | .bool=>some .bool
 | .string=>some .str
 | .pointer _=>some .ptr
 | .func .. =>some .func
 | .slice e=>some (.slice e)
 | .array n e=>some (.arr n e)
 | .struct fs=>some (.struct (fs.toList.map fun f=>(f.offset,f.type)))
 | .map k v=>some (.map k v)
 | .interface _=>some .other
 |_=>none
def tkAgg:TK→Bool
 | .arr .. | .struct _=>true
 |_=>false
def tdOf (P:Program) (t:Nat):Option TD:=
 match P.info? t with
 |some i=>match P.underlying t,i.zero with
  |some u,some z=>match kOf u,z.cells.toList.mapM ofVal with
   |some k,some zs=>if z.cells.size=i.size∧zs.length=i.size∧(tkAgg k||i.size==1)=true∧(isAggV z==tkAgg k)=true then some ⟨k,i.size,i.bytes,zs,flatB P t,tkAgg k&&(P.keyType t&&decide (t<P.types.size))⟩ else none
   |_,_=>none
  |_,_=>none
 |none=>none
theorem kfits_kOf {u:TypeDesc} {k:TK} (h:kOf u=some k):kfits (some u) k=true:=by
 unfold kOf at h
 split at h<;>cases h<;>simp [kfits]
theorem mapM_ofVal:∀{l:List Value} {zs:List AV},l.mapM ofVal=some zs→∀(j:Nat) (a:AV),zs[j]? =some a→∃v,l[j]? =some v∧ofVal v=some a:=by
 intro l
 induction l with
 |nil=>intro zs h j a hj;simp at h;subst h;simp at hj
 |cons x l ih=>
  intro zs h j a hj;rw [List.mapM_cons] at h;cases hx:ofVal x with
  |none=>rw [hx] at h;cases h
  |some b=>
   rw [hx] at h;cases hl:l.mapM ofVal with
   |none=>rw [hl] at h;cases h
   |some bs=>
    rw [hl] at h;cases h;cases j with
    |zero=>simp at hj;subst hj;exact ⟨x,rfl,hx⟩
    |succ j=>simp at hj;simpa using ih hl j a hj
theorem tdOf_ok {P:Program} (hl:laidOutB P=true) (hs:P.types.size+2≤10000) {t:Nat} {d:TD} (h:tdOf P t=some d):DOk P t d:=by
 unfold tdOf at h
 split at h
 ·rename_i i hi
  split at h
  ·rename_i u z hu hz
   split at h
   ·rename_i k zs hk hzs
    split at h
    ·rename_i hc;obtain ⟨c1,c2,c3,c4⟩:=hc;cases h;have htk:∀k',k'=k→tkAgg k'=(match k' with| .arr .. | .struct _=>true|_=>false):=fun k' _=>by cases k'<;>rfl
     refine ⟨⟨i,z,hi,rfl,rfl,hz,c1,c2,fun j a hj=>?_⟩,by rw [hu];exact kfits_kOf hk,fun hag=>?_,?_,fun hky=>?_,fun i' z' e1 e2=>?_⟩
     ·obtain ⟨v,h1,h2⟩:=mapM_ofVal hzs j a hj;exact ⟨v,by simpa using h1,h2⟩
     ·simp only [TD.isAgg] at hag;simp only [Bool.or_eq_true,beq_iff_eq] at c3
      rcases c3 with c3|c3
      ·unfold tkAgg at c3
       split at c3
       ·simp at hag
       ·simp at hag
       ·cases c3
      ·exact c3
     ·exact fun x=>x
     ·simp only [Bool.and_eq_true] at hky;have hw:(match P.underlying t with|some (.array _ _)|some (.struct _)=>true|_=>false)=true:=by
       rw [hu];have h1:=hky.1;unfold kOf at hk
       split at hk<;>cases hk<;>first|rfl|cases h1
      exact ⟨deep_law_gate hl hs (of_decide_eq_true hky.2.2) hky.2.1 hw,hky.2.1,hw⟩
     ·rw [hi] at e1;cases e1;rw [hz] at e2;cases e2;have:=eq_of_beq c4;rw [this];rfl
    ·cases h
   ·cases h
  ·cases h
 ·cases h
def tiTab (l:List (Option TD)):TI:=fun t=>match l[t]? with|some d=>d|none=>none
theorem tiTab_ok {P:Program} (hl:laidOutB P=true) (hs:P.types.size+2≤10000) {l:List (Option TD)} {n:Nat} (h:l=(List.range n).map (tdOf P)):TOk P (tiTab l):=by
 intro t d hd;subst h;unfold tiTab at hd;rw [List.getElem?_map] at hd;cases hr:(List.range n)[t]? with
 |none=>rw [hr] at hd;cases hd
 |some k=>
  rw [hr] at hd;obtain ⟨h1,h2⟩:=List.getElem?_eq_some_iff.1 hr;simp at h2;subst h2;exact tdOf_ok hl hs hd
def fnFine (P:Program) (f:FuncId):Bool:=match P.funcs[f]? with
 | some fn => !(fn.name == "runtime.NumGoroutine") && !fn.body.isNone
 |none=>false
theorem cok_of {C:Ctx} (l:List FuncId) (h1:TOk C.P C.ti) (h2:l.all (fnFine C.P)=true) (h3:∀f,C.fnok f=true→f∈l):COk C:=by
 refine ⟨h1,fun f hf=>?_⟩;have:=List.all_eq_true.1 h2 f (h3 f hf);unfold fnFine at this
 split at this
 ·rename_i fn hfn;simp only [Bool.and_eq_true,Bool.not_eq_true'] at this;exact ⟨fn,hfn,this.1,this.2⟩
 ·cases this
end Go.Ab
