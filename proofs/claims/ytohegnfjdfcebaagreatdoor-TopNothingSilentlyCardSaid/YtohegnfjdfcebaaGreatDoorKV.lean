/-
  What is proved here serves the law's text: each part says its own claim and its conditions. No condition is left open.
-/
import Derived.Test.YtohegnfjdfcebaaGreatDoorKU
import Derived.RecoverIn
set_option maxHeartbeats 32000000
set_option maxRecDepth 100000
set_option linter.unusedSimpArgs false
set_option linter.unusedVariables false

namespace Go.Ab
structure RowsF (σ σ':Sg) (rows rows':List (List AV)):Prop where
 len:rows.length≤rows'.length
 row:∀(i:Nat) (r':List AV),rows'[i]? =some r'→∃r,rows[i]? =some r∧r.length=r'.length∧∀(j:Nat) (c':AV),r'[j]? =some c'→∃c,r[j]? =some c∧∀u,VRel σ c u→VRel σ'.pure c' u
structure FzS (σ σ':Sg) (h:Heap):Prop where
 le:∀b cs,σ.FM b=some cs→σ'.FM b=some cs
 obj:∀(id:Id) (ep:Nat) (rows rows':List (List AV)),h[id]? =some (.vec ep rows)→RowsF σ σ' rows rows'→∀(sz off len:Nat) (lim:Bool) (v:Value),VRel σ (.oslc id ep sz off len lim) v→VRel σ'.pure (.lslc sz rows' off len lim) v
 ptr:∀(id:Id) (ep:Nat) (rows rows':List (List AV)),h[id]? =some (.vec ep rows)→RowsF σ σ' rows rows'→∀(sz i off:Nat) (v:Value),VRel σ (.optr id ep sz i off) v→VRel σ'.pure (.lptr sz rows' i off) v
theorem FzS.pure {σ σ':Sg} {h:Heap} (x:FzS σ σ' h) {a:AV} {v:Value} (hp:a.isPure=true) (hv:VRel σ a v):VRel σ'.pure a v:=(hv.isPure hp).mono0 ⟨fun _ _ _ y=>by simp at y,x.le⟩
theorem FzS.pure1 {σ σ':Sg} {h:Heap} (x:FzS σ σ' h) {a:AV} {v:Value} (hp:a.pure1=true) (hv:VRel σ a v):VRel σ'.pure a v:=(hv.pure1 hp).mono0 ⟨fun _ _ _ y=>by simp at y,x.le⟩
theorem Sim.freezeAll {σ:Sg} {h:Heap} {w:World} (s:Sim σ h w):∃σ',Sim σ' Heap.nil w∧FzS σ σ' h:=by
 classical
 let σ':Sg:={ ρ:=fun _ _=>none,FM:=fun b=>if Live σ h b then (match w.heap[b]? with|some (.cells cs _ _)=>some cs|_=>none) else σ.FM b,RM:=fun _=>none }
 have le:∀b cs,σ.FM b=some cs→σ'.FM b=some cs:=fun b cs x=>by
  show (if Live σ h b then _ else σ.FM b)=some cs;rw [if_neg]
  ·exact x
  ·intro hl;rw [Live.noFM s hl] at x;cases x
 refine ⟨σ',⟨fun b cs x=>?_,fun i o ho=>(Heap.nil_some ho).elim,fun i j oi oj b hi=>(Heap.nil_some hi).elim,⟨0,fun _ _ _=>rfl⟩,fun b o x=>(by cases x),fun p hp=>le _ _ (s.gl p hp)⟩,le,fun id ep rows rows' ho hr sz off len lim v hv=>?_,fun id ep rows rows' ho hr sz i off v hv=>?_⟩
 ·have x:(if Live σ h b then (match w.heap[b]? with|some (.cells cs _ _)=>some cs|_=>none) else σ.FM b)=some cs:=x
  split at x
  ·split at x
   ·rename_i cs' T fz e;cases x;exact ⟨_,_,e⟩
   ·cases x
  ·exact s.fm b cs x
 ·cases hv with
  | @oslc _ _ _ _ _ _ _ blk st n size cap hρ h1 h2 h3 h4 h5=>
   rcases s.obj id _ ho with ⟨_,x⟩|⟨blk',st',sz',n',size',cells,T,e1,e2,e3,e4,e5,e6,e7,e8⟩
   ·rw [hρ] at x;cases x
   rw [hρ] at e1;cases e1;have hl:Live σ h blk:=⟨id,_,ho,by simp [AObj.blk,hρ]⟩;have hF:σ'.FM blk=some cells:=by
    show (if Live σ h blk then (match w.heap[blk]? with|some (.cells cs _ _)=>some cs|_=>none) else σ.FM blk)=some cells;rw [if_pos hl,e2]
   have hrl:=hr.len;refine .lslc (blk:=blk) (st:=st) (fun i j=>cells.getD (st+i * sz+j) undef) (fun i r' hr'=>?_) (fun i j c hc=>?_) (fun i j c hc=>?_) (fun i j c hc=>?_) (by omega) h3 h5
   ·obtain ⟨r,a,b,_⟩:=hr.row i r' hr';rw [←b];exact e7 i r a
   ·obtain ⟨r',hr',hj⟩:=cellAt_get hc;obtain ⟨r,a,b,d⟩:=hr.row i r' hr';obtain ⟨c0,hc0,_⟩:=d j c hj;obtain ⟨u,f1,f2,f3⟩:=e8 i j c0 (by unfold cellAt;rw [a];exact hc0);exact ⟨cells,hF,by rw [f1];simp [f1]⟩
   ·obtain ⟨r',hr',hj⟩:=cellAt_get hc;obtain ⟨r,a,b,d⟩:=hr.row i r' hr';obtain ⟨c0,hc0,_⟩:=d j c hj;obtain ⟨u,f1,f2,f3⟩:=e8 i j c0 (by unfold cellAt;rw [a];exact hc0);simp [f1,f2]
   ·obtain ⟨r',hr',hj⟩:=cellAt_get hc;obtain ⟨r,a,b,d⟩:=hr.row i r' hr';obtain ⟨c0,hc0,hq⟩:=d j c hj;obtain ⟨u,f1,f2,f3⟩:=e8 i j c0 (by unfold cellAt;rw [a];exact hc0);have:=hq u f3;simpa [f1] using this
  |onil hh=>exact .lnil
  |onilz hh=>exact .lz
  |oz hh h1 h2=>exact .lz
 ·cases hv with
  | @optr _ _ _ _ _ _ blk st n size hρ=>
   rcases s.obj id _ ho with ⟨_,x⟩|⟨blk',st',sz',n',size',cells,T,e1,e2,e3,e4,e5,e6,e7,e8⟩
   ·rw [hρ] at x;cases x
   rw [hρ] at e1;cases e1;have hl:Live σ h blk:=⟨id,_,ho,by simp [AObj.blk,hρ]⟩;have hF:σ'.FM blk=some cells:=by
    show (if Live σ h blk then (match w.heap[blk]? with|some (.cells cs _ _)=>some cs|_=>none) else σ.FM blk)=some cells;rw [if_pos hl,e2]
   refine .lptr (blk:=blk) (st:=st) (fun i j=>cells.getD (st+i * sz+j) undef) (fun i r' hr'=>?_) (fun i j c hc=>?_) (fun i j c hc=>?_) (fun i j c hc=>?_)
   ·obtain ⟨r,a,b,_⟩:=hr.row i r' hr';rw [←b];exact e7 i r a
   ·obtain ⟨r',hr',hj⟩:=cellAt_get hc;obtain ⟨r,a,b,d⟩:=hr.row i r' hr';obtain ⟨c0,hc0,_⟩:=d j c hj;obtain ⟨u,f1,f2,f3⟩:=e8 i j c0 (by unfold cellAt;rw [a];exact hc0);exact ⟨cells,hF,by rw [f1];simp [f1]⟩
   ·obtain ⟨r',hr',hj⟩:=cellAt_get hc;obtain ⟨r,a,b,d⟩:=hr.row i r' hr';obtain ⟨c0,hc0,_⟩:=d j c hj;obtain ⟨u,f1,f2,f3⟩:=e8 i j c0 (by unfold cellAt;rw [a];exact hc0);simp [f1,f2]
   ·obtain ⟨r',hr',hj⟩:=cellAt_get hc;obtain ⟨r,a,b,d⟩:=hr.row i r' hr';obtain ⟨c0,hc0,hq⟩:=d j c hj;obtain ⟨u,f1,f2,f3⟩:=e8 i j c0 (by unfold cellAt;rw [a];exact hc0);have:=hq u f3;simpa [f1] using this
theorem ACalls.peek {P:Program} {f:FuncId} {args args':List AV} {h:Heap} {r:AV} {K:AV→Heap→Prop} (hc:PRet P f args' r) (hr:flatV r=true)
  (ha:∀σ σ' vs,FzS σ σ' h→VRels σ args vs→VRels σ' args' vs) (hK:K r h):ACalls P f args h K:=by
 refine ⟨fun σ w vs s hv=>?_⟩;obtain ⟨σ',s',x⟩:=s.freezeAll;refine (hc.out.out.use σ' w vs s' (ha σ σ' _ x hv)).mono ?_;rintro e w' ⟨v,rfl,σ1,h1,r1,hk,m,hr1⟩;obtain ⟨σ2,h2,r2,m2,x2,_,e2⟩:=frzK_sound m.sim hr1 hk;subst e2;have nl:∀b,¬Live σ' Heap.nil b:=fun b ⟨i,o,ho,_⟩=>Heap.nil_some ho;have hblock:∀b,b<w.heap.size→w'.heap[b]? =w.heap[b]?:=fun b hb=>m.block b hb (nl b);refine ⟨v,rfl,σ,h,_,hK,⟨.refl _,⟨fun b cs y=>?_,fun i o ho=>?_,s.apart,s.fresh,fun b o y=>?_,s.gl⟩,m.os,m.tape,m.output,m.size,fun b hb _=>hblock b hb,fun b hb=>.inl hb,fun b hb=>.inl hb⟩,flatV_rel hr x2⟩
 ·obtain ⟨T,fz,z⟩:=s.fm b cs y;exact ⟨T,fz,by rw [hblock b (Array.getElem?_eq_some_iff.1 z).1];exact z⟩
 ·exact (s.obj i o ho).keep (.refl _) fun b hb=>⟨hblock b (Live.lt s ⟨i,o,ho,hb⟩),Live.noFM s ⟨i,o,ho,hb⟩⟩
 ·obtain ⟨z1,z2⟩:=s.rm b o y;exact ⟨by rw [hblock b (Array.getElem?_eq_some_iff.1 z1).1];exact z1,z2⟩

theorem leavesMD {C:Ctx} {fn:Func} {tmps:Array Value} {R:Ending→World→Prop} {σ:Sg} {h:Heap} {w:World} {fr':List AV} {h':Heap} {u:FrameMode} {ds:List Deferred} (hu:u≠.run) (hlow:∀b o,σ.RM b=some o→w.heap.size≤b→False)
  (hR:∀σ' w',Mv σ h w σ' h' w'→VRels σ' fr' tmps.toList→LeavesInM (FR none) 0 C.P fn tmps R ds u w'):∀(l:List Nat) (σ':Sg) (w':World),l.Nodup→(∀D∈l,w.heap.size≤D∧σ'.RM D=some (.deferred (some [])))→
  Mv σ h w σ' h' w'→VRels σ' fr' tmps.toList→LeavesInM (FR none) 0 C.P fn tmps R (l.map markD++ds) u w':=by
 intro l
 induction l with
 |nil=>intro σ' w' _ _ m v;exact hR σ' w' m v
 |cons D l ih=>
  intro σ' w' hn hd m v;obtain ⟨d1,d2⟩:=hd D (by simp);obtain ⟨r1,r2⟩:=m.sim.rm D _ d2;have hDl:=(Array.getElem?_eq_some_iff.1 r1).1;have nl:¬Live σ' h' D:=Live.notRec m.sim r1 rfl;refine ⟨hu,.inl ⟨D,_,rfl,run_takeDeferred r1,?_⟩⟩
  let R1:Nat→Option Obj:=fun b=>if b=D then none else σ'.RM b
  have oth:∀b,b≠D→(w'.putObj D (.deferred none)).heap[b]? =w'.heap[b]?:=fun b hb=>World.putObj_heap_other hb;have s1:Sim (σ'.withRM R1) h' (w'.putObj D (.deferred none)):=m.sim.withRM R1
   (fun b hb=>oth b (by rintro rfl;exact nl hb)) (fun b hb=>oth b (by rintro rfl;exact hb (m.sim.notFM r1 rfl))) fun b o x=>by
    have x:(if b=D then none else σ'.RM b)=some o:=x
    split at x
    ·cases x
    ·rename_i hb;rw [oth b hb];exact m.sim.rm b o x
  have hnl:=List.nodup_cons.1 hn;refine ih (σ'.withRM R1) _ hnl.2 (fun D' h1=>⟨(hd D' (by simp [h1])).1,?_⟩) ⟨⟨m.le.ρ,m.le.FM,fun b o x=>?_⟩,s1,m.os,m.tape,m.output,by rw [World.putObj_size];exact m.size,fun b hb hnl=>?_,m.live,m.new⟩ (v.mono0 (σ'.withRM_le0 R1))
  ·show (if D'=D then none else σ'.RM D')=_;rw [if_neg (by rintro rfl;exact hnl.1 h1)];exact (hd D' (by simp [h1])).2
  ·show (if b=D then none else σ'.RM b)=some o;rw [if_neg]
   ·exact m.le.RM _ _ x
   ·rintro rfl;exact hlow b o x d1
  ·rw [oth b (by omega)];exact m.block b hb hnl
structure WD (C:Ctx) (c:Code) (fr:List AV) (h:Heap) (K:AE→List AV→Heap→Prop):Prop where
 use:∀(σ:Sg) (w:World) (a:Act) (Q:Exit→Act→World→Prop),YOk C σ→Sim σ h w→VRels σ fr a.tmps.toList→
  (∀e fr' h' σ' a' w',K e fr' h'→Mv σ h w σ' h' w'→VRels σ' fr' a'.tmps.toList→a'.defers=a.defers→Q e.toExit a' w')→c.wpIn (FR none) 0 C.P Q a w
theorem wd_reg {C:Ctx} (ok:COk C) (hm:C.P.follows .mixedOrders=true) {A:RAnn} {id:Nat} {ops:Array Oper} {draw:Bool} {fr:List AV} {h:Heap} {K:List AV→Heap→Prop} (hk:regK C A ops draw fr h K):
  WD C (.region id ops draw) fr h fun e fr h=>e= .normal∧K fr h:=by
 refine ⟨fun σ w a Q hy s hf hQ=>?_⟩;unfold regK at hk;rw [forceL_eq,forceH_eq] at hk;have hf1:VRels σ (match A.live with|some l=>maskF 0 l fr|none=>fr) a.tmps.toList:=by
  split
  ·exact maskF_rel _ _ _ _ hf
  ·exact hf
 have m1:Mv σ h w σ (match A.keep with|some l=>maskH 0 l h|none=>h) w:=by
  split
  ·exact s.forget fun i o x=>maskH_get _ _ _ _ _ x
  ·exact .refl s
 obtain ⟨σ2,fr2,h2,hk2,m2,hf2⟩:=liftK_sound _ hf1 m1.sim hk;rw [forceH_eq] at hk2;have m3:Mv σ2 h2 w σ2 (holesH A.slots ops h2) w:=m2.sim.forget fun i o x=>holesH_get ops _ _ _ _ x;have m123:=(m1.trans m2).trans m3;have fin:∀{w0:World},Mv σ h w σ2 (holesH A.slots ops h2) w0→∀fr' h' σ' a' w',(frzSlots A.frz fr' h' fun fr h=>movSlots A.mv fr h K)→Mv σ2 (holesH A.slots ops h2) w0 σ' h' w'→VRels σ' fr' a'.tmps.toList→a'.defers=a.defers→Q .normal a' w':=by
  intro w0 m0 fr' h' σ' a' w' k m hv hd';obtain ⟨σ4,fr4,h4,k4,m4,hv4⟩:=frzSlots_sound _ hv m.sim k;obtain ⟨σ5,fr5,h5,k5,m5,hv5⟩:=movSlots_sound _ hv4 m4.sim k4;exact hQ .normal fr5 h5 σ5 a' w' ⟨rfl,k5⟩ (((m0.trans m).trans m4).trans m5) hv5 hd'
 cases draw with
 |false=>
  have hrun:=runE_ord hk2;exact wpIn_region (runOrd_sound ok _ (hy.mono m123.le) hf2 m3.sim hrun (fin m123))
 |true=>
  cases hal:A.plan with
  |none=>
   simp only [hal,forceL_eq] at hk2
   split at hk2
   ·rename_i hdo;exact draw_sound (C:=C.g A.dg) ⟨ok.tok,ok.fn⟩ hm hdo (hy.mono m123.le) hf2 m3.sim (runE_ord hk2) (fin m123)
   ·exact hk2.elim
  |some p=>
   simp only [hal] at hk2
   split at hk2
   ·rename_i hdo;exact draw_sound2 (C:=C.g A.dg) ⟨ok.tok,ok.fn⟩ hm hdo (hy.mono m123.le) hf2 m3.sim (planE_run hk2) (fin m123)
   ·exact hk2.elim
theorem wd_regR {C:Ctx} (ok:COk C) (hm:C.P.follows .mixedOrders=true) {A:RAnn} {id:Nat} {ops:Array Oper} {draw:Bool} {fr:List AV} {h:Heap} {K:List AV→Heap→Prop} (hk:forceR fr fun fr=>forceHR h fun h=>regR C A ops draw fr h K):
  WD C (.region id ops draw) fr h fun e fr h=>e= .normal∧K fr h:=by
 rw [forceR_eq,forceHR_eq,regR_eq] at hk;exact wd_reg ok hm hk
theorem wd_text {C:Ctx} (ok:COk C) {id:Nat} {ops:Array Oper} {slot:Nat→Id} {fr:List AV} {h:Heap} {K:AE→List AV→Heap→Prop} (k:runOrd C ops slot (List.range ops.size) fr h fun fr h=>K .normal fr h):WD C (.region id ops false) fr h K:=
 ⟨fun σ w a Q hy s hf hQ=>wpIn_region (runOrd_sound ok _ hy hf s k fun fr' h' σ' a' w' k m v d=>hQ .normal fr' h' σ' a' w' k m v d)⟩
theorem WD.mono {C:Ctx} {c:Code} {fr:List AV} {h:Heap} {K K':AE→List AV→Heap→Prop} (x:WD C c fr h K) (hk:∀e fr h,K e fr h→K' e fr h):WD C c fr h K':=
 ⟨fun σ w a Q hy s hf hQ=>x.use σ w a Q hy s hf fun e fr' h' σ' a' w' k=>hQ e fr' h' σ' a' w' (hk _ _ _ k)⟩
theorem wd_seq {C:Ctx} {x y:Code} {fr:List AV} {h:Heap} {K:AE→List AV→Heap→Prop} (k:WD C x fr h fun e fr h=>e= .normal∧WD C y fr h K):WD C (.seq x y) fr h K:=by
 refine ⟨fun σ w a Q hy s hf hQ=>?_⟩;refine wpIn_seq (k.use σ w a _ hy s hf ?_);rintro e fr' h' σ' a' w' ⟨rfl,k2⟩ m v d;exact k2.use σ' w' a' Q (hy.mono m.le) m.sim v fun e fr2 h2 σ2 a2 w2 k3 m2 v2 d2=>hQ e fr2 h2 σ2 a2 w2 k3 (m.trans m2) v2 (d2.trans d)
theorem wd_cond {C:Ctx} {c:Operand} {x y:Code} {fr:List AV} {h:Heap} {b:Bool} {K:AE→List AV→Heap→Prop} (hc:evl fr c= .bool b) (k:WD C (if b then x else y) fr h K):WD C (.cond c x y) fr h K:=by
 refine ⟨fun σ w a Q hy s hf hQ=>?_⟩;have hv:=evl_rel s.gl hf c;rw [hc] at hv;generalize he:a.eval c=u at hv;cases hv;cases b with
 |true=>exact wpIn_cond_true he (k.use σ w a Q hy s hf hQ)
 |false=>exact wpIn_cond_false he (k.use σ w a Q hy s hf hQ)
theorem wd_block {C:Ctx} {id:Nat} {c:Code} {fr:List AV} {h:Heap} {K:AE→List AV→Heap→Prop} (k:WD C c fr h fun e fr h=>e= .normal∧K .normal fr h):WD C (.block id c) fr h K:=by
 refine ⟨fun σ w a Q hy s hf hQ=>?_⟩;refine wpIn_block (k.use σ w a _ hy s hf ?_);rintro e fr' h' σ' a' w' ⟨rfl,k2⟩ m v d;exact hQ .normal fr' h' σ' a' w' k2 m v d
theorem wd_head {C:Ctx} (ok:COk C) {id:Nat} {ops:Array Oper} {rest:List Nat} {o:Oper} {slot:Nat→Id} {fr:List AV} {h:Heap} {a:AV} {K:AE→List AV→Heap→Prop}
  (hr:List.range ops.size=0::rest) (ho:ops[0]? =some o) (hg:o.guard=none) (hnd:∀c,o.op≠.defer c)
  (hrun:∀(σ:Sg) (ρ:Operand→Value),OpRel σ (evl fr) ρ→∀w,∃v,(execOp ρ o).run C.P w= .ok (.value v) w∧VRel σ a v)
  (hk:runOrd C ops slot rest (putF fr o.dst a) h fun fr h=>K .normal fr h):WD C (.region id ops false) fr h K:=by
 refine ⟨fun σ w b Q hy s hf hQ=>?_⟩;refine wpIn_region ?_;rw [hr];refine wpOps_cons ho hg ?_;obtain ⟨v,h1,h2⟩:=hrun σ b.eval (evl_rel s.gl hf) w;refine ⟨fun f hf=>trivial,?_⟩;rw [Oper.semAt_eq _ _ _ hnd,h1,Oper.uponIn_value];refine runOrd_sound ok _ hy (putF_rel hf h2) s hk fun fr' h' σ' a' w' k m v d=>hQ .normal fr' h' σ' a' w' k m v ?_;rw [d];cases o.dst<;>rfl
theorem run_assert {C:Ctx} {σ:Sg} {ρ:Operand→Value} {ev:Operand→AV} (hr:OpRel σ ev ρ) {o:Oper} {x:Operand} {xt T:TypeId} {fs:Array Field} {a:AV} {V:Value} (hop:o.op= .typeAssert x xt T true) (he:ev x= .ifc T V) (hu:C.P.underlying T=some (.struct fs)) (hV:VRel σ a V) (w:World):
  ∃v,(execOp ρ o).run C.P w= .ok (.value v) w∧VRel σ (.tup [a,.bool true]) v:=by
 have hv:=hr x;rw [he] at hv;generalize hx:ρ x=u at hv;cases hv;refine ⟨.tuple #[V,.bool true],?_,tup2 hV .bool⟩;obtain ⟨dst,op,type,pos,after,guard⟩:=o;simp only at hop;subst hop;simp [execOp,hx,Instr.typeAssert,run_und hu]
structure Rcv (P:Program) (g:FuncId) (cap:List AV) (h:Heap) (u u':FrameMode) (K:Heap→Prop):Prop where
 use:∀(σ:Sg) (w:World) (vs:Array Value),Sim σ h w→VRels σ cap vs.toList→
  CallsDIn (FR none) 0 P g vs u w fun e v w'=>v=u'∧(∃x,e= .returned x)∧∃σ' h',K h'∧Mv σ h w σ' h' w'
theorem Rcv.part {P:Program} {g:FuncId} {cap:List AV} {h1 h:Heap} {u u':FrameMode} {K:Heap→Prop} (x:Rcv P g cap h1 u u' K) (hh:∀(i:Id) (o:AObj),h1[i]? =some o→o= .hole∨h[i]? =some o):Rcv P g cap h u u' K:=by
 refine ⟨fun σ w vs s hv=>?_⟩;have m0:=s.forget hh;have c:=x.use σ w vs m0.sim hv;refine ⟨c.1,fun c0 cs hm hroom=>?_⟩;obtain ⟨e,u2,w7,fr7,⟨q1,q2,σ7,h7,q3,q4⟩,z⟩:=c.2 c0 cs hm hroom;exact ⟨e,u2,w7,fr7,⟨q1,q2,σ7,h7,q3,m0.trans q4⟩,z⟩
theorem Rcv.mono {P:Program} {g:FuncId} {cap:List AV} {h:Heap} {u u':FrameMode} {K K':Heap→Prop} (x:Rcv P g cap h u u' K) (hk:∀h,K h→K' h):Rcv P g cap h u u' K':=by
 refine ⟨fun σ w vs s hv=>?_⟩;have c:=x.use σ w vs s hv;refine ⟨c.1,fun c0 cs hm hroom=>?_⟩;obtain ⟨e,u2,w7,fr7,⟨q1,q2,σ7,h7,q3,q4⟩,z⟩:=c.2 c0 cs hm hroom;exact ⟨e,u2,w7,fr7,⟨q1,q2,σ7,h7,hk _ q3,q4⟩,z⟩
theorem rcv_of {C:Ctx} (ok:COk C) {g:FuncId} {fn:Func} {rid:Nat} {ops:Array Oper} {c:Code} {o:Oper} {t:Tmp} (n:Nat) (hf:C.P.funcs[g]? =some fn) (hb:fn.body=some (.seq (.region rid ops false) c)) (hr:List.range ops.size=[0]) (ho:ops[0]? =some o) {cl:Call} (hop:o.op= .call cl) (hcl:cl={ callee:=.builtin .recover,args:=#[],argTypes:=#[] }) (hdst:o.dst=some t) (hg:o.guard=none) (hres:fn.results= #[]) (hC:C.yl=none)
  {cap:List AV} {h:Heap} {K:Heap→Prop} {u u':FrameMode} {x:AV}
  (hu:∀(c₀:Frame) (cs:List Frame),c₀.mode=u→match recoverD (c₀::cs) with
   |some (v,cs')=>cs'={ c₀ with mode:=u' }::cs∧∀σ,VRel σ x v
   |none=>u'=u∧x= .nili)
  (hk:WD C c ((frame0 cap fn.ntmps).set t x) (heap0 h n) fun e _ h'=>(e= .normal∨e= .ret)∧K h'):Rcv C.P g cap h u u' K:=by
 refine ⟨fun σ w vs s hv=>?_⟩;refine callsDIn_of_wpSIn hf hb trivial fun c₀ cs hm=>wpSIn_seq (wpSIn_region ?_);rw [hr];have hl:cap.length=vs.size:=by have:=hv.1;simpa using this
 have hfr:VRels σ (frame0 cap fn.ntmps) (vs++Array.replicate (fn.ntmps-vs.size) undef).toList:=by
  simp only [frame0,Array.toList_append,Array.toList_replicate];refine VRels.append hv ⟨by simp [hl],fun i a v x y=>?_⟩;rw [List.getElem?_replicate] at x
  split at x
  ·cases x;exact .u
  ·cases x
 have m0:=s.grow n;have go:∀(v:Value) (cs':List Frame),VRel σ x v→cs'={ c₀ with mode:=u' }::cs→Exit.thenS (c.wpSIn (FR none) 0 C.P (bodyPostS C.P fn c₀ cs fun e v w'=>v=u'∧(∃x,e= .returned x)∧∃σ' h',K h'∧Mv σ h w σ' h' w')) (bodyPostS C.P fn c₀ cs fun e v w'=>v=u'∧(∃x,e= .returned x)∧∃σ' h',K h'∧Mv σ h w σ' h' w') .normal (({ tmps:=vs++Array.replicate (fn.ntmps-vs.size) undef,defers:=[] }:Act).put o.dst v) cs' w:=by
  intro v cs' hx hcs;have hf2:=putF_rel (a:={ tmps:=vs++Array.replicate (fn.ntmps-vs.size) undef,defers:=[] }) (dst:=some t) hfr hx;rw [hdst];refine wpSIn_of_wpIn rfl (hk.use σ w _ _ (YOk.none hC) m0.sim hf2 ?_);rintro e fr' h' σ' a' w' ⟨he,k⟩ m v2 d;obtain ⟨vv,rs,h1,h2,h3⟩:=results_sound ok m.sim v2 fn (K:=fun _=>True) (by rw [hres];trivial);have d:a'.defers=[]:=d;have post:a'.defers=[]∧∃u'',cs'={ c₀ with mode:=u'' }::cs∧∃v,(results fn a'.tmps).run C.P w'= .ok v w'∧(u''=u'∧(∃x,(Ending.returned v)= .returned x)∧∃σ' h',K h'∧Mv σ h w σ' h' w'):=
   ⟨d,u',hcs,vv,h1,rfl,⟨vv,rfl⟩,σ',h',k,m0.trans m⟩
  rcases he with rfl|rfl
  ·exact post
  ·exact post
 subst hcl;unfold wpOpsSIn;simp only [ho];refine ⟨fun f hf=>trivial,?_⟩;rw [if_pos (wanted_none hg _)];have hrun:(execOp (({ tmps:=vs++Array.replicate (fn.ntmps-vs.size) undef,defers:=[] }:Act)).eval o).run C.P w= .ok .recover w:=by
  obtain ⟨dst,op,type,pos,after,guard⟩:=o;simp only at hop;subst hop;simp [execOp,resolve,invoke,Go.builtin]
 rw [hrun];simp only;have hu:=hu c₀ cs hm
 split at hu
 ·rename_i v cs' e1;rw [e1];exact go v cs' (hu.2 σ) hu.1
 ·rename_i e1;obtain ⟨rfl,rfl⟩:=hu;rw [e1];exact go .nilIface (c₀::cs) .nili (by rw [←hm])
theorem fnDW_of {C:Ctx} (ok:COk C) {f:FuncId} {fn:Func} {r0 x y:Code} {rid:Nat} {ops:Array Oper} {g:FuncId} {o:Oper} {cl:Call} {t:Tmp} {slot:Nat→Id} (n:Nat) (hf:C.P.funcs[f]? =some fn) (hb:fn.body=some (.seq r0 (.seq x (.seq (.region rid ops false) y))))
  (hops:List.range ops.size=[0]++[1]) (ho:ops[1]? =some o) (hop:o.op= .defer cl) (hcl:cl.callee= .value (.tmp t)) (hargs:cl.args= #[]) (hg:o.guard=none) (hgf:C.fnok g=true) (hC:C.yl=none) {args:List AV} {h:Heap} {K:AV→Heap→Prop}
  (hk:WK C r0 (frame0 args fn.ntmps) (heap0 h n) fun e fr h=>e= .normal∧WK C x fr h fun e fr h=>match e with
   | .ret=>resR C.ti fn.results.toList fr h fun vs=>retV vs fun v=>K v h
   | .normal=>runOrd C ops slot [0] fr h fun fr h=>∃caps,evl fr (.tmp t)= .fn (.func g) [] caps∧WK C y (putF fr o.dst .u) h fun e fr h=>match e with
    | .normal=>Rcv C.P g caps h .returning .returning fun h'=>resR C.ti fn.results.toList fr h' fun vs=>retV vs fun v=>K v h'
    | .ret=>Rcv C.P g caps h .returning .returning fun h'=>resR C.ti fn.results.toList fr h' fun vs=>retV vs fun v=>K v h'
    | .pan T V=>Rcv C.P g caps h (.panicking [{ v:=.iface T V,recovered:=false }]) (.panicking [{ v:=.iface T V,recovered:=true }]) fun h'=>resR C.ti fn.results.toList fr h' fun vs=>retV vs fun v=>K v h'
    | .exit _=>False
   |_=>False):ACalls C.P f args h K:=by
 refine ⟨fun σ w vs s hv=>?_⟩;refine callsFR' (rd:=none) (n:=0) (callsIn_of_wp_marks hf hb trivial ?_);have m0:=s.grow n;have hl:args.length=vs.size:=by have:=hv.1;simpa using this
 have hfr:VRels σ (frame0 args fn.ntmps) (vs++Array.replicate (fn.ntmps-vs.size) undef).toList:=by
  simp only [frame0,Array.toList_append,Array.toList_replicate];refine VRels.append hv ⟨by simp [hl],fun i a v x y=>?_⟩;rw [List.getElem?_replicate] at x
  split at x
  ·cases x;exact .u
  ·cases x
 have low:∀b o,σ.RM b=some o→w.heap.size≤b→False:=fun b o x hb=>by have:=(Array.getElem?_eq_some_iff.1 (s.rm b o x).1).1;omega
 have fin:∀(tmps:Array Value) (fr':List AV) (h':Heap) (l:List Nat) (σ':Sg) (w':World),(resR C.ti fn.results.toList fr' h' fun vs=>retV vs fun v=>K v h')→l.Nodup→(∀D∈l,w.heap.size≤D∧σ'.RM D=some (.deferred (some [])))→Mv σ h w σ' h' w'→VRels σ' fr' tmps.toList→
   LeavesInM (FR none) 0 C.P fn tmps (fun e w'=>∃v,e= .returned v∧∃σ' h' r,K r h'∧Mv σ h w σ' h' w'∧VRel σ' r v) (l.map markD) .returning w':=by
  intro tmps fr' h' l σ' w' k hn hd m hv';simp only [resR_eq,retV_eq] at k;refine leavesM (σ:=σ) (h:=h) (w:=w) (fr':=fr') (h':=h') low (fun σ2 w2 m2 v2=>?_) l σ' w' hn hd m hv';obtain ⟨v,rs,h1,h2,h3⟩:=results_sound ok m2.sim v2 fn k;exact ⟨v,h1,v,rfl,σ2,h',_,h3,m2,h2⟩
 refine wpIn_seq (hk.use none ⟨w.heap.size,[]⟩ σ w { tmps:=vs++Array.replicate (fn.ntmps-vs.size) undef,defers:=[] } _ (fun _=>rfl) (YOk.none hC) (Nat.le_refl _) m0.sim hfr .nil ?_);rintro e fr1 h1 σ1 a1 w1 ⟨rfl,k1⟩ m1 v1 d1;have m01:=m0.trans m1;refine wpIn_seq (k1.use none ⟨w.heap.size,[]⟩ σ1 w1 a1 _ (fun _=>rfl) (YOk.none hC) m01.size m1.sim v1 d1 ?_);intro e fr2 h2 σ2 a2 w2 k2 m2 v2 d2;have m02:=m01.trans m2;cases e with
 |exit id=>exact k2.elim
 |pan T V=>exact k2.elim
 |ret=>
  obtain ⟨l,e1,e2,e3⟩:=d2;show LeavesInM (FR none) 0 C.P fn a2.tmps _ a2.defers .returning w2;rw [e1,List.append_nil];exact fin _ _ _ l σ2 w2 k2 e2 e3 m02 v2
 |normal=>
  show Code.wpIn _ _ _ _ _ _ _;refine wpIn_seq (wpIn_region ?_);rw [hops];refine runOrd_then ok _ (YOk.none hC) v2 m2.sim k2 ?_;rintro fr3 h3 σ3 a3 w3 ⟨caps,hev,k3⟩ m3 v3 d3;have m03:=m02.trans m3;refine wpOps_cons ho hg ?_;have hvv:=evl_rel m3.sim.gl v3 (.tmp t);rw [hev] at hvv;generalize hx:a3.eval (.tmp t)=u at hvv;cases hvv with
  | @fn _ _ _ _ first' cap' l1 l2 q1 q2=>
  have ef:first'= #[]:=Array.eq_empty_of_size_eq_zero (by simpa using l1.symm);subst ef;have hcap:VRels σ3 caps cap'.toList:=⟨by simpa using l2,fun i c v x y=>q2 i c v x (by simpa using y)⟩;refine ⟨fun f hf=>trivial,?_⟩;have hrun:(execOp a3.eval o).run C.P w3= .ok (.defer { target:=.fn (.func g) cap',args:=#[] }) w3:=by
   obtain ⟨dst,op,type,pos,after,guard⟩:=o;simp only at hop;subst hop;simp [execOp,resolve,hcl,hargs,hx,Deferred.ofValue]
  have hro:Oper.semAt (FR none).round a3.eval o=execOp a3.eval o:=Oper.semAt_none _ _;rw [hro,hrun,Oper.uponIn_defer];have hdd:(({ a3 with defers:={ target:=.fn (.func g) cap',args:=#[] }::a3.defers }:Act).put o.dst undef).defers={ target:=.fn (.func g) cap',args:=#[] }::a3.defers:=by cases o.dst<;>rfl
  have hv4:VRels σ3 (putF fr3 o.dst .u) (({ a3 with defers:={ target:=.fn (.func g) cap',args:=#[] }::a3.defers }:Act).put o.dst undef).tmps.toList:=putF_rel (a:={ a3 with defers:={ target:=.fn (.func g) cap',args:=#[] }::a3.defers }) v3 .u;obtain ⟨l1,e1,e2,e3⟩:=d2;rw [List.append_nil] at e1;show Code.wpIn _ _ _ _ _ _ _;refine k3.use none ⟨w3.heap.size,{ target:=.fn (.func g) cap',args:=#[] }::a3.defers⟩ σ3 w3 _ _ (fun _=>rfl) (YOk.none hC) (Nat.le_refl _) m3.sim hv4 ⟨[],by rw [hdd];rfl,.nil,fun D hd=>by cases hd⟩ ?_;intro e fr5 h5 σ5 a5 w5 k5 m5 v5 d5;obtain ⟨l2,f1,f2,f3⟩:=d5;have low3:∀b o,σ3.RM b=some o→w3.heap.size≤b→False:=fun b o x hb=>by have:=(Array.getElem?_eq_some_iff.1 (m3.sim.rm b o x).1).1;omega
  have call:∀{u u':FrameMode},u≠.run→settle u'= .returning→(Rcv C.P g caps h5 u u' fun h'=>resR C.ti fn.results.toList fr5 h' fun vs=>retV vs fun v=>K v h')→LeavesInM (FR none) 0 C.P fn a5.tmps (fun e w'=>∃v,e= .returned v∧∃σ' h' r,K r h'∧Mv σ h w σ' h' w'∧VRel σ' r v) a5.defers u w5:=by
   intro u u' hu hu' hr;rw [f1];refine leavesMD hu low3 (fun σ6 w6 m6 v6 => ?_) l2 σ5 w5 f2 f3 m5 v5;obtain ⟨fg, g1, g2, g3⟩ := ok.fn _ hgf;have g2' : ¬ fg.name = "runtime.NumGoroutine" := by simpa using g2
   have g3':¬fg.body=none:=by intro e;rw [e] at g3;cases g3
   refine ⟨hu,.inr ⟨(fun x=>by cases x),_,_,g,cap',rfl,?_,fun _ _=>trivial,?_⟩⟩
   ·simp [invoke,callFunc,g1,g2',g3']
   ·have c:=hr.use σ6 w6 cap' m6.sim (hcap.mono m6.le);refine ⟨c.1,fun c0 cs hm hroom=>?_⟩;obtain ⟨e,u2,w7,fr7,⟨q1,⟨xx,q2⟩,σ7,h7,q3,q4⟩,z⟩:=c.2 c0 cs hm hroom;subst q1 q2;refine ⟨_,u2,w7,fr7,?_,z⟩;show LeavesInM _ _ _ _ _ _ _ (settle u2) w7;rw [hu',d3,e1];exact fin a5.tmps fr5 h7 l1 σ7 w7 q3 e2 (fun D hD=>⟨(e3 D hD).1,((m3.trans m6).trans q4).le.RM _ _ (e3 D hD).2⟩) ((m03.trans m6).trans q4) (v6.mono q4.le)
  cases e with
  |exit id=>exact k5.elim
  |normal=>exact call (by simp) rfl k5
  |ret=>exact call (by simp) rfl k5
  |pan T V=>exact call (by simp) rfl k5

theorem Sim.freezeK {σ:Sg} {h:Heap} {w:World} (s:Sim σ h w):∃σ',Mv σ h w σ' Heap.nil w∧FzS σ σ' h:=by
 classical
 let σ':Sg:={ ρ:=σ.ρ,FM:=fun b=>if Live σ h b then (match w.heap[b]? with|some (.cells cs _ _)=>some cs|_=>none) else σ.FM b,RM:=σ.RM }
 have le:∀b cs,σ.FM b=some cs→σ'.FM b=some cs:=fun b cs x=>by
  show (if Live σ h b then _ else σ.FM b)=some cs;rw [if_neg]
  ·exact x
  ·intro hl;rw [Live.noFM s hl] at x;cases x
 refine ⟨σ',⟨⟨fun _ _ _ x=>x,le,fun _ _ x=>x⟩,⟨fun b cs x=>?_,fun i o ho=>(Heap.nil_some ho).elim,fun i j oi oj b hi=>(Heap.nil_some hi).elim,s.fresh,fun b o x=>s.rm b o x,fun p hp=>le _ _ (s.gl p hp)⟩,rfl,rfl,rfl,Nat.le_refl _,fun _ _ _=>rfl,fun b ⟨i,o,ho,_⟩=>(Heap.nil_some ho).elim,fun b hb=>?_⟩,le,fun id ep rows rows' ho hr sz off len lim v hv=>?_,fun id ep rows rows' ho hr sz i off v hv=>?_⟩
 ·have x:(if Live σ h b then (match w.heap[b]? with|some (.cells cs _ _)=>some cs|_=>none) else σ.FM b)=some cs:=x
  split at x
  ·split at x
   ·rename_i cs' T fz e;cases x;exact ⟨_,_,e⟩
   ·cases x
  ·exact s.fm b cs x
 ·have hb:(if Live σ h b then (match w.heap[b]? with|some (.cells cs _ _)=>some cs|_=>none) else σ.FM b)≠none:=hb;by_cases hl:Live σ h b
  ·exact .inr (.inl hl)
  ·rw [if_neg hl] at hb;exact .inl hb
 ·cases hv with
  | @oslc _ _ _ _ _ _ _ blk st n size cap hρ h1 h2 h3 h4 h5=>
   rcases s.obj id _ ho with ⟨_,x⟩|⟨blk',st',sz',n',size',cells,T,e1,e2,e3,e4,e5,e6,e7,e8⟩
   ·rw [hρ] at x;cases x
   rw [hρ] at e1;cases e1;have hl:Live σ h blk:=⟨id,_,ho,by simp [AObj.blk,hρ]⟩;have hF:σ'.FM blk=some cells:=by
    show (if Live σ h blk then (match w.heap[blk]? with|some (.cells cs _ _)=>some cs|_=>none) else σ.FM blk)=some cells;rw [if_pos hl,e2]
   have hrl:=hr.len;refine .lslc (blk:=blk) (st:=st) (fun i j=>cells.getD (st+i * sz+j) undef) (fun i r' hr'=>?_) (fun i j c hc=>?_) (fun i j c hc=>?_) (fun i j c hc=>?_) (by omega) h3 h5
   ·obtain ⟨r,a,b,_⟩:=hr.row i r' hr';rw [←b];exact e7 i r a
   ·obtain ⟨r',hr',hj⟩:=cellAt_get hc;obtain ⟨r,a,b,d⟩:=hr.row i r' hr';obtain ⟨c0,hc0,_⟩:=d j c hj;obtain ⟨u,f1,f2,f3⟩:=e8 i j c0 (by unfold cellAt;rw [a];exact hc0);exact ⟨cells,hF,by rw [f1];simp [f1]⟩
   ·obtain ⟨r',hr',hj⟩:=cellAt_get hc;obtain ⟨r,a,b,d⟩:=hr.row i r' hr';obtain ⟨c0,hc0,_⟩:=d j c hj;obtain ⟨u,f1,f2,f3⟩:=e8 i j c0 (by unfold cellAt;rw [a];exact hc0);simp [f1,f2]
   ·obtain ⟨r',hr',hj⟩:=cellAt_get hc;obtain ⟨r,a,b,d⟩:=hr.row i r' hr';obtain ⟨c0,hc0,hq⟩:=d j c hj;obtain ⟨u,f1,f2,f3⟩:=e8 i j c0 (by unfold cellAt;rw [a];exact hc0);have:=hq u f3;simpa [f1] using this
  |onil hh=>exact .lnil
  |onilz hh=>exact .lz
  |oz hh h1 h2=>exact .lz
 ·cases hv with
  | @optr _ _ _ _ _ _ blk st n size hρ=>
   rcases s.obj id _ ho with ⟨_,x⟩|⟨blk',st',sz',n',size',cells,T,e1,e2,e3,e4,e5,e6,e7,e8⟩
   ·rw [hρ] at x;cases x
   rw [hρ] at e1;cases e1;have hl:Live σ h blk:=⟨id,_,ho,by simp [AObj.blk,hρ]⟩;have hF:σ'.FM blk=some cells:=by
    show (if Live σ h blk then (match w.heap[blk]? with|some (.cells cs _ _)=>some cs|_=>none) else σ.FM blk)=some cells;rw [if_pos hl,e2]
   refine .lptr (blk:=blk) (st:=st) (fun i j=>cells.getD (st+i * sz+j) undef) (fun i r' hr'=>?_) (fun i j c hc=>?_) (fun i j c hc=>?_) (fun i j c hc=>?_)
   ·obtain ⟨r,a,b,_⟩:=hr.row i r' hr';rw [←b];exact e7 i r a
   ·obtain ⟨r',hr',hj⟩:=cellAt_get hc;obtain ⟨r,a,b,d⟩:=hr.row i r' hr';obtain ⟨c0,hc0,_⟩:=d j c hj;obtain ⟨u,f1,f2,f3⟩:=e8 i j c0 (by unfold cellAt;rw [a];exact hc0);exact ⟨cells,hF,by rw [f1];simp [f1]⟩
   ·obtain ⟨r',hr',hj⟩:=cellAt_get hc;obtain ⟨r,a,b,d⟩:=hr.row i r' hr';obtain ⟨c0,hc0,_⟩:=d j c hj;obtain ⟨u,f1,f2,f3⟩:=e8 i j c0 (by unfold cellAt;rw [a];exact hc0);simp [f1,f2]
   ·obtain ⟨r',hr',hj⟩:=cellAt_get hc;obtain ⟨r,a,b,d⟩:=hr.row i r' hr';obtain ⟨c0,hc0,hq⟩:=d j c hj;obtain ⟨u,f1,f2,f3⟩:=e8 i j c0 (by unfold cellAt;rw [a];exact hc0);have:=hq u f3;simpa [f1] using this
theorem PRet.of_freeze {P:Program} {f:FuncId} {args:List AV} {r:AV} (hp:r.isPure2=true) (hz:∀h,frzK h r fun r' _=>r'=r)
  (hc:ACalls P f args Heap.nil fun v h'=>∀σ σ' x,FzS σ σ' h'→VRel σ v x→VRel σ' r x):PRet P f args r:=by
 refine ⟨⟨⟨fun σ w vs s hv=>?_⟩⟩⟩;refine (hc.use σ w vs s hv).mono ?_;rintro e w' ⟨v,rfl,σ1,h1,r1,k,m,x⟩;obtain ⟨σ2,m2,fz⟩:=m.sim.freezeK;exact ⟨v,rfl,σ2,_,r,frzK_mono (fun a _ e=>⟨by rw [e];exact hp,e⟩) (hz _),m.trans m2,k σ1 σ2 v fz x⟩

theorem ACalls.peekN {P:Program} {f:FuncId} {args args':List AV} {h:Heap} {sz n:Nat} {rows:List (List AV)} {K:AV→Heap→Prop}
  (hc:ACalls P f args' Heap.nil fun r h'=>∃id ep,r= .oslc id ep sz 0 n false∧h'[id]? =some (.vec ep rows)) (hr:∀(i j:Nat) (c:AV),cellAt rows i j=some c→flatV c=true)
  (ha:∀σ σ' vs,FzS σ σ' h→VRels σ args vs→VRels σ' args' vs) (hK:K (.lslc sz rows 0 n false) h):ACalls P f args h K:=by
 classical
 refine ⟨fun σ w vs s hv=>?_⟩;obtain ⟨σ',s',x⟩:=s.freezeAll;refine (hc.use σ' w vs s' (ha σ σ' _ x hv)).mono ?_;rintro e w' ⟨v,rfl,σ1,h1,r1,⟨id,ep,rfl,ho⟩,m,hr1⟩;have nl:∀b,¬Live σ' Heap.nil b:=fun b ⟨i,o,ho,_⟩=>Heap.nil_some ho;have hblock:∀b,b<w.heap.size→w'.heap[b]? =w.heap[b]?:=fun b hb=>m.block b hb (nl b);have same:∀{σ2:Sg},σ2.ρ=σ.ρ→σ2.RM=σ.RM→(∀b,b<w.heap.size→σ2.FM b=σ.FM b)→(∀b cs,w.heap.size≤b→σ2.FM b=some cs→∃T fz,w'.heap[b]? =some (.cells cs T fz))→Mv σ h w σ2 h w':=by
  intro σ2 e1 e2 e3 e4;have lt:∀b cs,σ.FM b=some cs→b<w.heap.size:=fun b cs y=>by
   obtain ⟨T,fz,z⟩:=s.fm b cs y;exact (Array.getElem?_eq_some_iff.1 z).1
  have le:Sg.Le σ σ2:=⟨fun i ep p y=>by rw [e1];exact y,fun b cs y=>by rw [e3 b (lt b cs y)];exact y,fun b o y=>by rw [e2];exact y⟩;have ob:∀(i:Id) (o:AObj),h[i]? =some o→o.blk σ2 i=o.blk σ i:=fun i o ho=>blk_le (s.obj i o ho) le;refine ⟨le,⟨fun b cs y=>?_,fun i o ho=>?_,fun i j oi oj b hi hj bi bj=>?_,?_,fun b o y=>?_,fun p hp=>le.FM _ _ (s.gl p hp)⟩,m.os,m.tape,m.output,m.size,fun b hb _=>hblock b hb,fun b hb=>?_,fun b hb=>?_⟩
  ·by_cases hb:b<w.heap.size
   ·rw [e3 b hb] at y;obtain ⟨T,fz,z⟩:=s.fm b cs y;exact ⟨T,fz,by rw [hblock b hb];exact z⟩
   ·exact e4 b cs (by omega) y
  ·refine (s.obj i o ho).keep le fun b hb=>?_;have hlt:=Live.lt s ⟨i,o,ho,hb⟩;exact ⟨hblock b hlt,by rw [e3 b hlt];exact Live.noFM s ⟨i,o,ho,hb⟩⟩
  ·rw [ob i oi hi] at bi;rw [ob j oj hj] at bj;exact s.apart i j oi oj b hi hj bi bj
  ·obtain ⟨e0,he⟩:=s.fresh;exact ⟨e0,fun i ep hh=>by rw [e1];exact he i ep hh⟩
  ·rw [e2] at y;obtain ⟨z1,z2⟩:=s.rm b o y;exact ⟨by rw [hblock b (Array.getElem?_eq_some_iff.1 z1).1];exact z1,z2⟩
  ·obtain ⟨i,o,ho,hbx⟩:=hb;exact .inl ⟨i,o,ho,by rw [←ob i o ho];exact hbx⟩
  ·by_cases hlt:b<w.heap.size
   ·rw [e3 b hlt] at hb;exact .inl hb
   ·exact .inr (.inr (by omega))
 have plain:=same (σ2:=σ) rfl rfl (fun _ _=>rfl) fun b cs hb y=>by
  obtain ⟨T,fz,z⟩:=s.fm b cs y;have:=(Array.getElem?_eq_some_iff.1 z).1;omega
 cases hr1 with
 | @oslc _ _ _ _ _ _ _ blk st nn size cap hρ q1 q2 q3 q4 q5=>
  rcases m.sim.obj id _ ho with ⟨_,y⟩|⟨blk',st',sz',n',size',cells,T,e1,e2,e3,e4,e5,e6,e7,e8⟩
  ·rw [hρ] at y;cases y
  rw [hρ] at e1;cases e1;have hnew:w.heap.size≤blk:=by
   rcases m.live blk ⟨id,_,ho,by simp [AObj.blk,hρ]⟩ with y|y
   ·exact absurd y (nl blk)
   ·exact y
  let σ2:Sg:={ ρ:=σ.ρ,FM:=fun b=>if b=blk then some cells else σ.FM b,RM:=σ.RM }
  have hF:σ2.FM blk=some cells:=by show (if blk=blk then _ else _)=_;simp
  have m2:Mv σ h w σ2 h w':=same rfl rfl (fun b hb=>by show (if b=blk then _ else _)=_;rw [if_neg (by omega)]) fun b cs hb y=>by
   have y:(if b=blk then some cells else σ.FM b)=some cs:=y
   split at y
   ·rename_i e;cases y;subst e;exact ⟨_,_,e2⟩
   ·obtain ⟨T,fz,z⟩:=s.fm b cs y;have:=(Array.getElem?_eq_some_iff.1 z).1;omega
  refine ⟨_,rfl,σ2,h,_,hK,m2,.lslc (blk:=blk) (st:=st) (fun i j=>cells.getD (st+i * sz+j) undef) e7 (fun i j c hc=>?_) (fun i j c hc=>?_) (fun i j c hc=>?_) (by omega) q3 q5⟩
  ·obtain ⟨u,f1,f2,f3⟩:=e8 i j c hc;exact ⟨cells,hF,by rw [f1];simp [f1]⟩
  ·obtain ⟨u,f1,f2,f3⟩:=e8 i j c hc;simp [f1,f2]
  ·obtain ⟨u,f1,f2,f3⟩:=e8 i j c hc;have:=flatV_rel (τ:=σ2.pure) (hr i j c hc) f3;simpa [f1] using this
 |onil hh=>exact ⟨_,rfl,σ,h,_,hK,plain,.lnil⟩
 |onilz hh=>exact ⟨_,rfl,σ,h,_,hK,plain,.lz⟩
 |oz hh h1 h2=>exact ⟨_,rfl,σ,h,_,hK,plain,.lz⟩
theorem ACalls.peekF {P:Program} {f:FuncId} {args args':List AV} {h:Heap} {r:AV} {K:AV→Heap→Prop} (hc:PRet P f args' r) (hr:∀(σ τ:Sg) (v:Value),VRel σ r v→VRel τ r v)
  (ha:∀σ σ' vs,FzS σ σ' h→VRels σ args vs→VRels σ' args' vs) (hK:K r h):ACalls P f args h K:=by
 refine ⟨fun σ w vs s hv=>?_⟩;obtain ⟨σ',s',x⟩:=s.freezeAll;refine (hc.out.out.use σ' w vs s' (ha σ σ' _ x hv)).mono ?_;rintro e w' ⟨v,rfl,σ1,h1,r1,hk,m,hr1⟩;obtain ⟨σ2,h2,r2,m2,x2,_,e2⟩:=frzK_sound m.sim hr1 hk;subst e2;have nl:∀b,¬Live σ' Heap.nil b:=fun b ⟨i,o,ho,_⟩=>Heap.nil_some ho;have hblock:∀b,b<w.heap.size→w'.heap[b]? =w.heap[b]?:=fun b hb=>m.block b hb (nl b);refine ⟨v,rfl,σ,h,_,hK,⟨.refl _,⟨fun b cs y=>?_,fun i o ho=>?_,s.apart,s.fresh,fun b o y=>?_,s.gl⟩,m.os,m.tape,m.output,m.size,fun b hb _=>hblock b hb,fun b hb=>.inl hb,fun b hb=>.inl hb⟩,hr _ _ _ x2⟩
 ·obtain ⟨T,fz,z⟩:=s.fm b cs y;exact ⟨T,fz,by rw [hblock b (Array.getElem?_eq_some_iff.1 z).1];exact z⟩
 ·exact (s.obj i o ho).keep (.refl _) fun b hb=>⟨hblock b (Live.lt s ⟨i,o,ho,hb⟩),Live.noFM s ⟨i,o,ho,hb⟩⟩
 ·obtain ⟨z1,z2⟩:=s.rm b o y;exact ⟨by rw [hblock b (Array.getElem?_eq_some_iff.1 z1).1];exact z1,z2⟩

theorem loopK {C:Ctx} {c:Code} (l:List Nat) (kp:List Nat) {S:Type} (fr:S→List AV) (h:S→Heap) (μ:S→Nat) {K:AE→List AV→Heap→Prop} {fr0:List AV} {h0:Heap} (s0:S)
  (e1:maskF 0 l fr0=fr s0) (e2:maskH 0 kp h0=h s0)
  (hround:∀s,WK C c (fr s) (h s) fun e fr' h'=>match e with
   | .normal=>Back fun s'=>maskF 0 l fr'=fr s'∧maskH 0 kp h'=h s'∧μ s'<μ s
   | .exit id=>K (.exit id) fr' h'
   | .ret=>K .ret fr' h'
   | .pan t v=>K (.pan t v) fr' h'):WK C (.loop c) fr0 h0 K:=by
 refine ⟨fun rd B σ w a Q hrd hy hB sm hf hd hQ=>?_⟩;intro b k cs hro hbf hroom;have mask:∀{σ':Sg} {w':World} {h':Heap},Sim σ' h' w'→Mv σ' h' w' σ' (maskH 0 kp h') w':=fun s=>s.forget fun i o x=>maskH_get _ _ _ _ _ x;have m0:=mask sm;rw [e2] at m0;have key:∀n s1 σ' w' a',μ s1=n→Mv σ h0 w σ' (h s1) w'→VRels σ' (fr s1) a'.tmps.toList→DfOk B σ' a'.defers→
   ∃e a'' w'',Q e a'' w''∧ArrivesIn (Machine.fenced C.P (FR rd)) C.P (lone (b.atR a' (.code c:: .inLoop c::k)) cs w') b k cs e a'' w'':=by
  intro n
  induction n using Nat.strongRecOn with
  |_ n ih=>
   intro s1 σ' w' a' hn m hv hd'
   let Q0:Exit→Act→World→Prop:=fun e a2 w2=>match e with
    | .normal=>∃s2 σ2,μ s2<μ s1∧Mv σ h0 w σ2 (h s2) w2∧VRels σ2 (fr s2) a2.tmps.toList∧DfOk B σ2 a2.defers
    |e=>Q e a2 w2
   have hr:c.wpIn (FR rd) 0 C.P Q0 a' w':=(hround s1).use rd B σ' w' a' Q0 hrd (hy.mono m.le) (Nat.le_trans hB m.size) m.sim hv hd' fun e fr2 h2 σ2 a2 w2 k2 m2 v2 d2=>by
    cases e with
    |normal=>
     obtain ⟨s2,e3,e4,hlt⟩:=back_ex k2;have m3:=mask m2.sim;rw [e4] at m3;have v3:=maskF_rel fr2 0 l _ v2;rw [e3] at v3;exact ⟨s2,σ2,hlt,(m.trans m2).trans m3,v3,d2⟩
    |exit id=>exact hQ (.exit id) fr2 h2 σ2 a2 w2 k2 (m.trans m2) v2 d2
    |ret=>exact hQ .ret fr2 h2 σ2 a2 w2 k2 (m.trans m2) v2 d2
    |pan pt pv=>exact hQ (.pan pt pv) fr2 h2 σ2 a2 w2 k2 (m.trans m2) v2 d2
   obtain ⟨e,a2,w2,hq,harr⟩:=hr b (.inLoop c::k) cs hro hbf hroom;cases e with
   |normal=>
    obtain ⟨s2,σ2,hlt,m2,v2,d2⟩:=hq;obtain ⟨e3,a3,w3,hq3,harr3⟩:=ih (μ s2) (hn ▸ hlt) s2 σ2 w2 a2 rfl m2 v2 d2;exact ⟨e3,a3,w3,hq3,.of_steps (StepsIn.trans harr (.one (fenced_calm hbf hroom rfl) stepR_inLoop)) harr3⟩
   |exit id=>exact ⟨_,a2,w2,hq,.pass (x:=.inLoop c) rfl (fun _ _=>.inl (by simp)) harr⟩
   |goto l=>exact ⟨_,a2,w2,hq,.pass (x:=.inLoop c) rfl (fun _ _=>.inl (by simp)) harr⟩
   |ret=>exact ⟨_,a2,w2,hq,.pass (x:=.inLoop c) rfl (fun _ _=>.inl (by simp)) harr⟩
   |panic ch=>exact ⟨_,a2,w2,hq,.pass (x:=.inLoop c) rfl (fun _ _=>.inl (by simp)) harr⟩
   |outgrown=>exact ⟨_,a2,w2,hq,.pass (x:=.inLoop c) rfl (fun _ _=>.inl (by simp)) harr⟩
 have v0:=maskF_rel fr0 0 l _ hf;rw [e1] at v0;obtain ⟨e,a',w',hq,harr⟩:=key _ s0 σ w a rfl m0 v0 hd;exact ⟨e,a',w',hq,.of_steps (.one (fenced_calm hbf hroom rfl) stepR_loop) harr⟩
end Go.Ab
