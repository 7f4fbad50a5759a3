/-
  What is proved here serves the law's text: each part says its own claim and its conditions. No condition is left open.
-/
import Derived.Laws.RangeString
import Derived.Test.YtohegnfjdfcebaaGreatDoorKT
set_option maxHeartbeats 32000000
set_option maxRecDepth 100000
set_option linter.unusedSimpArgs false
set_option linter.unusedVariables false

namespace Go.Ab
open Go.ChangeMaps (setBlock)
theorem eval_ptr {σ:Sg} {fr:List AV} {a:Act} (hf:VRels σ fr a.tmps.toList) (gl:∀p∈GL,σ.FM p.1=some p.2) {o:Operand} {id:Id} {ep r:Nat} (h:evl fr o= .optr id ep 1 0 0) (hp:σ.ρ id ep=some (.at r 0 1 1 1)):a.eval o= .pointer (some ⟨r,0,none⟩):=by
 have hr:=evl_rel gl hf o;rw [h] at hr;generalize a.eval o=u at hr;cases hr with
 |optr hh=>rw [hp] at hh;cases hh;rfl
theorem tup3 {σ:Sg} {b:Bool} {k v:AV} {x y:Value} (h1:VRel σ k x) (h2:VRel σ v y):VRel σ (.tup [.bool b,k,v]) (.tuple #[.bool b,x,y]):=by
 refine .tup rfl fun i c u hc hu=>?_
 match i,hc,hu with
 |0,hc,hu=>cases hc;cases hu;exact .bool
 |1,hc,hu=>cases hc;cases hu;exact h1
 |2,hc,hu=>cases hc;cases hu;exact h2
 |i+3,hc,hu=>simp at hc
theorem tup2 {σ:Sg} {k v:AV} {x y:Value} (h1:VRel σ k x) (h2:VRel σ v y):VRel σ (.tup [k,v]) (.tuple #[x,y]):=by
 refine .tup rfl fun i c u hc hu=>?_
 match i,hc,hu with
 |0,hc,hu=>cases hc;cases hu;exact h1
 |1,hc,hu=>cases hc;cases hu;exact h2
 |i+2,hc,hu=>simp at hc
theorem tup1 {σ:Sg} {b:Bool}:VRel σ (.tup [.bool b]) (.tuple #[.bool b]):=by
 refine .tup rfl fun i c u hc hu=>?_
 match i,hc,hu with
 |0,hc,hu=>cases hc;cases hu;exact .bool
 |i+1,hc,hu=>simp at hc
theorem wanted_none {o:Oper} (g:o.guard=none) (l:Nat→Option Bool):Region.wanted o l=true:=by unfold Region.wanted;rw [g]
theorem wpOps_cons {F:Fence} {n:Nat} {P:Program} {ops:Array Oper} {Q:Exit→Act→World→Prop} {i:Nat} {rest:List Nat} {a:Act} {w:World} {o:Oper} (ho:ops[i]? =some o) (g:o.guard=none)
  (h:o.wpIn F n P a w (wpOpsIn F n P ops Q rest) Q):wpOpsIn F n P ops Q (i::rest) a w:=by
 unfold wpOpsIn;rw [ho];simp only;rw [if_pos (wanted_none g _)];exact h
def runeA (str:List UInt8) (pos:Nat):Nat×Nat:=Utf8.decode ⟨str.toArray⟩ pos
theorem runeA_pos (str:List UInt8) (pos:Nat):1≤(runeA str pos).2:=by
 unfold runeA Utf8.decode;simp only
 repeat' split
 all_goals simp
theorem runeA_ascii (str:List UInt8) (pos:Nat) (h:pos<str.length) (ha:(str[pos]).toNat<128):(runeA str pos).2=1:=by
 unfold runeA;rw [decode_ascii _ _ (by show pos<str.toArray.size;simpa using h) (by show (str.toArray[pos]'_).toNat<128;simpa using ha)]
theorem run_next_str {P:Program} (w:World) (r pos:Nat) (s:ByteArray) (ty:TypeId) (hr:w.heap[r]? =some (.stringIter s pos)):
  (Instr.next (.pointer (some ⟨r,0,none⟩)) true ty).run P w=if pos<s.size then .ok (.tuple #[.bool true,.int .i64 pos,.int .i32 (Utf8.decode s pos).1]) (setBlock w r (.stringIter s (pos+(Utf8.decode s pos).2))) else .ok (.tuple #[.bool false]) w:=by
 by_cases h:pos<s.size
 ·rw [if_pos h];simp [Instr.next,getObj,setObj,Sem.run,hr,Result.andThen,h,goInt,setBlock]
 ·rw [if_neg h];simp [Instr.next,getObj,Sem.run,hr,h]
theorem wk_rangeStr {C:Ctx} (ok:COk C) (hm:C.P.follows .mixedOrders=true) {A:Ann} {idb ids out nxt:Nat} {ops_b ops_s:Array Oper} {body:Code} {sb ss:Nat→Id}
  {o2 o3:Oper} {T:TypeId} {x more:Operand} {it tn:Tmp} {rs:List Nat} (m:Nat)
  (hrb:List.range ops_b.size=List.range m++[m]) (hob:ops_b[m]? =some o2) (g2:o2.guard=none) (e2:o2.op= .range T x) (d2:o2.dst=some it) (hT:kindOf C.ti T=some .str)
  (hos:ops_s[0]? =some o3) (hrs:List.range ops_s.size=0::rs) (g3:o3.guard=none) (e3:o3.op= .next (.tmp it) true) (d3:o3.dst=some tn)
  (str:List UInt8) (l kp:List Nat) {S:Type} (fr:Nat→S→List AV) (h:S→Heap) (p:S→Nat) (s0:S) (hs0:p s0=0) (gid:Id)
  (lr kr:List Nat) {S2:Type} (frR:S2→List AV) (hR:S2→Heap)
  {fr0:List AV} {h0:Heap} {K:AE→List AV→Heap→Prop}
  (hb:runOrd C ops_b sb (List.range m) fr0 h0 fun fr1 h1=>evl fr1 x= .str str∧(∀epI,maskF 0 l (fr1.set it (.optr gid epI 1 0 0))=fr epI s0)∧maskH 0 kp h1=h s0)
  (hptr:∀epI s,evl (fr epI s) (.tmp it)= .optr gid epI 1 0 0)
  (hround:∀epI s,p s<str.length→runOrd C ops_s ss rs ((fr epI s).set tn (.tup [.bool true,.int .i64 (p s),.int .i32 (runeA str (p s)).1])) (h s) fun fr1 h1=>evl fr1 more= .bool true∧
   aexR C A body fr1 h1 fun e fr' h'=>match e with
    | .normal=>Back fun s'=>maskF 0 l fr'=fr epI s'∧maskH 0 kp h'=h s'∧p s'=p s+(runeA str (p s)).2
    | .exit i=>Back fun s'=>i=nxt∧maskF 0 l fr'=fr epI s'∧maskH 0 kp h'=h s'∧p s'=p s+(runeA str (p s)).2
    | .ret=>Back fun s'=>maskF 0 lr fr'=frR s'∧maskH 0 kr h'=hR s'
    | .pan _ _=>False)
  (hr:∀s',K .ret (frR s') (hR s'))
  (hend:∀epI s,¬p s<str.length→runOrd C ops_s ss rs ((fr epI s).set tn (.tup [.bool false])) (h s) fun fr1 h1=>evl fr1 more= .bool false∧K .normal fr1 h1):
  WK C (.seq (.region idb ops_b false) (.block out (.loop (.seq (.region ids ops_s false) (.seq (.cond more .skip (.exit out)) (.block nxt body)))))) fr0 h0 K:=by
 refine ⟨fun rd B σ w a Q hrd hy hB s hf hd hQ=>?_⟩;refine wpIn_seq (wpIn_region ?_);rw [hrb];refine runOrd_then ok _ hy hf s hb fun fr1 h1 σ1 a1 w1 ⟨kx,kf,kH⟩ m1 hf1 hda=>?_;have hd1:DfOk B σ1 a1.defers:=by rw [hda];exact hd.mono m1.le
 refine wpOps_cons hob g2 ?_;refine ⟨fun _ _=>trivial,?_⟩;rw [Oper.semAt_eq _ _ _ (by intro c';rw [e2];simp)];have hxr:=evl_rel m1.sim.gl hf1 x;rw [kx] at hxr;have hxv:a1.eval x= .string ⟨str.toArray⟩:=by
  generalize a1.eval x=u at hxr;cases hxr;rfl
 obtain ⟨dT,hdT,hkT⟩:=kindOf_some hT;have hu:=(ok.tok _ _ hdT).str hkT;have hrun:=run_range_string (P:=C.P) w1 T ⟨str.toArray⟩ hu;rw [show (execOp a1.eval o2).run C.P w1= .ok (.value (.pointer (some ⟨w1.heap.size,0,none⟩))) (w1.alloc (.stringIter ⟨str.toArray⟩ 0)) by
  unfold execOp;rw [e2];simp only [hxv,Sem.run_bind,hrun,Result.andThen_ok,Sem.run_pure];rfl]
 rw [Oper.uponIn_value,d2];have m2:Mv σ1 h1 w1 σ1 h1 (w1.alloc (.stringIter ⟨str.toArray⟩ 0)):=m1.sim.grown (os:=#[.stringIter ⟨str.toArray⟩ 0]) (by show w1.heap.push _=_;simp) ⟨rfl,rfl,rfl⟩;have hr2:(w1.alloc (.stringIter ⟨str.toArray⟩ 0)).heap[w1.heap.size]? =some (.stringIter ⟨str.toArray⟩ 0):=by
  show (w1.heap.push _)[w1.heap.size]? =_;simp
 generalize hw2:w1.alloc (.stringIter ⟨str.toArray⟩ 0)=w2 at m2 hr2;obtain ⟨epI,σ2,m3,hp⟩:=m2.sim.ghost gid w1.heap.size;have m4:Mv σ2 h1 w2 σ2 (h s0) w2:=m3.sim.forget fun i o y=>by
  rw [←kH] at y;exact maskH_get _ _ _ _ _ y
 have mm:=((m1.trans m2).trans m3).trans m4;have hsz:w.heap.size≤w1.heap.size:=m1.size;have nlr:¬Live σ2 (h s0) w1.heap.size:=fun y=>by
  rcases (m3.trans m4).live _ y with y|y
  ·have:=Live.lt m1.sim (b:=w1.heap.size) y;omega
  ·have:=(Array.getElem?_eq_some_iff.1 hr2).1;omega
 have fmr:σ2.FM w1.heap.size=none:=by
  cases hc:σ2.FM w1.heap.size with
  |none=>rfl
  |some cs=>
   rcases m3.new w1.heap.size (by rw [hc];simp) with y|y|y
   ·cases hc:σ1.FM w1.heap.size with
    |none=>exact absurd hc y
    |some cs=>
     obtain ⟨T',fz,z⟩:=m1.sim.fm _ _ hc;have:=(Array.getElem?_eq_some_iff.1 z).1;omega
   ·have:=Live.lt m1.sim (b:=w1.heap.size) y;omega
   ·have:=(Array.getElem?_eq_some_iff.1 hr2).1;omega
 have x0:Hid σ2 (h s0) w2 w1.heap.size (.stringIter ⟨str.toArray⟩ (p s0)):=⟨by rw [hs0];exact hr2,nlr,fmr⟩;have hf2:VRels σ2 (fr epI s0) (a1.put (some it) (.pointer (some ⟨w1.heap.size,0,none⟩))).tmps.toList:=by
  rw [←kf epI];refine maskF_rel _ 0 l _ ?_;refine putF_rel (dst:=some it) (hf1.mono (m2.le.trans m3.le)) ?_;have:=VRel.optr (σ:=σ2) (sz:=1) (i:=0) (off:=0) hp;simpa using this
 have hd2:DfOk B σ2 (a1.put (some it) (.pointer (some ⟨w1.heap.size,0,none⟩))).defers:=hd1.mono (m2.le.trans m3.le);generalize a1.put (some it) (.pointer (some ⟨w1.heap.size,0,none⟩))=a2 at hf2 hd2;generalize hrr:w1.heap.size=r at *;show (Code.block out _).wpIn (FR rd) 0 C.P Q a2 w2;refine wpIn_block ?_;refine wpIn_loop (fun a' w'=>∃s σ',Mv σ h0 w σ' (h s) w'∧VRels σ' (fr epI s) a'.tmps.toList∧DfOk B σ' a'.defers∧σ'.ρ gid epI=some (.at r 0 1 1 1)∧Hid σ' (h s) w' r (.stringIter ⟨str.toArray⟩ (p s)))
  (fun _ w'=>match w'.heap[r]? with|some (.stringIter _ q)=>str.length-q|_=>0)
  ⟨s0,σ2,mm,hf2,hd2,hp,x0⟩ ?_
 rintro a3 w3 ⟨sx,σ3,m5,hf3,hd3,hp3,x3⟩;refine wpIn_seq (wpIn_region ?_);rw [hrs];refine wpOps_cons hos g3 ?_;refine ⟨fun _ _=>trivial,?_⟩;rw [Oper.semAt_eq _ _ _ (by intro c';rw [e3];simp)];have hpv:=eval_ptr hf3 m5.sim.gl (hptr epI sx) hp3;have hrun3:=run_next_str (P:=C.P) w3 r (p sx) ⟨str.toArray⟩ o3.type x3.get;have hss:(⟨str.toArray⟩:ByteArray).size=str.length:=by simp [ByteArray.size]
 by_cases hlt:p sx<str.length
 ·rw [if_pos (by rw [hss];exact hlt)] at hrun3;rw [show (execOp a3.eval o3).run C.P w3= .ok (.value (.tuple #[.bool true,.int .i64 (p sx),.int .i32 (runeA str (p sx)).1])) (setBlock w3 r (.stringIter ⟨str.toArray⟩ (p sx+(runeA str (p sx)).2))) by
   unfold execOp;rw [e3];simp only [hpv,Sem.run_bind,hrun3,Result.andThen_ok,Sem.run_pure];rfl]
  rw [Oper.uponIn_value,d3];obtain ⟨t1,t2,t3⟩:=Hid.turn (o':=.stringIter ⟨str.toArray⟩ (p sx+(runeA str (p sx)).2)) m5 x3 (by omega) rfl (.inl rfl);refine runOrd_sound ok rs (hy.mono m5.le) (putF_rel (dst:=some tn) hf3 (tup3 .int .int)) t1.sim (hround epI sx hlt) fun fr1 h1' σ4 a4 w5 ⟨k1,k3⟩ m7 v7 d7=>?_;have hev:a4.eval more= .bool true:=by
   have hr:=evl_rel m7.sim.gl v7 more;rw [k1] at hr;generalize a4.eval more=u at hr;cases hr;rfl
  have x5:=t2.mv m7;have hp5:=m7.le.ρ _ _ _ hp3;show (Code.seq _ _).wpIn (FR rd) 0 C.P _ a4 w5;refine wpIn_seq (wpIn_cond_true hev (wpIn_skip ?_));show (Code.block nxt _).wpIn (FR rd) 0 C.P _ a4 w5;refine wpIn_block ?_;rw [aexR_eq] at k3;have hd5:DfOk B σ4 a4.defers:=by
   rw [d7];exact hd3.mono m7.le
  refine (aexec_sound ok hm k3).use rd B σ4 w5 a4 _ hrd (hy.mono (t1.trans m7).le) (Nat.le_trans hB (t1.trans m7).size) m7.sim v7 hd5 fun e' fr' h' σ6 a6 w7 k5 m9 v9 d9=>?_;have again:(∃s',maskF 0 l fr'=fr epI s'∧maskH 0 kp h'=h s'∧p s'=p sx+(runeA str (p sx)).2)→
    (∃s σ',Mv σ h0 w σ' (h s) w7∧VRels σ' (fr epI s) a6.tmps.toList∧DfOk B σ' a6.defers∧σ'.ρ gid epI=some (.at r 0 1 1 1)∧Hid σ' (h s) w7 r (.stringIter ⟨str.toArray⟩ (p s)))∧
    (match w7.heap[r]? with|some (.stringIter _ q)=>str.length-q|_=>0)<(match w3.heap[r]? with|some (.stringIter _ q)=>str.length-q|_=>0):=by
   rintro ⟨s',e5,e6,e7⟩;have m10:Mv σ6 h' w7 σ6 (h s') w7:=by
    rw [←e6];exact m9.sim.forget fun i o y=>maskH_get _ _ _ _ _ y
   have v10:=maskF_rel fr' 0 l _ v9;rw [e5] at v10;have x6:=((x5.mv m9).mv m10);refine ⟨⟨s',σ6,((t1.trans m7).trans m9).trans m10,v10,d9,m9.le.ρ _ _ _ hp5,by rw [e7];exact x6⟩,?_⟩
   ·rw [x6.get,x3.get];have:=runeA_pos str (p sx);simp only;omega
  cases e' with
  |normal=>exact again (back_ex k5)
  |exit i=>
   obtain ⟨s',ei,rest⟩:=back_ex k5;subst ei;show (if i=i then _ else _);rw [if_pos rfl];exact again ⟨s',rest⟩
  |ret=>
   obtain ⟨s',e3,e4⟩:=back_ex k5;have m10:Mv σ6 h' w7 σ6 (hR s') w7:=by
    rw [←e4];exact m9.sim.forget fun i o y=>maskH_get _ _ _ _ _ y
   have v10:=maskF_rel fr' 0 lr _ v9;rw [e3] at v10;exact hQ .ret _ _ σ6 a6 w7 (hr s') (((t1.trans m7).trans m9).trans m10) v10 d9
  |pan t v=>exact k5.elim
 ·rw [if_neg (by rw [hss];exact hlt)] at hrun3;rw [show (execOp a3.eval o3).run C.P w3= .ok (.value (.tuple #[.bool false])) w3 by
   unfold execOp;rw [e3];simp only [hpv,Sem.run_bind,hrun3,Result.andThen_ok,Sem.run_pure]]
  rw [Oper.uponIn_value,d3];refine runOrd_sound ok rs (hy.mono m5.le) (putF_rel (dst:=some tn) hf3 tup1) m5.sim (hend epI sx hlt) fun fr' h' σ' a' w' ⟨k1,k2⟩ m6 v6 d6=>?_;have hev:a'.eval more= .bool false:=by
   have hr:=evl_rel m6.sim.gl v6 more;rw [k1] at hr;generalize a'.eval more=u at hr;cases hr;rfl
  show (Code.seq _ _).wpIn (FR rd) 0 C.P _ a' w';refine wpIn_seq (wpIn_cond_false hev (wpIn_exit ?_));show (if out=out then Q .normal a' w' else _);rw [if_pos rfl];refine hQ .normal fr' h' σ' a' w' k2 (m5.trans m6) v6 ?_;rw [d6];exact hd3.mono m6.le
end Go.Ab

namespace Go.Ab
theorem Sub.tup {l m:List AV} (h:SubL l m):Sub (.tup l) (.tup m):=⟨fun σ v hv=>by
 cases hv with
 | @tup _ _ vs len w=>
  refine .tup (by rw [←h.get.1];exact len) fun i c u x y=>?_;obtain ⟨a,ha,s⟩:=h.get.2 i c x;exact s.use _ _ (w i a u ha y)⟩



def mcG (n len ep2:Nat):AV→AV
 | .oslc (.s k) ep sz off l lim=>match Nat.beq k n with
  |true=>.oslc (.d len) ep2 sz off l lim
  |false=>.oslc (.s k) ep sz off l lim
 | .optr (.s k) ep sz i off=>match Nat.beq k n with
  |true=>.optr (.d len) ep2 sz i off
  |false=>.optr (.s k) ep sz i off
 | .mp (.s k) ep=>match Nat.beq k n with
  |true=>.mp (.d len) ep2
  |false=>.mp (.s k) ep
 |a=>a
def okG (n ep:Nat):AV→Prop
 | .oslc (.s k) e _ _ _ _=>(match Nat.beq k n with|true=>e=ep|false=>True)
 | .optr (.s k) e _ _ _=>(match Nat.beq k n with|true=>e=ep|false=>True)
 | .mp (.s k) e=>(match Nat.beq k n with|true=>e=ep|false=>True)
 |_=>True
def eqsG (n ep:Nat):List AV→Prop
 | []=>True
 |a::r=>okG n ep a∧eqsG n ep r
def allG (n ep:Nat):List AObj→Prop
 | []=>True
 |o::r=>eqsG n ep (celO o)∧allG n ep r
theorem eqsG_all {n ep:Nat}:∀{l:List AV},eqsG n ep l→∀a∈l,okG n ep a
 |b::r,h,a,ha=>by
  rcases List.mem_cons.1 ha with rfl|h2
  ·exact h.1
  ·exact eqsG_all h.2 a h2
theorem eqsG_of {n ep:Nat}:∀{l:List AV},(∀a∈l,okG n ep a)→eqsG n ep l
 | [],_=>trivial
 |b::r,h=>⟨h b (List.mem_cons_self ..),eqsG_of fun a ha=>h a (List.mem_cons_of_mem _ ha)⟩
theorem allG_get {n ep:Nat}:∀{l:List AObj},allG n ep l→∀o∈l,eqsG n ep (celO o)
 |o::r,h,x,hx=>by
  rcases List.mem_cons.1 hx with rfl|hx
  ·exact h.1
  ·exact allG_get h.2 x hx
theorem allG_of {n ep:Nat}:∀{l:List AObj},(∀o∈l,eqsG n ep (celO o))→allG n ep l
 | [],_=>trivial
 |b::r,h=>⟨h b (List.mem_cons_self ..),allG_of fun a ha=>h a (List.mem_cons_of_mem _ ha)⟩
def noSt:AV→Bool
 | .oslc (.s _) _ _ _ _ _| .optr (.s _) _ _ _ _| .mp (.s _) _=>false
 |_=>true
theorem okG_no {n ep:Nat} {a:AV} (h:noSt a=true):okG n ep a:=by
 unfold okG
 split<;>first|trivial|simp [noSt] at h
theorem mcG_no {n len ep2:Nat} {a:AV} (h:noSt a=true):mcG n len ep2 a=a:=by
 unfold mcG
 split<;>first|rfl|simp [noSt] at h
def noO (o:AObj):Prop:=∀a∈celO o,noSt a=true
theorem noO_eqs {n ep:Nat} {o:AObj} (h:noO o):eqsG n ep (celO o):=eqsG_of fun a ha=>okG_no (h a ha)
theorem noO_map {n len ep2:Nat} {o:AObj} (h:noO o):o.mapc (mcG n len ep2)=o:=by
 cases o with
 |hole=>rfl
 |vec ep rows=>
  simp only [AObj.mapc,AObj.vec.injEq,true_and]
  conv=>rhs;rw [←List.map_id rows]
  refine List.map_congr_left fun r hr=>?_
  conv=>rhs;rw [id,←List.map_id r]
  exact List.map_congr_left fun a ha=>mcG_no (h a (List.mem_flatten.2 ⟨r,hr,ha⟩))
 |map ep es=>
  simp only [AObj.mapc,AObj.map.injEq,true_and]
  conv=>rhs;rw [←List.map_id es]
  refine List.map_congr_left fun p hp=>?_;have h1:=mcG_no (n:=n) (len:=len) (ep2:=ep2) (h p.1 (List.mem_flatMap.2 ⟨p,hp,by simp⟩));have h2:=mcG_no (n:=n) (len:=len) (ep2:=ep2) (h p.2 (List.mem_flatMap.2 ⟨p,hp,by simp⟩));simp only [h1,h2,id]
theorem noO_all {n ep:Nat} {D:List AObj} (h:∀o∈D,noO o):allG n ep D:=allG_of fun o ho=>noO_eqs (h o ho)
theorem noO_maps {n len ep2:Nat} {D:List AObj} (h:∀o∈D,noO o):D.map (AObj.mapc (mcG n len ep2))=D:=by
 conv=>rhs;rw [←List.map_id D]
 exact List.map_congr_left fun o ho=>noO_map (h o ho)
theorem Sim.mvG {n ep:Nat} {σ:Sg} {fr:List AV} {h:Heap} {w:World} {vs:List Value} {o:AObj} (hf:VRels σ fr vs) (s:Sim σ h w) (hn:h[Id.s n]? =some o) (he:o.ep?=some ep)
  (q0:eqsG n ep (fr.flatMap celV)) (q1:allG n ep (h.st.set n .hole)) (q2:allG n ep h.dy) (q3:eqsG n ep (celO o)):
  ∃ep2 σ',Mv σ h w σ' ⟨(h.st.set n .hole).map (AObj.mapc (mcG n h.dy.length ep2)),(h.dy++[o.reEp ep2]).map (AObj.mapc (mcG n h.dy.length ep2))⟩ w∧VRels σ' (fr.map (mapV (mcG n h.dy.length ep2))) vs:=by
 obtain ⟨ep2,σ',m,hρ⟩:=s.move (n:=n) (ep:=ep) hn he;have back:∀pl,σ'.ρ (.s n) ep=some pl→σ.ρ (.s n) ep=some pl:=by
  intro pl hp;have hob:=s.obj _ _ hn;cases o with
  |hole=>simp [AObj.ep?] at he
  |vec e rows=>
   simp only [AObj.ep?,Option.some.injEq] at he;subst he
   rcases hob with ⟨_,x⟩|⟨blk,st,sz1,n1,size,cs,T,x,_⟩
   ·have:=m.le.ρ _ _ _ x;rw [this] at hp;rw [x,hp]
   ·have:=m.le.ρ _ _ _ x;rw [this] at hp;rw [x,hp]
  |map e es=>
   simp only [AObj.ep?,Option.some.injEq] at he;subst he;obtain ⟨blk,st,sz1,n1,size,ents,clock,x,_⟩:=hob;have:=m.le.ρ _ _ _ x;rw [this] at hp;rw [x,hp]
 have re:=fun (v:Value)=>VRel.reid (σ:=σ') (σ':=σ') (id:=.s n) (id2:=.d h.dy.length) (ep:=ep) (ep2:=ep2) ⟨fun _ _ _ x=>x,fun _ _ x=>x⟩ (fun pl x=>hρ pl (back pl x)) (v:=v);have cell:∀{c:AV},okG n ep c→∀u,VRel σ' c u→VRel σ' (mcG n h.dy.length ep2 c) u:=by
  intro c hc u hu;unfold mcG
  split
  ·split
   ·rename_i e;simp only [okG,e] at hc;have e:=Nat.eq_of_beq_eq_true e;subst e hc;exact (re u).1 hu
   ·exact hu
  ·split
   ·rename_i e;simp only [okG,e] at hc;have e:=Nat.eq_of_beq_eq_true e;subst e hc;exact (re u).2.1 hu
   ·exact hu
  ·split
   ·rename_i e;simp only [okG,e] at hc;have e:=Nat.eq_of_beq_eq_true e;subst e hc;exact (re u).2.2 hu
   ·exact hu
  ·exact hu
 have q3':eqsG n ep (celO (o.reEp ep2)):=by cases o<;>exact q3
 have ob:∀(i:Id) (x:AObj),(⟨h.st.set n .hole,h.dy++[o.reEp ep2]⟩:Heap)[i]? =some x→∀a∈celO x,okG n ep a:=by
  intro i x ho a ha;cases i with
  |s k=>exact eqsG_all (allG_get q1 x (List.mem_of_getElem? (show (h.st.set n .hole)[k]? =some x from ho))) a ha
  |d k=>
   have hm:=List.mem_of_getElem? (show (h.dy++[o.reEp ep2])[k]? =some x from ho)
   rcases List.mem_append.1 hm with hm|hm
   ·exact eqsG_all (allG_get q2 x hm) a ha
   ·obtain rfl:=List.mem_singleton.1 hm;exact eqsG_all q3' a ha
 have m2:=Sim.recell (f:=mcG n h.dy.length ep2) m.sim fun i o ho a ha u hu=>cell (ob i o ho a ha) u hu;refine ⟨ep2,σ',m.trans m2,⟨by simpa using hf.1,fun i a v x y=>?_⟩⟩;rw [List.getElem?_map,Option.map_eq_some_iff] at x;obtain ⟨a',x,rfl⟩:=x;exact VRel.mapV (fun c hc u hu=>cell (eqsG_all q0 c (List.mem_flatMap.2 ⟨a',List.mem_of_getElem? x,hc⟩)) u hu) ((hf.2 i a' v x y).mono m.le)
theorem wk_mask {C:Ctx} {c:Code} {fr:List AV} {h:Heap} {K:AE→List AV→Heap→Prop} (l k:List Nat) {fr':List AV} {h':Heap} (e1:maskF 0 l fr=fr') (e2:maskH 0 k h=h') (hc:WK C c fr' h' K):WK C c fr h K:=by
 subst e1 e2;refine ⟨fun rd B σ w a Q hrd hy hB s hf hd hQ=>?_⟩;have m:Mv σ h w σ (maskH 0 k h) w:=s.forget fun i o x=>maskH_get _ _ _ _ _ x;exact hc.use rd B σ w a Q hrd hy hB m.sim (maskF_rel _ _ _ _ hf) hd fun e fr2 h2 σ2 a2 w2 k2 m2=>hQ e fr2 h2 σ2 a2 w2 k2 (m.trans m2)
theorem ACalls.liftC {P:Program} {f:FuncId} {args:List AV} {h:Heap} {K:AV→Heap→Prop} (b j e sz i k:Nat) {rows:List (List AV)} {row:List AV} (hne:b≠j) (hb:h[Id.s b]? =some (.vec e rows)) (hr:rows[i]? =some row) (hk:row[k]? =some .nils)
  (hc:∀ep,ACalls P f args ((h.set (.s j) (.vec ep [])).set (.s b) (.vec e (rows.set i (row.set k (.oslc (.s j) ep sz 0 0 false))))) K):ACalls P f args h K:=by
 refine ⟨fun σ w vs s hv=>?_⟩;obtain ⟨ep,σ1,m⟩:=s.liftC (sz:=sz) hne hb hr hk;refine ((hc ep).use σ1 w vs m.sim (hv.mono m.le)).mono ?_;rintro e w' ⟨v,rfl,σ2,h2,r,hk,m2,x⟩;exact ⟨v,rfl,σ2,h2,r,hk,m.trans m2,x⟩
end Go.Ab

namespace Go.Ab
def TR (fr:List AV) (h:Heap) (K:List AV→Heap→Prop):Prop:=
 ∀(σ:Sg) (w:World) (vs:List Value),VRels σ fr vs→Sim σ h w→∃σ' fr' h',K fr' h'∧Mv σ h w σ' h' w∧VRels σ' fr' vs
section
variable {fr:List AV} {h:Heap} {K:List AV→Heap→Prop}
theorem tr_done (k:K fr h):TR fr h K:=fun σ w vs hf s=>⟨_,fr,h,k,.refl s,hf⟩
theorem fcS_noSt {n:Nat} {rows:List (List AV)} {a:AV} (h:noSt a=true):fcS n rows a=a:=by
 unfold fcS
 split<;>first|rfl|simp [noSt] at h
theorem fcO_noO {n:Nat} {rows:List (List AV)} {o:AObj} (h:noO o):o.fcO n rows=o:=by
 cases o with
 |hole=>rfl
 |vec ep rs=>
  simp only [AObj.fcO,AObj.vec.injEq,true_and]
  conv=>rhs;rw [←List.map_id rs]
  refine List.map_congr_left fun r hr=>?_
  conv=>rhs;rw [id,←List.map_id r]
  exact List.map_congr_left fun a ha=>fcS_noSt (h a (List.mem_flatten.2 ⟨r,hr,ha⟩))
 |map ep es=>
  simp only [AObj.fcO,AObj.map.injEq,true_and]
  conv=>rhs;rw [←List.map_id es]
  refine List.map_congr_left fun p hp=>?_;have h1:=fcS_noSt (n:=n) (rows:=rows) (h p.1 (List.mem_flatMap.2 ⟨p,hp,by simp⟩));have h2:=fcS_noSt (n:=n) (rows:=rows) (h p.2 (List.mem_flatMap.2 ⟨p,hp,by simp⟩));simp only [h1,h2,id]
theorem fcO_nos {n:Nat} {rows:List (List AV)} {D:List AObj} (h:∀o∈D,noO o):D.map (AObj.fcO n rows)=D:=by
 conv=>rhs;rw [←List.map_id D]
 exact List.map_congr_left fun o ho=>fcO_noO (h o ho)
theorem eqsP_cons {n ep:Nat} {a:AV} {r:List AV} (ha:noSt a=true) (h:eqsP n ep r):eqsP n ep (a::r):=by
 unfold eqsP
 split
 ·simp [noSt] at ha
 ·exact h
theorem eqsP_noSt {n ep:Nat}:∀{l:List AV},(∀a∈l,noSt a=true)→eqsP n ep l
 | [],_=>trivial
 |a::r,h=>eqsP_cons (h a (List.mem_cons_self ..)) (eqsP_noSt fun b hb=>h b (List.mem_cons_of_mem _ hb))
theorem allO_noSt {n ep:Nat}:∀{D:List AObj},(∀o∈D,noO o)→allO n ep D
 | [],_=>trivial
 |o::r,h=>⟨eqsP_noSt (h o (List.mem_cons_self ..)),allO_noSt fun b hb=>h b (List.mem_cons_of_mem _ hb)⟩
theorem eqsP_of {n ep:Nat}:∀{l:List AV},(∀a∈l,okS n ep a)→eqsP n ep l
 | [],_=>trivial
 |a::r,h=>by
  have h1:=h a (List.mem_cons_self ..);have h2:=eqsP_of (n:=n) (ep:=ep) fun b hb=>h b (List.mem_cons_of_mem _ hb);unfold eqsP
  split
  ·split
   ·rename_i e;exact ⟨h1 (Nat.eq_of_beq_eq_true e),h2⟩
   ·exact h2
  ·exact h2
theorem tr_fz {st dy:List AObj} (n ep:Nat) {rows:List (List AV)} {fr':List AV} {st':List AObj} (hn:st[n]? =some (.vec ep rows)) (hp:pureRows rows) (q1:eqsP n ep (fr.flatMap celV)) (q2:allO n ep (st.set n .hole)) (hD:∀o∈dy,noO o)
  (e1:fr.map (fcV n rows)=fr') (e2:(st.set n .hole).map (AObj.fcO n rows)=st') (k:TR fr' ⟨st',dy⟩ K):TR fr ⟨st,dy⟩ K:=by
 subst e1 e2;intro σ w vs hf s;have hk:fzSK n fr ⟨st,dy⟩ fun fr2 h2=>fr2=fr.map (fcV n rows)∧h2=⟨(st.set n .hole).map (AObj.fcO n rows),dy⟩:=by
  unfold fzSK;rw [show (Heap.mk st dy).st[n]? =some (.vec ep rows) from hn];exact ⟨hp,q1,q2,allO_noSt hD,rfl,by rw [fcO_nos hD]⟩
 obtain ⟨σ1,fr1,h1,⟨rfl,rfl⟩,m,r⟩:=fzSK_sound hf s hk;obtain ⟨σ2,fr2,h2,k2,m2,r2⟩:=k σ1 w vs r m.sim;exact ⟨σ2,fr2,h2,k2,m.trans m2,r2⟩
theorem tr_mvG {st dy:List AObj} (n ep:Nat) {o:AObj} (hn:st[n]? =some o) (he:o.ep?=some ep) (q0:eqsG n ep (fr.flatMap celV)) (q1:allG n ep (st.set n .hole)) (q3:eqsG n ep (celO o)) (hD:∀o∈dy,noO o)
  (hc:∀ep2,TR (fr.map (mapV (mcG n dy.length ep2))) ⟨(st.set n .hole).map (AObj.mapc (mcG n dy.length ep2)),dy++[(o.reEp ep2).mapc (mcG n dy.length ep2)]⟩ K):TR fr ⟨st,dy⟩ K:=by
 intro σ w vs hf s;obtain ⟨ep2,σ1,m,hv⟩:=s.mvG (n:=n) (ep:=ep) hf (o:=o) hn he q0 q1 (noO_all hD) q3;have e:(⟨(st.set n .hole).map (AObj.mapc (mcG n dy.length ep2)),(dy++[o.reEp ep2]).map (AObj.mapc (mcG n dy.length ep2))⟩:Heap)=⟨(st.set n .hole).map (AObj.mapc (mcG n dy.length ep2)),dy++[(o.reEp ep2).mapc (mcG n dy.length ep2)]⟩:=by
  rw [List.map_append,noO_maps hD];rfl
 rw [e] at m;obtain ⟨σ2,fr2,h2,k2,m2,r2⟩:=hc ep2 σ1 w vs hv m.sim;exact ⟨σ2,fr2,h2,k2,m.trans m2,r2⟩
theorem tr_eq {fr':List AV} {h':Heap} (e1:fr=fr') (e2:h=h') (k:TR fr' h' K):TR fr h K:=by subst e1 e2;exact k
theorem wk_tr {C:Ctx} {c:Code} {K:AE→List AV→Heap→Prop} (k:TR fr h fun fr h=>WK C c fr h K):WK C c fr h K:=by
 refine ⟨fun rd B σ w a Q hrd hy hB s hf hd hQ=>?_⟩;obtain ⟨σ2,fr2,h2,k2,m2,r2⟩:=k σ w _ hf s;exact k2.use rd B σ2 w a Q hrd (hy.mono m2.le) hB m2.sim r2 (hd.mono m2.le) fun e fr3 h3 σ3 a3 w3 k3 m3=>hQ e fr3 h3 σ3 a3 w3 k3 (m2.trans m3)
end
end Go.Ab

namespace Go.Ab
def flat0:AV→Bool
 | .int _ _| .bool _=>true
 |_=>false
def flatV:AV→Bool
 | .tup cs=>cs.all flat0
 |a=>flat0 a
theorem flat0_rel {σ τ:Sg} {a:AV} {v:Value} (hf:flat0 a=true) (h:VRel σ a v):VRel τ a v:=by
 cases h<;>first|exact .int|exact .bool|simp [flat0] at hf
theorem flatV_rel {σ τ:Sg} {a:AV} {v:Value} (hf:flatV a=true) (h:VRel σ a v):VRel τ a v:=by
 by_cases c:∃cs,a= .tup cs
 ·obtain ⟨cs,rfl⟩:=c;cases h with
  |tup l w=>
   refine .tup l fun i c v x y=>flat0_rel ?_ (w i c v x y);exact List.all_eq_true.1 hf c (List.mem_of_getElem? x)
 ·refine flat0_rel ?_ h;unfold flatV at hf
  split at hf
  ·exact absurd ⟨_,rfl⟩ c
  ·exact hf

end Go.Ab

namespace Go.Ab
section
variable {fr:List AV} {h:Heap} {K:List AV→Heap→Prop}
end
theorem allO_of {n ep:Nat}:∀{D:List AObj},(∀o∈D,eqsP n ep (celO o))→allO n ep D
 | [],_=>trivial
 |o::r,h=>⟨h o (List.mem_cons_self ..),allO_of fun b hb=>h b (List.mem_cons_of_mem _ hb)⟩
end Go.Ab

namespace Go.Ab

end Go.Ab

namespace Go.Ab
def fcP (n:Nat) (rows:List (List AV)):AV→AV
 | .optr (.s k) ep sz i off=>match Nat.beq k n with
  |true=>.lptr sz rows i off
  |false=>.optr (.s k) ep sz i off
 |a=>a
theorem okS_G {n ep:Nat} {a:AV} (h:okG n ep a):okS n ep a:=by
 unfold okS
 split
 ·rename_i k e _ _ _ _;intro hk;subst hk;simp only [okG] at h;rw [show Nat.beq k k=true from Nat.beq_refl k] at h;exact h
 ·trivial
theorem okG_fcS {n ep:Nat} {rows:List (List AV)} {c:AV} (h:okG n ep c):okG n ep (fcS n rows c):=by
 unfold fcS
 split
 ·split
  ·trivial
  ·exact h
 ·exact h
theorem celO_fcO {n:Nat} {rows:List (List AV)} {o:AObj} {a:AV} (h:a∈celO (o.fcO n rows)):∃c∈celO o,a=fcS n rows c:=by
 cases o with
 |hole=>cases h
 |vec ep rs=>
  obtain ⟨r,hr,ha⟩:=List.mem_flatten.1 h;obtain ⟨r',hr',rfl⟩:=List.mem_map.1 hr;obtain ⟨c,hc,rfl⟩:=List.mem_map.1 ha;exact ⟨c,List.mem_flatten.2 ⟨r',hr',hc⟩,rfl⟩
 |map ep es=>
  obtain ⟨p,hp,ha⟩:=List.mem_flatMap.1 h;obtain ⟨p',hp',rfl⟩:=List.mem_map.1 hp;simp only [List.mem_cons,List.not_mem_nil,or_false] at ha
  rcases ha with rfl|rfl
  ·exact ⟨p'.1,List.mem_flatMap.2 ⟨p',hp',by simp⟩,rfl⟩
  ·exact ⟨p'.2,List.mem_flatMap.2 ⟨p',hp',by simp⟩,rfl⟩
theorem celV_fcV {n:Nat} {rows:List (List AV)} {v a:AV} (h:a∈celV (fcV n rows v)):∃c∈celV v,a=fcS n rows c:=by
 have one:∀{x:AV},(∀cs,x≠.agg cs)→(∀cs,x≠.tup cs)→celV (fcS n rows x)=[fcS n rows x]:=by
  intro x h1 h2;unfold fcS
  split
  ·split<;>rfl
  ·unfold celV
   split
   ·exact absurd rfl (h1 _)
   ·exact absurd rfl (h2 _)
   ·rfl
 unfold fcV at h
 split at h
 ·rename_i cs;obtain ⟨c,hc,rfl⟩:=List.mem_map.1 h;exact ⟨c,hc,rfl⟩
 ·rename_i cs;obtain ⟨x,hx,ha⟩:=List.mem_flatMap.1 h;obtain ⟨y,hy,rfl⟩:=List.mem_map.1 hx
  split at ha
  ·rename_i e
   split at e
   ·rename_i cs2;cases e;obtain ⟨c,hc,rfl⟩:=List.mem_map.1 ha;exact ⟨c,List.mem_flatMap.2 ⟨_,hy,hc⟩,rfl⟩
   ·rename_i hn;exfalso;unfold fcS at e
    split at e
    ·split at e<;>cases e
    ·exact hn _ e
  ·rename_i hn;rw [List.mem_singleton] at ha;subst ha
   split
   ·rename_i cs2;exact absurd rfl (hn _)
   ·rename_i hn2;refine ⟨y,List.mem_flatMap.2 ⟨y,hy,?_⟩,rfl⟩
    split
    ·rename_i cs2;exact absurd rfl (hn2 cs2)
    ·exact List.mem_singleton.2 rfl
 ·rename_i h1 h2;rw [one (fun cs e=>h1 cs e) (fun cs e=>h2 cs e)] at h;rw [List.mem_singleton] at h;refine ⟨v,?_,h⟩;unfold celV
  split
  ·rename_i cs;exact absurd rfl (h1 cs)
  ·rename_i cs;exact absurd rfl (h2 cs)
  ·exact List.mem_singleton.2 rfl
section
variable {fr:List AV} {K:List AV→Heap→Prop}
theorem tr_fp {st dy:List AObj} (n ep:Nat) {row:List AV} {fr':List AV} {st' dy':List AObj} (hn:st[n]? =some (.vec ep [row])) (hp:pureRows [row])
  (q0:eqsG n ep (fr.flatMap celV)) (q1:allG n ep (st.set n .hole)) (q2:allG n ep dy)
  (e0:(fr.map (fcV n [row])).map (mapV (fcP n [row]))=fr') (e1:((st.set n .hole).map (AObj.fcO n [row])).map (AObj.mapc (fcP n [row]))=st') (e2:(dy.map (AObj.fcO n [row])).map (AObj.mapc (fcP n [row]))=dy')
  (k:TR fr' ⟨st',dy'⟩ K):TR fr ⟨st,dy⟩ K:=by
 subst e0 e1 e2;intro σ w vs hf s;have hob:=s.obj (.s n) _ (show (⟨st,dy⟩:Heap)[Id.s n]? =some (.vec ep [row]) from hn)
 rcases hob with ⟨h1,_⟩|⟨blk,b0,sz,m,size,cs,T,h1,h2,h3,h4,h5,h6,h7,h8⟩
 ·simp at h1
 have h4:m=1:=by simpa using h4
 subst h4;have hsz:row.length=sz:=h7 0 row rfl;have hv:VRel σ (.oslc (.s n) ep sz 0 1 false) (.slice (some ⟨blk,b0+0 * sz,none⟩) 1 1):=.oslc h1 (by omega) (fun _=>by omega) (fun h=>by cases h) (by omega) (by omega);have hf2:VRels σ (fr++[.oslc (.s n) ep sz 0 1 false]) (vs++[.slice (some ⟨blk,b0+0 * sz,none⟩) 1 1]):=by
  refine ⟨by simpa using hf.1,fun i a v x y=>?_⟩;by_cases c:i<fr.length
  ·rw [List.getElem?_append_left c] at x;rw [List.getElem?_append_left (by rw [←hf.1];exact c)] at y;exact hf.2 i a v x y
  ·have hl:=(List.getElem?_eq_some_iff.1 x).1;rw [List.length_append,List.length_singleton] at hl;have e:i=fr.length:=by omega
   subst e;rw [List.getElem?_append_right (Nat.le_refl _),Nat.sub_self] at x;rw [hf.1,List.getElem?_append_right (Nat.le_refl _),Nat.sub_self] at y;cases x;cases y;exact hv
 have P0:∀{l:List AV},eqsG n ep l→eqsP n ep l:=fun h=>eqsP_of fun a ha=>okS_G (eqsG_all h a ha);have P1:∀{l:List AObj},allG n ep l→allO n ep l:=fun h=>allO_of fun o ho=>P0 (allG_get h o ho);have hk:fzSK n (fr++[AV.oslc (.s n) ep sz 0 1 false]) ⟨st,dy⟩ fun fr2 h2=>fr2=(fr++[AV.oslc (.s n) ep sz 0 1 false]).map (fcV n [row])∧h2=⟨(st.set n .hole).map (AObj.fcO n [row]),dy.map (AObj.fcO n [row])⟩:=by
  unfold fzSK;rw [show (Heap.mk st dy).st[n]? =some (.vec ep [row]) from hn];refine ⟨hp,?_,P1 q1,P1 q2,rfl,rfl⟩;rw [List.flatMap_append];refine eqsP_of fun a ha=>?_
  rcases List.mem_append.1 ha with h|h
  ·exact okS_G (eqsG_all q0 a h)
  ·simp only [List.flatMap_cons,List.flatMap_nil,List.append_nil,celV,List.mem_singleton] at h;subst h;exact fun _=>rfl
 obtain ⟨σ1,fr1,hh1,⟨rfl,rfl⟩,m1,r1⟩:=fzSK_sound hf2 s hk;have hlast:=r1.2 fr.length (.lslc sz [row] 0 1 false) (.slice (some ⟨blk,b0+0 * sz,none⟩) 1 1) (by
  rw [List.map_append,List.getElem?_append_right (by simp)];simp [fcV,fcS]) (by rw [hf.1,List.getElem?_append_right (Nat.le_refl _),Nat.sub_self];rfl)
 have hρ:=m1.le.ρ _ _ _ h1;have lit:∀(s2 i off:Nat) (u:Value),VRel σ1 (.optr (.s n) ep s2 i off) u→VRel σ1 (.lptr s2 [row] i off) u:=by
  intro s2 i off u hu;generalize hval:Value.slice (some ⟨blk,b0+0 * sz,none⟩) 1 1=V at hlast;cases hlast with
  | @lslc _ _ _ _ _ _ blk2 b2 _ g hw hc ho hv a1 a3 a5=>
   injection hval with hval _ _
   injection hval with hval
   injection hval with e1 e2 _
   have e2:b0=b2:=by omega
   subst e1 e2;cases hu with
   |optr hx=>
    rw [hρ] at hx;cases hx;exact .lptr g hw hc ho hv
 have r0:VRels σ1 (fr.map (fcV n [row])) vs:=by
  refine ⟨by simpa using hf.1,fun i a v x y=>r1.2 i a v ?_ ?_⟩
  ·rw [List.map_append,List.getElem?_append_left (List.getElem?_eq_some_iff.1 x).1];exact x
  ·rw [List.getElem?_append_left (List.getElem?_eq_some_iff.1 y).1];exact y
 have cell:∀{c:AV},okG n ep c→∀u,VRel σ1 c u→VRel σ1 (fcP n [row] c) u:=by
  intro c hc u hu;unfold fcP
  split
  ·split
   ·rename_i e;simp only [okG,e] at hc;have e:=Nat.eq_of_beq_eq_true e;subst e hc;exact lit _ _ _ u hu
   ·exact hu
  ·exact hu
 have ob:∀(i:Id) (x:AObj),(⟨(st.set n .hole).map (AObj.fcO n [row]),dy.map (AObj.fcO n [row])⟩:Heap)[i]? =some x→∀a∈celO x,okG n ep a:=by
  intro i x hx a ha;have hx2:∃o,(o∈st.set n .hole∨o∈dy)∧x=o.fcO n [row]:=by
   cases i with
   |s k=>
    have hx:((st.set n .hole).map (AObj.fcO n [row]))[k]? =some x:=hx;obtain ⟨o,ho,rfl⟩:=List.mem_map.1 (List.mem_of_getElem? hx);exact ⟨o,.inl ho,rfl⟩
   |d k=>
    have hx:(dy.map (AObj.fcO n [row]))[k]? =some x:=hx;obtain ⟨o,ho,rfl⟩:=List.mem_map.1 (List.mem_of_getElem? hx);exact ⟨o,.inr ho,rfl⟩
  obtain ⟨o,ho,rfl⟩:=hx2;obtain ⟨c,hc,rfl⟩:=celO_fcO ha;refine okG_fcS ?_
  rcases ho with h|h
  ·exact eqsG_all (allG_get q1 o h) c hc
  ·exact eqsG_all (allG_get q2 o h) c hc
 have m2:=Sim.recell (f:=fcP n [row]) m1.sim fun i o ho a ha u hu=>cell (ob i o ho a ha) u hu;have r2:VRels σ1 ((fr.map (fcV n [row])).map (mapV (fcP n [row]))) vs:=by
  refine ⟨by simpa using hf.1,fun i a v x y=>?_⟩;rw [List.getElem?_map,Option.map_eq_some_iff] at x;obtain ⟨a',x,rfl⟩:=x;refine VRel.mapV (fun c hc u hu=>?_) (r0.2 i a' v x y);rw [List.getElem?_map,Option.map_eq_some_iff] at x;obtain ⟨a2,x,rfl⟩:=x;obtain ⟨c',hc',rfl⟩:=celV_fcV hc;exact cell (okG_fcS (eqsG_all q0 c' (List.mem_flatMap.2 ⟨a2,List.mem_of_getElem? x,hc'⟩))) u hu
 obtain ⟨σ3,fr3,h3',k3,m3,r3⟩:=k σ1 w vs r2 m2.sim;exact ⟨σ3,fr3,h3',k3,(m1.trans m2).trans m3,r3⟩
end
@[irreducible] def TRB (fr:List AV) (h:Heap) (K:List AV→Heap→Prop):Prop:=TR fr h K
theorem trb_of {fr:List AV} {h:Heap} {K:List AV→Heap→Prop} (k:TR fr h K):TRB fr h K:=by unfold TRB;exact k
theorem TR.mono {fr:List AV} {h:Heap} {K K':List AV→Heap→Prop} (k:TR fr h K) (hk:∀f h,K f h→K' f h):TR fr h K':=by
 intro σ w vs hf s;obtain ⟨σ2,fr2,h2,k2,m2,r2⟩:=k σ w vs hf s;exact ⟨σ2,fr2,h2,hk _ _ k2,m2,r2⟩
end Go.Ab

namespace Go.Ab
theorem Mv.frameD {σ σ1:Sg} {st dy:List AObj} {w w':World} {h1:Heap} (s:Sim σ ⟨st,dy⟩ w) (m:Mv σ ⟨st,[]⟩ w σ1 h1 w'):Mv σ ⟨st,dy⟩ w σ1 ⟨h1.st,dy⟩ w':=by
 have part:∀(i:Id) (o:AObj),(⟨st,[]⟩:Heap)[i]? =some o→(⟨st,dy⟩:Heap)[i]? =some o:=by
  intro i o ho;cases i with
  |s n=>exact ho
  |d n=>
   have ho:([]:List AObj)[n]? =some o:=ho;simp at ho
 have rest:∀(k:Nat) (o:AObj),dy[k]? =some o→(⟨st,dy⟩:Heap)[Id.d k]? =some o:=fun k o ho=>ho;have nlive:∀(k:Nat) (o:AObj) (b:Nat),dy[k]? =some o→o.blk σ (.d k)=some b→¬Live σ ⟨st,[]⟩ b:=by
  rintro k o b ho hb ⟨i,x,hx,hbx⟩;have:=s.apart i _ x o b (part i x hx) (rest k o ho) hbx hb;subst this;have hx:([]:List AObj)[k]? =some x:=hx;simp at hx
 have lt:∀(k:Nat) (o:AObj) (b:Nat),dy[k]? =some o→o.blk σ (.d k)=some b→b<w.heap.size:=fun k o b ho hb=>Live.lt s ⟨_,o,rest k o ho,hb⟩;have nfm:∀(k:Nat) (o:AObj) (b:Nat),dy[k]? =some o→o.blk σ (.d k)=some b→σ1.FM b=none:=fun k o b ho hb=>by
  cases hf:σ1.FM b with
  |none=>rfl
  |some cs=>
   rcases m.new b (by rw [hf];simp) with x|x|x
   ·exact absurd (Live.noFM s ⟨_,o,rest k o ho,hb⟩) x
   ·exact absurd x (nlive k o b ho hb)
   ·have:=lt k o b ho hb;omega
 have obj:∀(i:Id) (o:AObj),(⟨h1.st,dy⟩:Heap)[i]? =some o→(∃k,i= .s k∧h1[i]? =some o)∨∃k,i= .d k∧dy[k]? =some o:=by
  intro i o ho;cases i with
  |s n=>exact .inl ⟨n,rfl,ho⟩
  |d n=>exact .inr ⟨n,rfl,ho⟩
 have bk:∀(k:Nat) (o:AObj),dy[k]? =some o→o.blk σ1 (.d k)=o.blk σ (.d k):=fun k o ho=>blk_le (s.obj _ o (rest k o ho)) m.le;have lv1:∀b,Live σ1 h1 b→Live σ ⟨st,[]⟩ b∨w.heap.size≤b:=m.live;refine ⟨m.le,⟨m.sim.fm,fun i o ho=>?_,fun i j oi oj b hi hj bi bj=>?_,m.sim.fresh,m.sim.rm,m.sim.gl⟩,m.os,m.tape,m.output,m.size,fun b hb hnl=>?_,fun b hb=>?_,fun b hb=>?_⟩
 ·rcases obj i o ho with ⟨_,_,h2⟩|⟨k,rfl,h2⟩
  ·exact m.sim.obj i o h2
  ·exact (s.obj _ o (rest k o h2)).keep m.le fun b hb=>⟨m.block b (lt k o b h2 hb) (nlive k o b h2 hb),nfm k o b h2 hb⟩
 ·have cross:∀(i:Id) (o:AObj) (k:Nat) (o2:AObj),h1[i]? =some o→o.blk σ1 i=some b→dy[k]? =some o2→o2.blk σ1 (.d k)=some b→False:=by
   intro i o k o2 h2 b2 h3 b3;rw [bk k o2 h3] at b3
   rcases lv1 b ⟨i,o,h2,b2⟩ with y|y
   ·exact nlive k o2 b h3 b3 y
   ·have:=lt k o2 b h3 b3;omega
  rcases obj i oi hi with ⟨_,_,h2⟩|⟨k,rfl,h2⟩
  ·rcases obj j oj hj with ⟨_,_,h3⟩|⟨k',rfl,h3⟩
   ·exact m.sim.apart i j oi oj b h2 h3 bi bj
   ·exact (cross i oi k' oj h2 bi h3 bj).elim
  ·rcases obj j oj hj with ⟨_,_,h3⟩|⟨k',rfl,h3⟩
   ·exact (cross j oj k oi h3 bj h2 bi).elim
   ·rw [bk k oi h2] at bi;rw [bk k' oj h3] at bj;exact s.apart _ _ oi oj b (rest k oi h2) (rest k' oj h3) bi bj
 ·exact m.block b hb fun ⟨i,o,ho,hbx⟩=>hnl ⟨i,o,part i o ho,hbx⟩
 ·obtain ⟨i,o,ho,hbx⟩:=hb
  rcases obj i o ho with ⟨_,_,h2⟩|⟨k,rfl,h2⟩
  ·rcases lv1 b ⟨i,o,h2,hbx⟩ with ⟨i',o',h3,h4⟩|y
   ·exact .inl ⟨i',o',part i' o' h3,h4⟩
   ·exact .inr y
  ·rw [bk k o h2] at hbx;exact .inl ⟨_,o,rest k o h2,hbx⟩
 ·rcases m.new b hb with y|⟨i,o,h3,h4⟩|y
  ·exact .inl y
  ·exact .inr (.inl ⟨i,o,part i o h3,h4⟩)
  ·exact .inr (.inr y)
theorem ACallsP.frameD {P:Program} {f:FuncId} {args:List AV} {st dy:List AObj} {K0 K:AV→Heap→Prop} {KP0 KP:Nat→Value→Heap→Prop} (hc:ACallsP P f args ⟨st,[]⟩ K0 KP0)
  (hK:∀r h1,K0 r h1→K r ⟨h1.st,dy⟩) (hP:∀t v h1,KP0 t v h1→KP t v ⟨h1.st,dy⟩):ACallsP P f args ⟨st,dy⟩ K KP:=by
 refine ⟨fun σ w vs s hv=>?_⟩;have m0:Mv σ ⟨st,dy⟩ w σ ⟨st,[]⟩ w:=s.forget fun i o ho=>.inr (by
  cases i with
  |s n=>exact ho
  |d n=>
   have ho:([]:List AObj)[n]? =some o:=ho;simp at ho)
 refine (hc.use σ w vs m0.sim hv).mono ?_;rintro ee w' (⟨v,rfl,σ1,h1,r,k,m,x⟩|⟨t,v,rfl,σ1,h1,k,m⟩)
 ·exact .inl ⟨v,rfl,σ1,_,r,hK r h1 k,Mv.frameD s m,x⟩
 ·exact .inr ⟨t,v,rfl,σ1,_,hP t v h1 k,Mv.frameD s m⟩
theorem ACalls.frameD {P:Program} {f:FuncId} {args:List AV} {st dy:List AObj} {K0 K:AV→Heap→Prop} (hc:ACalls P f args ⟨st,[]⟩ K0)
  (hK:∀r h1,K0 r h1→K r ⟨h1.st,dy⟩):ACalls P f args ⟨st,dy⟩ K:=by
 refine ⟨fun σ w vs s hv=>?_⟩;have m0:Mv σ ⟨st,dy⟩ w σ ⟨st,[]⟩ w:=s.forget fun i o ho=>.inr (by
  cases i with
  |s n=>exact ho
  |d n=>
   have ho:([]:List AObj)[n]? =some o:=ho;simp at ho)
 refine (hc.use σ w vs m0.sim hv).mono ?_;rintro ee w' ⟨v,rfl,σ1,h1,r,k,m,x⟩;exact ⟨v,rfl,σ1,_,r,hK r h1 k,Mv.frameD s m,x⟩
theorem hretN_of {C:Ctx} (ok:COk C) (hm:C.P.follows .mixedOrders=true) {A:Ann} {f:FuncId} {fn:Func} {c:Code} (n:Nat) (hf:C.P.funcs[f]? =some fn) (hb:fn.body=some c) {args:List AV} {R:Nat→(Nat→Nat)→AV} {H:Nat→(Nat→Nat)→List AObj} {N:Prop} {sz:Nat}
  (hN:N→∀eps,R 0 eps= .oslc (.d 0) (eps 0) sz 0 0 false∧H 0 eps=[.vec (eps 0) []])
  (hk:forceR (frame0 args fn.ntmps) fun fr=>forceHR (heap0 Heap.nil n) fun h=>aexR C A c fr h fun e fr h'=>match e with
   | .normal=>resR C.ti fn.results.toList fr h' fun vs=>retV vs fun v=>(v= .nils∧h'.dy=[]∧N)∨movK h' v fun r' h''=>∃eps,r'=R 0 eps∧h''.dy=H 0 eps
   | .ret=>resR C.ti fn.results.toList fr h' fun vs=>retV vs fun v=>(v= .nils∧h'.dy=[]∧N)∨movK h' v fun r' h''=>∃eps,r'=R 0 eps∧h''.dy=H 0 eps
   | .pan _ _=>False
   | .exit _=>False)
  (hsh:∀B E eps,∃eps',(R 0 eps).sh B E=R B eps'∧(H 0 eps).map (AObj.sh B E)=H B eps') (hy:C.yl=none:=by rfl):HRet C.P f args R H:=by
 refine ⟨⟨fun σ w vs s hv=>?_⟩,hsh⟩;refine ((fn_of ok hm n hf hb hk hy).use σ w vs s hv).mono ?_;rintro e w' ⟨v,rfl,σ1,h1,r,k,m,x⟩
 rcases k with ⟨rfl,hd,hn⟩|k
 ·have m1:Mv σ1 h1 w' σ1 ⟨h1.st,[.hole]⟩ w':=m.sim.forget fun i o ho=>by
   cases i with
   |s k=>exact .inr ho
   |d k=>
    have ho:([AObj.hole]:List AObj)[k]? =some o:=ho;cases k with
    |zero=>simp at ho;exact .inl ho.symm
    |succ k=>simp at ho
  obtain ⟨ep,σ2,m2,hp⟩:=m1.sim.allocNil (.d 0);obtain ⟨e1,e2⟩:=hN hn fun _=>ep;refine ⟨v,rfl,σ2,_,.oslc (.d 0) ep sz 0 0 false,⟨fun _=>ep,e1.symm,e2.symm⟩,(m.trans m1).trans m2,?_⟩;cases x;exact .onil hp
 ·obtain ⟨σ2,h2,r2,m2,x2,k2⟩:=movK_sound m.sim x k;exact ⟨v,rfl,σ2,h2,r2,k2,m.trans m2,x2⟩
theorem wk_cut {C:Ctx} {x y:Code} {fr:List AV} {h:Heap} {K:AE→List AV→Heap→Prop} (l k:List Nat) {S:Type} (frM:S→List AV) (hM:S→Heap)
  (hx:WK C x fr h fun e fr h=>match e with
   | .normal=>Back fun s=>maskF 0 l fr=frM s∧maskH 0 k h=hM s
   | .exit id=>K (.exit id) fr h
   | .ret=>K .ret fr h
   | .pan t v=>K (.pan t v) fr h) (hy:∀s,WK C y (frM s) (hM s) K):WK C (.seq x y) fr h K:=by
 refine wk_seq (hx.mono fun e fr h k2=>?_);cases e with
 |normal=>
  obtain ⟨s,e1,e2⟩:=back_ex k2;exact wk_mask l k e1 e2 (hy s)
 |exit id=>exact k2
 |ret=>exact k2
 |pan t v=>exact k2
end Go.Ab
