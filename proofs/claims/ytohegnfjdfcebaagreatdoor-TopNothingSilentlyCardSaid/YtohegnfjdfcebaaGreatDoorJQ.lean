/-
  What is proved here serves the law's text: each part says its own claim and its conditions. No condition is left open.
-/
import Derived.Test.YtohegnfjdfcebaaGreatDoorJP
import Derived.Test.YtohegnfjdfcebaaGreatDoorKR
import Derived.Test.YtohegnfjdfcebaaGreatDoorKT
import Derived.Test.YtohegnfjdfcebaaGreatDoorKV
import Derived.Test.YtohegnfjdfcebaaGreatDoorJI
import Derived.Test.YtohegnfjdfcebaaGreatDoorKX
set_option maxHeartbeats 32000000
set_option maxRecDepth 100000
set_option linter.unusedSimpArgs false
set_option linter.unusedVariables false

namespace Go.Ab
open Go.Proofs
variable {C:Ctx} {id:Id} {ep:Nat} {fr:List AV} {h:Heap} {l:List UInt8} {K:AE→List AV→Heap→List UInt8→Prop}
theorem we_skip (k:K .normal fr h l):WE C id ep .skip fr h l K:=
 ⟨fun rd B σ0 w0 σ w a b v Q hrd hy hB m hf hd hg hQ=>wpIn_skip (hQ .normal fr h l σ a w v k m hy hB hf hd (.inr hg))⟩
theorem we_exit {i:Nat} (k:K (.exit i) fr h l):WE C id ep (.exit i) fr h l K:=
 ⟨fun rd B σ0 w0 σ w a b v Q hrd hy hB m hf hd hg hQ=>wpIn_exit (hQ (.exit i) fr h l σ a w v k m hy hB hf hd (.inr hg))⟩
theorem we_seq {x y:Code} (k:WE C id ep x fr h l fun e fr h l=>match e with
  | .normal=>WE C id ep y fr h l K
  | .exit i=>K (.exit i) fr h l
  | .ret=>K .ret fr h l
  | .pan t v=>K (.pan t v) fr h l):WE C id ep (.seq x y) fr h l K:=by
 refine ⟨fun rd B σ0 w0 σ w a b v Q hrd hy hB m hf hd hg hQ=>?_⟩;refine wpIn_seq (k.use rd B σ0 w0 σ w a b v _ hrd hy hB m hf hd hg fun e fr' h' l' σ' a' w' v' k m y' b' f d g=>?_);cases e with
 |normal=>exact k.use rd B σ0 w0 σ' w' a' b v' Q hrd y' b' m f d (g.resolve_left (by simp)) hQ
 |exit i=>exact hQ (.exit i) fr' h' l' σ' a' w' v' k m y' b' f d g
 |ret=>exact hQ .ret fr' h' l' σ' a' w' v' k m y' b' f d g
 |pan pt pv=>exact hQ (.pan pt pv) fr' h' l' σ' a' w' v' k m y' b' f d g
theorem we_cond {c:Operand} {x y:Code} {t:Bool} (ht:evl fr c= .bool t) (k:WE C id ep (bif t then x else y) fr h l K):WE C id ep (.cond c x y) fr h l K:=by
 refine ⟨fun rd B σ0 w0 σ w a b v Q hrd hy hB m hf hd hg hQ=>?_⟩;have hr:=evl_rel m.sim.gl hf c;rw [ht] at hr;have hv:a.eval c= .bool t:=by
  generalize a.eval c=u at hr;cases hr;rfl
 cases t with
 |true=>exact wpIn_cond_true hv (k.use rd B σ0 w0 σ w a b v Q hrd hy hB m hf hd hg hQ)
 |false=>exact wpIn_cond_false hv (k.use rd B σ0 w0 σ w a b v Q hrd hy hB m hf hd hg hQ)
theorem we_block {i:Nat} {c:Code} (k:WE C id ep c fr h l fun e fr h l=>match e with
  | .exit j=>if j=i then K .normal fr h l else K (.exit j) fr h l
  | .normal=>K .normal fr h l
  | .ret=>K .ret fr h l
  | .pan t v=>K (.pan t v) fr h l):WE C id ep (.block i c) fr h l K:=by
 refine ⟨fun rd B σ0 w0 σ w a b v Q hrd hy hB m hf hd hg hQ=>?_⟩;refine wpIn_block (k.use rd B σ0 w0 σ w a b v _ hrd hy hB m hf hd hg fun e fr' h' l' σ' a' w' v' k m y' b' f d g=>?_);cases e with
 |normal=>exact hQ .normal fr' h' l' σ' a' w' v' k m y' b' f d g
 |exit j=>
  have g:=g.resolve_left (by simp);show (if j=i then Q .normal a' w' else Q (.exit j) a' w');simp only at k
  split
  ·rename_i e;rw [if_pos e] at k;exact hQ .normal fr' h' l' σ' a' w' v' k m y' b' f d (.inr g)
  ·rename_i e;rw [if_neg e] at k;exact hQ (.exit j) fr' h' l' σ' a' w' v' k m y' b' f d (.inr g)
 |ret=>exact hQ .ret fr' h' l' σ' a' w' v' k m y' b' f d g
 |pan pt pv=>exact hQ (.pan pt pv) fr' h' l' σ' a' w' v' k m y' b' f d g
theorem WE.mono {c:Code} {K':AE→List AV→Heap→List UInt8→Prop} (x:WE C id ep c fr h l K) (hk:∀e fr h l,K e fr h l→K' e fr h l):WE C id ep c fr h l K':=
 ⟨fun rd B σ0 w0 σ w a b v Q hrd hy hB m hf hd hg hQ=>x.use rd B σ0 w0 σ w a b v Q hrd hy hB m hf hd hg fun e fr' h' l' σ' a' w' v' k=>hQ e fr' h' l' σ' a' w' v' (hk _ _ _ _ k)⟩
end Go.Ab

namespace Go.Ab
open Go.Proofs
theorem we_loop {C:Ctx} {id:Id} {ep:Nat} {c:Code} (lv:List Nat) (kp:List Nat) {S:Type} (fr:S→List AV) (h:S→Heap) (lt:S→List UInt8) (μ:S→Nat) {K:AE→List AV→Heap→List UInt8→Prop} {fr0:List AV} {h0:Heap} {l0:List UInt8} (s0:S)
  (e1:maskF 0 lv fr0=fr s0) (e2:maskH 0 kp h0=h s0) (e3:l0=lt s0)
  (hround:∀s,WE C id ep c (fr s) (h s) (lt s) fun e fr' h' l'=>match e with
   | .normal=>Back fun s'=>maskF 0 lv fr'=fr s'∧maskH 0 kp h'=h s'∧l'=lt s'∧μ s'<μ s
   | .exit i=>K (.exit i) fr' h' l'
   | .ret=>K .ret fr' h' l'
   | .pan t v=>K (.pan t v) fr' h' l'):WE C id ep (.loop c) fr0 h0 l0 K:=by
 refine ⟨fun rd B σ0 w0 σ w a bb v Q hrd hy hB sm hf hd hg hQ=>?_⟩;intro b k cs hro hbf hroom;have mask:∀{σ':Sg} {w':World} {h':Heap},Sim σ' h' w'→Mv σ' h' w' σ' (maskH 0 kp h') w':=fun s=>s.forget fun i o x=>maskH_get _ _ _ _ _ x;have m0:=mask sm.sim;rw [e2] at m0;have key:∀n s1 σ' w' a' v',μ s1=n→Mv σ0 .nil w0 σ' (h s1) w'→YOk C σ'→B.lo≤w'.heap.size→VRels σ' (fr s1) a'.tmps.toList→DfOk B σ' a'.defers→Gh id ep σ' (h s1) w0.heap.size w' bb v' (lt s1)→
   ∃e a'' w'',Q e a'' w''∧ArrivesIn (Machine.fenced C.P (FR rd)) C.P (lone (b.atR a' (.code c:: .inLoop c::k)) cs w') b k cs e a'' w'':=by
  intro n
  induction n using Nat.strongRecOn with
  |_ n ih=>
   intro s1 σ' w' a' v' hn m hy' hB' hv hd' hg'
   let Q0:Exit→Act→World→Prop:=fun e a2 w2=>match e with
    | .normal=>∃s2 σ2 v2,μ s2<μ s1∧Mv σ0 .nil w0 σ2 (h s2) w2∧YOk C σ2∧B.lo≤w2.heap.size∧VRels σ2 (fr s2) a2.tmps.toList∧DfOk B σ2 a2.defers∧Gh id ep σ2 (h s2) w0.heap.size w2 bb v2 (lt s2)
    |e=>Q e a2 w2
   have hr:c.wpIn (FR rd) 0 C.P Q0 a' w':=(hround s1).use rd B σ0 w0 σ' w' a' bb v' Q0 hrd hy' hB' m hv hd' hg' fun e fr2 h2 l2 σ2 a2 w2 v2 k2 m2 y2 b2 f2 d2 g2=>by
    cases e with
    |normal=>
     obtain ⟨s2,e3,e4,e5,hlt⟩:=back_ex k2;have m3:=mask m2.sim;rw [e4] at m3;have v3:=maskF_rel fr2 0 lv _ f2;rw [e3] at v3;exact ⟨s2,σ2,v2,hlt,m2.trans m3,y2,b2,v3,d2,by rw [←e5];exact (g2.resolve_left (by simp)).move m3⟩
    |exit i=>exact hQ (.exit i) fr2 h2 l2 σ2 a2 w2 v2 k2 m2 y2 b2 f2 d2 g2
    |ret=>exact hQ .ret fr2 h2 l2 σ2 a2 w2 v2 k2 m2 y2 b2 f2 d2 g2
    |pan pt pv=>exact hQ (.pan pt pv) fr2 h2 l2 σ2 a2 w2 v2 k2 m2 y2 b2 f2 d2 g2
   obtain ⟨e,a2,w2,hq,harr⟩:=hr b (.inLoop c::k) cs hro hbf hroom;cases e with
   |normal=>
    obtain ⟨s2,σ2,v2,hlt,m2,y2,b2,f2,d2,g2⟩:=hq;obtain ⟨e3,a3,w3,hq3,harr3⟩:=ih (μ s2) (hn ▸ hlt) s2 σ2 w2 a2 v2 rfl m2 y2 b2 f2 d2 g2;exact ⟨e3,a3,w3,hq3,.of_steps (StepsIn.trans harr (.one (fenced_calm hbf hroom rfl) stepR_inLoop)) harr3⟩
   |exit id=>exact ⟨_,a2,w2,hq,.pass (x:=.inLoop c) rfl (fun _ _=>.inl (by simp)) harr⟩
   |goto l=>exact ⟨_,a2,w2,hq,.pass (x:=.inLoop c) rfl (fun _ _=>.inl (by simp)) harr⟩
   |ret=>exact ⟨_,a2,w2,hq,.pass (x:=.inLoop c) rfl (fun _ _=>.inl (by simp)) harr⟩
   |panic ch=>exact ⟨_,a2,w2,hq,.pass (x:=.inLoop c) rfl (fun _ _=>.inl (by simp)) harr⟩
   |outgrown=>exact ⟨_,a2,w2,hq,.pass (x:=.inLoop c) rfl (fun _ _=>.inl (by simp)) harr⟩
 have v0:=maskF_rel fr0 0 lv _ hf;rw [e1] at v0;obtain ⟨e,a',w',hq,harr⟩:=key _ s0 σ w a v rfl (sm.trans m0) hy hB v0 hd (by rw [←e3];exact hg.move m0);exact ⟨e,a',w',hq,.of_steps (.one (fenced_calm hbf hroom rfl) stepR_loop) harr⟩

end Go.Ab

namespace Go.Ab
open Go.Proofs Go.RowKit
theorem Gh.kept {id:Id} {ep:Nat} {σ:Sg} {h:Heap} {w:World} {b:Nat} {v v':Value} {l:List UInt8} {σ0:Sg} {w0 w':World} (g:Gh id ep σ h w0.heap.size w b v l) (m:Mv σ0 .nil w0 σ h w) (k:Kept b v v' w w'):
  Mv σ0 .nil w0 σ h w':=by
 have s:=m.sim;obtain ⟨p,hp,hb⟩:=g.bld.cells;have hrow:∀j,v.ownBlock=some j→∃cur fz,w.heap[j]? =some (.cells cur 5 fz):=by
  intro j hj
  rcases g.bld.own.2 with ⟨hv,_⟩|⟨j',cap,cur,hv,hbj,hc,_⟩
  ·subst hv;simp [Value.ownBlock] at hj
  ·subst hv;simp [Value.ownBlock] at hj;subst hj;exact ⟨_,_,hc⟩
 have same:∀j o,w.heap[j]? =some o→j≠b→v.ownBlock≠some j→w'.heap[j]? =some o:=fun j o x h1 h2=>by
  rw [k.block j (Array.getElem?_eq_some_iff.1 x).1 h1 h2];exact x
 have sim:Sim σ h w':=by
  refine ⟨fun j cs x=>?_,fun i o x=>?_,s.apart,s.fresh,fun j o x=>?_,s.gl⟩
  ·obtain ⟨T,fz,y⟩:=s.fm j cs x;exact ⟨T,fz,same j _ y (fun e=>by subst e;rw [g.fmb] at x;cases x) fun e=>by rw [g.fmg j e] at x;cases x⟩
  ·refine (s.obj i o x).keep (.refl _) fun j hx=>⟨?_,Live.noFM s ⟨i,o,x,hx⟩⟩;have hl:Live σ h j:=⟨i,o,x,hx⟩;exact k.block j (Live.lt s hl) (fun e=>by subst e;exact g.liveb hl) fun e=>g.liveg j e hl
  ·obtain ⟨y,z⟩:=s.rm j o x;refine ⟨same j _ y (fun e=>?_) fun e=>?_,z⟩
   ·subst e;rw [hb] at y;cases y;cases z
   ·obtain ⟨cur,fz,hc⟩:=hrow j e;rw [hc] at y;cases y;cases z
 refine ⟨m.le,sim,k.os.trans m.os,k.tape.trans m.tape,k.output.trans m.output,Nat.le_trans m.size k.size,fun j hj hl=>?_,m.live,m.new⟩;have hjb:j≠b:=fun e=>by have:=g.bld.lo;omega
 have hjv:v.ownBlock≠some j:=fun e=>by have:=(g.bld.own.lt j e).1;omega
 rw [k.block j (Nat.lt_of_lt_of_le hj m.size) hjb hjv,m.block j hj hl]
theorem Gh.write {id:Id} {ep:Nat} {σ:Sg} {h:Heap} {w:World} {b:Nat} {v v':Value} {l l':List UInt8} {σ0:Sg} {w0 w':World} (g:Gh id ep σ h w0.heap.size w b v l) (m:Mv σ0 .nil w0 σ h w) (k:Kept b v v' w w') (bd:Bld w0.heap.size b v' (Lib.byteCells l') w'):
  Mv σ0 .nil w0 σ h w'∧Gh id ep σ h w0.heap.size w' b v' l':=by
 have s:=m.sim;obtain ⟨p,hp,hb⟩:=g.bld.cells;have hrow:∀j,v.ownBlock=some j→∃cur fz,w.heap[j]? =some (.cells cur 5 fz):=by
  intro j hj
  rcases g.bld.own.2 with ⟨hv,_⟩|⟨j',cap,cur,hv,hbj,hc,_⟩
  ·subst hv;simp [Value.ownBlock] at hj
  ·subst hv;simp [Value.ownBlock] at hj;subst hj;exact ⟨_,_,hc⟩
 have same:∀j o,w.heap[j]? =some o→j≠b→v.ownBlock≠some j→w'.heap[j]? =some o:=fun j o x h1 h2=>by
  rw [k.block j (Array.getElem?_eq_some_iff.1 x).1 h1 h2];exact x
 have sim:Sim σ h w':=by
  refine ⟨fun j cs x=>?_,fun i o x=>?_,s.apart,s.fresh,fun j o x=>?_,s.gl⟩
  ·obtain ⟨T,fz,y⟩:=s.fm j cs x;exact ⟨T,fz,same j _ y (fun e=>by subst e;rw [g.fmb] at x;cases x) fun e=>by rw [g.fmg j e] at x;cases x⟩
  ·refine (s.obj i o x).keep (.refl _) fun j hx=>⟨?_,Live.noFM s ⟨i,o,x,hx⟩⟩;have hl:Live σ h j:=⟨i,o,x,hx⟩;exact k.block j (Live.lt s hl) (fun e=>by subst e;exact g.liveb hl) fun e=>g.liveg j e hl
  ·obtain ⟨y,z⟩:=s.rm j o x;refine ⟨same j _ y (fun e=>?_) fun e=>?_,z⟩
   ·subst e;rw [hb] at y;cases y;cases z
   ·obtain ⟨cur,fz,hc⟩:=hrow j e;rw [hc] at y;cases y;cases z
 refine ⟨⟨m.le,sim,k.os.trans m.os,k.tape.trans m.tape,k.output.trans m.output,Nat.le_trans m.size k.size,fun j hj hl=>?_,m.live,m.new⟩,⟨bd,g.rho,g.liveb,g.fmb,fun j hj=>?_,fun j hj=>?_⟩⟩
 ·have hjb:j≠b:=fun e=>by have:=g.bld.lo;omega
  have hjv:v.ownBlock≠some j:=fun e=>by have:=(g.bld.own.lt j e).1;omega
  rw [k.block j (Nat.lt_of_lt_of_le hj m.size) hjb hjv,m.block j hj hl]
 ·rcases k.new j hj with x|x
  ·exact g.liveg j x
  ·intro hl;have:=Live.lt s hl;omega
 ·rcases k.new j hj with x|x
  ·exact g.fmg j x
  ·cases hf:σ.FM j with
   |none=>rfl
   |some cs=>
    obtain ⟨T,fz,y⟩:=s.fm j cs hf;have:=(Array.getElem?_eq_some_iff.1 y).1;omega

theorem byteCells_app (l s:List UInt8):Lib.byteCells l++Lib.strCells ⟨s.toArray⟩=Lib.byteCells (l++s):=by
 simp [Lib.byteCells,Lib.strCells]
theorem we_write {C:Ctx} (ok:COk C) (hP:C.P=Tryz.prog) {id:Id} {ep:Nat} {rid m:Nat} {ops:Array Oper} {slot:Nat→Id} (hr:List.range ops.size=List.range m++[m]) {o:Oper} (ho:ops[m]? =some o) {c:Call} (hop:o.op= .call c)
  {fr:List AV} {h:Heap} {l:List UInt8} {K:AE→List AV→Heap→List UInt8→Prop}
  (hk:runOrd C ops slot (List.range m) fr h fun fr' h'=>wantA ops o fr'=some true∧∃s,fnOf C (evl fr') c=some (45,[.optr id ep 2 0 0,.str s])∧l.length+s.length≤1000000000∧K .normal (putF fr' o.dst .u) h' (l++s)):
  WE C id ep (.region rid ops false) fr h l K:=by
 refine ⟨fun rd B σ0 w0 σ w a b v Q hrd hy hB m0 hf hd hg hQ=>?_⟩;refine wpIn_region ?_;rw [hr];refine runOrd_then ok _ hy hf m0.sim hk fun fr' h' σ' a' w' ⟨hw,s,hfn,hlen,hK⟩ m1 f1 d1=>?_;unfold wpOpsIn;simp only [ho];rw [wantA_sound f1 hw];simp only [if_true];have hre:=evl_rel m1.sim.gl f1;refine ⟨fun _ _=>trivial,?_⟩;rw [Oper.semAt_eq _ _ _ (by intro c';rw [hop];simp)];obtain ⟨vs,h1,h2⟩:=fnOf_sound ok hre hfn o hop w';rw [h1,Oper.uponIn_enter];refine ⟨(fun x=>by cases x),?_⟩;refine callsFR ?_;rw [hP];obtain ⟨x,y,rfl,q1,q2⟩:=V.vrels2 h2;have hg1:=hg.move m1;have hx:x= .pointer (some ⟨b,0,none⟩):=by
  cases q1 with
  |optr hρ=>rw [hg1.rho] at hρ;cases hρ;rfl
 subst hx;cases q2;refine (write45 w0.heap.size b v (Lib.byteCells l) ⟨s.toArray⟩ w' hg1.bld ?_ (m0.trans m1).size).mono ?_
 ·have e1:(Lib.byteCells l).length=l.length:=by simp [Lib.byteCells]
  have e2:(⟨s.toArray⟩:ByteArray).size=s.length:=by simp [ByteArray.size]
  omega
 rintro e w2 ⟨⟨r,rfl⟩,v',hb2,hk2⟩;rw [byteCells_app] at hb2;obtain ⟨m2,g2⟩:=hg1.write (m0.trans m1) hk2 hb2;have hsz:=hk2.size;have hd2:(a'.put o.dst r).defers=a.defers:=(show (a'.put o.dst r).defers=a'.defers by cases o.dst<;>rfl).trans d1;exact hQ .normal _ h' _ σ' _ w2 v' hK m2 (hy.mono m1.le) (Nat.le_trans hB (Nat.le_trans m1.size hsz)) (putF_rel f1 .u) (by rw [hd2];exact hd.mono m1.le) (.inr g2)

theorem Sim.name {σ:Sg} {h:Heap} {w:World} (s:Sim σ h w) (id:Id) (b sz n size:Nat):∃ep σ',Mv σ h w σ' h w∧σ'.ρ id ep=some (.at b 0 sz n size)∧σ'.FM=σ.FM:=by
 obtain ⟨e0,he0⟩:=s.fresh
 let σ':Sg:={ ρ:=fun i e=>if i=id∧e=e0 then some (.at b 0 sz n size) else σ.ρ i e,FM:=σ.FM,RM:=σ.RM }
 have hle:Sg.Le σ σ':=by
  refine ⟨fun i e pl hp=>?_,fun _ _ x=>x,fun _ _ x=>x⟩;show (if i=id∧e=e0 then _ else σ.ρ i e)=_;rw [if_neg]
  ·exact hp
  ·rintro ⟨rfl,rfl⟩;rw [he0 _ e (Nat.le_refl _)] at hp;cases hp
 have hnew:σ'.ρ id e0=some (.at b 0 sz n size):=by show (if id=id∧e0=e0 then _ else _)=_;simp
 have hb:∀(i:Id) (o:AObj) (b:Nat),h[i]? =some o→o.blk σ' i=some b→o.blk σ i=some b:=fun i o b ho hbx=>by
  rwa [blk_le (s.obj i o ho) hle] at hbx
 refine ⟨e0,σ',⟨hle,⟨s.fm,fun i o ho=>?_,fun i j oi oj b hi hj bi bj=>s.apart i j oi oj b hi hj (hb i oi b hi bi) (hb j oj b hj bj),⟨e0+1,fun i ep hep=>?_⟩,s.rm,fun p hp=>hle.FM _ _ (s.gl p hp)⟩,rfl,rfl,rfl,Nat.le_refl _,fun _ _ _=>rfl,fun b hl=>?_,fun _ x=>.inl x⟩,hnew,rfl⟩
 ·exact (s.obj i o ho).keep hle fun b hbx=>⟨rfl,Live.noFM s ⟨i,o,ho,hbx⟩⟩
 ·show (if i=id∧ep=e0 then _ else σ.ρ i ep)=none;rw [if_neg (by rintro ⟨_,rfl⟩;omega)];exact he0 i ep (by omega)
 ·obtain ⟨i,o,ho,hbx⟩:=hl;exact .inl ⟨i,o,ho,hb i o b ho hbx⟩
theorem gh_new {id:Id} {σ:Sg} {h:Heap} {w:World} {σ0:Sg} {w0:World} (m:Mv σ0 .nil w0 σ h w):∃ep σ',Mv σ0 .nil w0 σ' h (w.alloc (.cells #[.pointer none,.slice none 0 0] 118))∧Mv σ h w σ' h (w.alloc (.cells #[.pointer none,.slice none 0 0] 118))∧
  Gh id ep σ' h w0.heap.size (w.alloc (.cells #[.pointer none,.slice none 0 0] 118)) w.heap.size (.slice none 0 0) []:=by
 have s:=m.sim;obtain ⟨w',hw'⟩:∃w',w'=w.alloc (.cells #[.pointer none,.slice none 0 0] 118):=⟨_,rfl⟩;rw [←hw'];have hheap:w'.heap=w.heap++ #[.cells #[.pointer none,.slice none 0 0] 118]:=by rw [hw',World.alloc];simp
 have m1:Mv σ h w σ h w':=s.grown hheap (by rw [hw'];exact ⟨rfl,rfl,rfl⟩);obtain ⟨ep,σ',m2,hρ,hF⟩:=Sim.name m1.sim id w.heap.size 2 1 2;have hget:w'.heap[w.heap.size]? =some (.cells #[.pointer none,.slice none 0 0] 118):=by rw [hheap];simp
 have hnl:¬Live σ h w.heap.size:=fun x=>by have:=Live.lt s x;omega
 have hnf:σ.FM w.heap.size=none:=s.newFM;refine ⟨ep,σ',(m.trans m1).trans m2,m1.trans m2,⟨⟨m.size,⟨_,.inl rfl,hget⟩,?_,by simp [Value.ownBlock]⟩,hρ,?_,by rw [hF];exact hnf,fun j hj=>by simp [Value.ownBlock] at hj,fun j hj=>by simp [Value.ownBlock] at hj⟩⟩
 ·exact World.ownsRow_nil w' _ 5 1
 ·intro x
  rcases m2.live _ x with y|y
  ·exact hnl y
  ·rw [hheap] at y;simp at y;omega
end Go.Ab

namespace Go.Proofs
open Go.Shelf Go.RowKit
theorem freeze_facts (w:World) (a:Addr) (n:Nat) (hn:n≠0):(w.freeze a n).os=w.os∧(w.freeze a n).tape=w.tape∧(w.freeze a n).output=w.output∧(w.freeze a n).heap.size=w.heap.size∧∀k,k≠a.block→(w.freeze a n).heap[k]? =w.heap[k]?:=by
 unfold World.freeze;rw [if_neg hn];exact ⟨rfl,rfl,rfl,by simp,fun k hk=>by simp [Array.getElem?_modify,Ne.symm hk]⟩
theorem string47k (B b:Nat) (v:Value) (l:List UInt8) (w:World) (h:Bld B b v (Lib.byteCells l) w) (h0:l≠[]):
  Calls Tryz.prog 47 #[.pointer (some ⟨b,0,none⟩)] w fun e w'=>e= .returned (.string ⟨l.toArray⟩)∧Kept b v v w w':=by
 obtain ⟨hB,⟨p,hp,hbk⟩,hown,hne⟩:=h;have X:=XW;have L:=LS;have hl0:l.length≠0:=by simpa using h0
 have hbl:(Lib.byteCells l).length=l.length:=by simp [Lib.byteCells]
 rw [hbl] at hown
 rcases hown.2 with ⟨_,hz⟩|⟨g,cap,cur,rfl,hbg,hg,hnc,hcm,hcs,htake⟩
 ·exact absurd hz hl0
 have c1:w.drew.cell? ⟨b,1,none⟩=some (.slice (some ⟨g,0,none⟩) l.length cap):=by
  have:w.drew.heap[b]? =some (.cells #[p,.slice (some ⟨g,0,none⟩) l.length cap] 118 (0,0)):=hbk;rw [Lib.cell_of_heap this];rfl
 have hg':w.drew.heap[g]? =some (.cells cur 5 (0,0)):=hg;have hSD:(Builtin.unsafeSliceData_ #[116] 182 #[.slice (some ⟨g,0,none⟩) l.length cap]).run Tryz.prog w.drew= .ok (.pointer (some ⟨g,0,none⟩)) w.drew:=
  Lib.run_unsafeSliceData_row _ _ _ _ _ _ (by omega)
 have hUS:(Builtin.unsafeString_ #[182,3] 9 #[.pointer (some ⟨g,0,none⟩),.int .i64 l.length]).run Tryz.prog w.drew= .ok (.string ⟨l.toArray⟩) (w.drew.freeze ⟨g,0,none⟩ l.length):=by
  refine Lib.run_unsafeString_row w.drew 182 3 9 5 L.t127 X.cellsByte g cur.size (by simp [World.shape?,hg']) l h0 (by omega) (by unfold maxLen at hcm;omega) ?_;intro j x hx;exact hown.cells (g:=g) rfl j (.int .u8 x.toNat) (by simp [Lib.byteCells,hx])
 go_enter Tryz.func47,Tryz.ntmps47
 go_wp2
 go_region
 go_wp2
 go_ret
 obtain ⟨q1,q2,q3,q4,q5⟩:=freeze_facts w.drew ⟨g,0,none⟩ l.length hl0;exact ⟨rfl,⟨q1,q2,q3,Nat.le_of_eq q4.symm,fun k hk hkb hkv=>q5 k (fun e=>hkv (by simp [Value.ownBlock,e])),fun k hk=>.inl hk⟩⟩
end Go.Proofs

namespace Go.Ab
open Go.Proofs Go.RowKit
structure WR (C:Ctx) (c:Code) (fr:List AV) (h:Heap) (K:AE→List AV→Heap→Prop):Prop where
 use:∀(rd:Option Nat) (B:DB) (σ0:Sg) (w0:World) (σ:Sg) (w:World) (a:Act) (Q:Exit→Act→World→Prop),(C.inR=false→rd=none)→YOk C σ→B.lo≤w.heap.size→Mv σ0 .nil w0 σ h w→VRels σ fr a.tmps.toList→DfOk B σ a.defers→
  (∀e fr' h' σ' a' w',K e fr' h'→Mv σ0 .nil w0 σ' h' w'→VRels σ' fr' a'.tmps.toList→DfOk B σ' a'.defers→Q e.toExit a' w')→c.wpIn (FR rd) 0 C.P Q a w
variable {C:Ctx} {fr:List AV} {h:Heap} {K:AE→List AV→Heap→Prop}
theorem wr_seq {x y:Code} (k:WK C x fr h fun e fr h=>match e with
  | .normal=>WR C y fr h K
  | .exit i=>K (.exit i) fr h
  | .ret=>K .ret fr h
  | .pan t v=>K (.pan t v) fr h):WR C (.seq x y) fr h K:=by
 refine ⟨fun rd B σ0 w0 σ w a Q hrd hy hB m hf hd hQ=>?_⟩;refine wpIn_seq (k.use rd B σ w a _ hrd hy hB m.sim hf hd fun e fr' h' σ' a' w' k2 m2 v2 d2=>?_);cases e with
 |normal=>exact k2.use rd B σ0 w0 σ' w' a' Q hrd (hy.mono m2.le) (Nat.le_trans hB m2.size) (m.trans m2) v2 d2 hQ
 |exit i=>exact hQ (.exit i) fr' h' σ' a' w' k2 (m.trans m2) v2 d2
 |ret=>exact hQ .ret fr' h' σ' a' w' k2 (m.trans m2) v2 d2
 |pan pt pv=>exact hQ (.pan pt pv) fr' h' σ' a' w' k2 (m.trans m2) v2 d2
theorem wr_new (hP:C.P=Tryz.prog) {id:Id} {rid:Nat} {ops:Array Oper} {y:Code} (hr:List.range ops.size=[0]) {o:Oper} (ho:ops[0]? =some o) (hop:o.op= .alloc 118) (hg:o.guard=none)
  (k:∀ep,WE C id ep y (putF fr o.dst (.optr id ep 2 0 0)) h [] fun e fr h _=>K e fr h):WR C (.seq (.region rid ops false) y) fr h K:=by
 refine ⟨fun rd B σ0 w0 σ w a Q hrd hy hB m hf hd hQ=>?_⟩;refine wpIn_seq (wpIn_region ?_);rw [hr];refine wpOps_cons ho hg ⟨fun _ _=>trivial,?_⟩;rw [Oper.semAt_eq _ _ _ (by intro c';rw [hop];simp)];have hrun:(execOp a.eval o).run C.P w= .ok (.value (.pointer (some ⟨w.heap.size,0,none⟩))) (w.alloc (.cells #[.pointer none,.slice none 0 0] 118)):=by
  rw [hP];obtain ⟨dst,op,type,pos,after,guard⟩:=o;simp only at hop;subst hop;simp [execOp,Instr.alloc,Tryz.zeroValue118,newVar,newRow,Value.cells]
 rw [hrun,Oper.uponIn_value];obtain ⟨ep,σ',m1,m2,g⟩:=gh_new (id:=id) m;have hd2:(a.put o.dst (.pointer (some ⟨w.heap.size,0,none⟩))).defers=a.defers:=by cases o.dst<;>rfl
 show Code.wpIn _ _ _ _ _ _ _;exact (k ep).use rd B σ0 w0 σ' _ _ _ _ Q hrd (hy.mono m2.le) (Nat.le_trans hB m2.size) m1 (putF_rel (hf.mono m2.le) (.optr g.rho)) (by rw [hd2];exact hd.mono m2.le) g
  fun e fr' h' l' σ' a' w' v' k2 m3 _ _ v3 d3 _=>hQ e fr' h' σ' a' w' k2 m3 v3 d3
theorem we_last (ok:COk C) (hP:C.P=Tryz.prog) {id:Id} {ep:Nat} {rid:Nat} {ops:Array Oper} {rest:List Nat} {slot:Nat→Id} (hr:List.range ops.size=0::rest) {o:Oper} (ho:ops[0]? =some o) {c:Call} (hop:o.op= .call c) (hg:o.guard=none) {l:List UInt8} {K:AE→List AV→Heap→List UInt8→Prop}
  (hfn:fnOf C (evl fr) c=some (47,[.optr id ep 2 0 0])) (hl:l≠[]) (k:runOrd C ops slot rest (putF fr o.dst (.str l)) h fun fr h=>K .ret fr h l):WE C id ep (.seq (.region rid ops false) .ret) fr h l K:=by
 refine ⟨fun rd B σ0 w0 σ w a b v Q hrd hy hB m hf hd hgh hQ=>?_⟩;refine wpIn_seq (wpIn_region ?_);rw [hr];refine wpOps_cons ho hg ⟨fun _ _=>trivial,?_⟩;rw [Oper.semAt_eq _ _ _ (by intro c';rw [hop];simp)];obtain ⟨vs,h1,h2⟩:=fnOf_sound ok (evl_rel m.sim.gl hf) hfn o hop w;rw [h1,Oper.uponIn_enter];refine ⟨(fun x=>by cases x),?_⟩;refine callsFR ?_;rw [hP];obtain ⟨x,rfl,q1⟩:=V.vrels1 h2;have hx:x= .pointer (some ⟨b,0,none⟩):=by
  cases q1 with
  |optr hρ=>rw [hgh.rho] at hρ;cases hρ;rfl
 subst hx;refine (string47k w0.heap.size b v l w hgh.bld hl).mono ?_;rintro e w2 ⟨rfl,hk⟩;have m2:=hgh.kept m hk;have hd2:(a.put o.dst (.string ⟨l.toArray⟩)).defers=a.defers:=by cases o.dst<;>rfl
 show wpOpsIn _ _ _ _ _ _ _ _;rw [←hP];refine runOrd_sound ok _ hy (putF_rel hf .str) m2.sim k fun fr' h' σ' a' w' k2 m3 v3 d3=>?_;show Code.wpIn _ _ _ _ _ _ _;exact wpIn_ret (hQ .ret fr' h' l σ' a' w' v k2 (m2.trans m3) (hy.mono m3.le) (Nat.le_trans hB (Nat.le_trans hk.size m3.size)) v3 (by rw [d3,hd2];exact hd.mono m3.le) (.inl rfl))
theorem pret_wr {f:FuncId} {fn:Func} {c:Code} (ok:COk C) (n:Nat) (hf:C.P.funcs[f]? =some fn) (hb:fn.body=some c) (hy:C.yl=none) {args:List AV} {r:AV} (hp:r.isPure2=true) (hz:∀h,frzK h r fun r' _=>r'=r)
  (hk:WR C c (frame0 args fn.ntmps) (heap0 Heap.nil n) fun e fr h'=>match e with
   | .normal=>resR C.ti fn.results.toList fr h' fun vs=>retV vs fun v=>v=r
   | .ret=>resR C.ti fn.results.toList fr h' fun vs=>retV vs fun v=>v=r
   | .pan _ _=>False
   | .exit _=>False):PRet C.P f args r:=by
 refine ⟨⟨⟨fun σ w vs s hv=>?_⟩⟩⟩;have hy:YOk C σ:=YOk.none hy;refine callsFR' (rd:=none) (n:=0) (callsIn_of_wp_marks hf hb trivial ?_);have m0:=s.grow n;have hl:args.length=vs.size:=by have:=hv.1;simpa using this
 have hfr:VRels σ (frame0 args fn.ntmps) (vs++Array.replicate (fn.ntmps-vs.size) undef).toList:=by
  simp only [frame0,Array.toList_append,Array.toList_replicate];refine VRels.append hv ⟨by simp [hl],fun i a v x y=>?_⟩;rw [List.getElem?_replicate] at x
  split at x
  ·cases x;exact .u
  ·cases x
 have low:∀b o,σ.RM b=some o→w.heap.size≤b→False:=fun b o x hb=>by have:=(Array.getElem?_eq_some_iff.1 (s.rm b o x).1).1;omega
 refine hk.use none ⟨w.heap.size,[]⟩ σ w σ w { tmps:=vs++Array.replicate (fn.ntmps-vs.size) undef,defers:=[] } _ (fun _=>rfl) hy (Nat.le_refl _) m0 hfr .nil fun e fr' h' σ' a' w' k m hv' hd'=>?_;have fin:(resR C.ti fn.results.toList fr' h' fun vs=>retV vs fun v=>v=r)→LeavesInM (FR none) 0 C.P fn a'.tmps (fun e w'=>∃v,e= .returned v∧∃σ' h' r0,(frzK h' r0 fun r' _=>r'.isPure2=true∧r'=r)∧Mv σ .nil w σ' h' w'∧VRel σ' r0 v) a'.defers .returning w':=by
  intro k;simp only [resR_eq,retV_eq] at k;obtain ⟨l,e1,e2,e3⟩:=hd';rw [e1,List.append_nil];refine leavesM (σ:=σ) (h:=Heap.nil) (w:=w) (fr':=fr') (h':=h') low (fun σ2 w2 m2 v2=>?_) l σ' w' e2 e3 m hv';obtain ⟨v,rs,h1,h2,h3⟩:=results_sound ok m2.sim v2 fn k;exact ⟨v,h1,v,rfl,σ2,h',r,frzK_mono (fun a _ e=>⟨by rw [e];exact hp,e⟩) (hz _),m2,by rw [←h3];exact h2⟩
 cases e with
 |normal=>exact fin k
 |ret=>exact fin k
 |exit id=>exact k.elim
 |pan t v=>exact k.elim
end Go.Ab

namespace Go.Ab.V
open Go.Proofs
theorem spell_all:∀p:Fin 128,(match spell (p.1:Int) with|some r=>decide (r.1≤6)&&decide (sndE r.1 r.2.1 r.2.2=0)|none=>false)=true:=by decide+kernel
theorem spell_in {p:Int} (h0:0≤p) (h1:p≤127):∃r,spell p=some r∧r.1≤6∧sndE r.1 r.2.1 r.2.2=0:=by
 have h:=spell_all ⟨p.toNat,by omega⟩;have e:((p.toNat:Nat):Int)=p:=by omega
 dsimp only at h;rw [e] at h
 split at h
 ·rename_i r hr;simp only [Bool.and_eq_true,decide_eq_true_eq] at h;exact ⟨r,hr,h.1,h.2⟩
 ·cases h
theorem chkCs_all {steps:List Int}:∀{l:List Crs},chkCs steps l=0→∀c∈l,0≤c.frets∧c.frets≤steps.length∧0≤c.pitch∧c.pitch≤127
 | [],_,c,hc=>by cases hc
 |x::r,h,c,hc=>by
  rw [chkCs] at h
  split at h
  ·cases h
  ·split at h
   ·cases h
   ·rcases List.mem_cons.1 hc with rfl|hc
    ·omega
    ·exact chkCs_all h c hc
structure InOk (i:Ins):Prop where
 cs:i.cs.length≤14
 st:i.steps.length≤18
 crs:∀c∈i.cs,0≤c.frets∧c.frets≤18∧0≤c.pitch∧c.pitch≤127
 stp:∀s∈i.steps,0<s∧s≤127
 ne:i.cs≠[]
theorem chkIn_ok {i:Ins} (h:chkIn i=0):InOk i:=by
 unfold chkIn at h
 split at h
 ·cases h
 ·split at h
  ·cases h
  ·split at h
   ·cases h
   ·rename_i h1 h2 h3;refine ⟨by omega,by omega,fun c hc=>?_,fun s hs=>?_,fun e=>h2 (by rw [e];rfl)⟩
    ·have:=chkCs_all h c hc;omega
    ·exact chkSteps_bd _ _ (by simpa using h3) s hs
def fmtN (p:Int):List UInt8:=match spell p with|some r=>nmT r.1 r.2.1 r.2.2|none=>[]
def fmtC (c:Crs):List UInt8:=(((fmtN c.pitch++[47])++itoa3 c.frets)++(if c.oct=true then [43] else []))++[32]
def fmtCs (l:List Crs):List UInt8:=l.flatMap fmtC
def fmtSs (l:List Int):List UInt8:=l.flatMap fun s=>[32]++itoa3 s
def fmtI (i:Ins):List UInt8:=(fmtCs i.cs++[58])++fmtSs i.steps
theorem fmtN_len (p:Int):(fmtN p).length≤6:=by
 unfold fmtN
 split
 ·unfold nmT sgnT;have:=itoa3_len (by assumption:Nat×Int×Int).2.2;simp only [List.length_append,List.length_take]
  split<;>(try split)<;>simp<;>omega
 ·simp
theorem fmtC_len (c:Crs):(fmtC c).length≤13:=by
 unfold fmtC;have:=fmtN_len c.pitch;have:=itoa3_len c.frets;simp only [List.length_append,List.length_singleton]
 split<;>simp<;>omega
theorem fmtCs_len:∀l:List Crs,(fmtCs l).length≤13 * l.length
 | []=>by simp [fmtCs]
 |c::r=>by
  have h1:=fmtC_len c;have h2:=fmtCs_len r;unfold fmtCs at h2 ⊢;simp only [List.flatMap_cons,List.length_append,List.length_cons];omega
theorem fmtSs_len:∀l:List Int,(fmtSs l).length≤5 * l.length
 | []=>by simp [fmtSs]
 |c::r=>by
  have h1:=itoa3_len c;have h2:=fmtSs_len r;unfold fmtSs at h2 ⊢;simp only [List.flatMap_cons,List.length_append,List.length_cons,List.length_nil];omega
theorem fmtCs_snoc {l:List Crs} {k:Nat} (h:k<l.length):fmtCs (l.take (k+1))=fmtCs (l.take k)++fmtC l[k]:=by
 unfold fmtCs;rw [List.take_succ_eq_append_getElem h,List.flatMap_append];simp
theorem fmtSs_snoc {l:List Int} {k:Nat} (h:k<l.length):fmtSs (l.take (k+1))=fmtSs (l.take k)++([32]++itoa3 l[k]):=by
 unfold fmtSs;rw [List.take_succ_eq_append_getElem h,List.flatMap_append];simp
def A44:Ann:=fun r=>match r with
 |0=>{ slots:=[(0,0)] }
 |7=>{ slots:=[(2,2)] }
 |8=>{ slots:=[(6,3)] }
 |_=>{}
theorem format_spec (i:Ins) (hi:chkIn i=0):PRet C.P 44 [inA i] (.tup [.str (fmtI i),.int .i64 0]):=by
 have ho:=chkIn_ok hi;have hc:=inCheck_spec i;rw [hi] at hc;refine pret_wr ok 4 Tryz.func44 rfl rfl rfl (fun h=>rfl) (wr_seq (wkA ok mixed (A:=A44) ?_))
 (repeat' (first|exact rfl|((conv=>whnf);first|exact rfl|exact ⟨rfl,rfl⟩|refine go1 ?_|(intro ep)|fail)))
 (conv=>whnf);obtain ⟨e0,he0⟩:∃e,e=ep:=⟨_,rfl⟩;subst he0;refine wr_seq (wkA ok mixed (A:=A44) ?_)
 (repeat' (first|exact rfl|((conv=>whnf);first|(refine ⟨_,hc,?_⟩)|exact rfl|exact ⟨rfl,rfl⟩|refine go1 ?_|(intro ep)|fail)))
 (conv=>whnf);refine wr_new rfl (id:=.s 1) rfl rfl rfl rfl fun ep=>?_;refine we_seq (we_seq (WE.frame (wkA ok mixed (A:=A44) ?_)))
 (repeat' (first|exact rfl|((conv=>whnf);first|exact rfl|exact ⟨rfl,rfl⟩|refine go1 ?_|(intro ep)|fail)));(conv=>whnf)
 refine we_block (we_loop [1,5,19,20,21] [0] (S:={ k:Nat // k≤i.cs.length })
  (fun s=>frOf 0 68 [(1,.optr (.s 0) e0 2 0 0),(5,.optr (.s 1) ep 2 0 0),(19,crsA i.cs),(20,.int .i64 i.cs.length),(21,.int .i64 (s.1:Int))])
  (fun s=>⟨[.vec e0 [[crsA i.cs,intsA i.steps]],.hole,.hole,.hole],[]⟩) (fun s=>fmtCs (i.cs.take s.1)) (fun s=>i.cs.length-s.1) ⟨0,by omega⟩ rfl rfl rfl ?_)
 rintro ⟨k,hk⟩;dsimp only;refine we_seq (WE.frame (wkA ok mixed (A:=A44) ?_))
 (repeat' (first|exact rfl|((conv=>whnf);first|exact rfl|exact ⟨rfl,rfl⟩|refine go1 ?_|(intro ep)|fail)));(conv=>whnf)
 by_cases hkl:k<i.cs.length
 ·refine we_seq (we_cond (t:=true) (by show AV.bool (decide ((k:Int)<(i.cs.length:Int)))=_;rw [decide_eq_true (by omega)]) (we_skip ?_));(conv=>whnf);have hm:=mapR (f:=crR) hkl;have hcr:=ho.crs _ (List.getElem_mem hkl);have hsn:=fmtCs_snoc hkl;have hcs14:=ho.cs;have hln:(fmtCs (i.cs.take k)).length≤182:=by
   have:=fmtCs_len (i.cs.take k);rw [List.length_take] at this;have:=ho.cs;omega
  generalize hck:i.cs[k]=ck at hm hcr hsn;have hsp:=spell_spec ck.pitch;obtain ⟨⟨l,a,o⟩,hr,hl6,hs0⟩:=spell_in hcr.2.2.1 hcr.2.2.2;rw [hr] at hsp;have hnm:=name_spec l a o hl6 hs0;have hTl:(nmT l a o).length≤6:=by have:=fmtN_len ck.pitch;unfold fmtN at this;rw [hr] at this;exact this
  have hfc:fmtC ck=(((nmT l a o++[47])++itoa3 ck.frets)++(if ck.oct=true then [43] else []))++[32]:=by unfold fmtC fmtN;rw [hr]
  have hIl:=itoa3_len ck.frets;rw [hfc] at hsn;have hit:=itoa_spec ck.frets (by omega) (by omega);refine we_seq (we_block (we_seq (WE.frame (wkA ok mixed (A:=A44) ?_))))
  (repeat' (first|exact rfl|((conv=>whnf);first|(refine optS hm ?_)|exact rfl|exact ⟨rfl,rfl⟩|refine go1 ?_|(intro ep)|fail)))
  (conv=>whnf);refine we_seq (WE.frame (wkA ok mixed (A:=A44) ?_))
  (repeat' (first|exact rfl|((conv=>whnf);first|(refine ⟨_,hsp,?_⟩)|exact rfl|exact ⟨rfl,rfl⟩|refine go1 ?_|(intro ep)|fail)))
  (conv=>whnf);refine we_seq (WE.frame (wkA ok mixed (A:=A44) ?_))
  (repeat' (first|exact rfl|((conv=>whnf);first|exact rfl|exact ⟨rfl,rfl⟩|refine go1 ?_|(intro ep)|fail)));(conv=>whnf)
  refine we_seq (WE.frame (wkA ok mixed (A:=A44) ?_))
  (repeat' (first|exact rfl|((conv=>whnf);first|(refine ⟨_,hnm,?_⟩)|exact rfl|exact ⟨rfl,rfl⟩|refine go1 ?_|(intro ep)|fail)))
  (conv=>whnf);refine we_seq (WE.frame (wkA ok mixed (A:=A44) ?_))
  (repeat' (first|exact rfl|((conv=>whnf);first|exact rfl|exact ⟨rfl,rfl⟩|refine go1 ?_|(intro ep)|fail)));(conv=>whnf)
  refine we_seq (we_write ok rfl (m:=6) (slot:=fun _=>.s 3) rfl rfl rfl ?_)
  (repeat' (first|exact rfl|((conv=>whnf);first|(refine ⟨_,hit,?_⟩)|(refine ⟨by show (nmT l a o).length+1≤strMax;unfold strMax;omega,?_⟩)|(refine ⟨by show (nmT l a o++[47]).length+(itoa3 ck.frets).length≤strMax;unfold strMax;rw [List.length_append,List.length_singleton];omega,?_⟩)|exact rfl|exact ⟨rfl,rfl⟩|refine go1 ?_|(intro ep)|fail)))
  (conv=>whnf);refine ⟨(nmT l a o++[47])++itoa3 ck.frets,rfl,by simp only [List.length_append,List.length_singleton];omega,?_⟩;(conv=>whnf);refine we_seq (we_seq (WE.frame (wkA ok mixed (A:=A44) ?_)))
  (repeat' (first|exact rfl|((conv=>whnf);first|exact rfl|exact ⟨rfl,rfl⟩|refine go1 ?_|(intro ep)|fail)));(conv=>whnf)
  obtain ⟨cp,cf,co⟩:=ck;dsimp only at hsn hTl hIl ⊢;cases co with
  |true=>
   refine we_cond (t:=true) rfl (we_write ok rfl (m:=0) (slot:=fun _=>.s 3) rfl rfl rfl ⟨rfl,_,rfl,?_,?_⟩)
   ·show (fmtCs (List.take k i.cs)++(nmT l a o++[47]++itoa3 cf)).length+1≤1000000000;simp only [List.length_append,List.length_singleton];omega
   (conv=>whnf);refine we_write ok rfl (m:=0) (slot:=fun _=>.s 3) rfl rfl rfl ⟨rfl,_,rfl,?_,?_⟩
   ·show (fmtCs (List.take k i.cs)++(nmT l a o++[47]++itoa3 cf)++[43]).length+1≤1000000000;simp only [List.length_append,List.length_singleton];omega
   (conv=>whnf);refine WE.frame (wkA ok mixed (A:=A44) ?_);have hw:IntKind.i64.wrap ((k:Int)+1)=((k+1:Nat):Int):=by simp (disch:=omega) only [wrapI];omega
   (repeat' (first|exact rfl|((conv=>whnf);first|(rw [hw])|exact rfl|exact ⟨rfl,rfl⟩|refine go1 ?_|(intro ep)|fail)))
   (conv=>whnf);refine back_of ⟨k+1,hkl⟩ ⟨rfl,rfl,?_,by dsimp only;omega⟩;show fmtCs (List.take k i.cs)++(nmT l a o++[47]++itoa3 cf)++[43]++[32]=fmtCs (List.take (k+1) i.cs);rw [hsn];simp
  |false=>
   refine we_cond (t:=false) rfl (we_skip ?_);(conv=>whnf);refine we_write ok rfl (m:=0) (slot:=fun _=>.s 3) rfl rfl rfl ⟨rfl,_,rfl,?_,?_⟩
   ·show (fmtCs (List.take k i.cs)++(nmT l a o++[47]++itoa3 cf)).length+1≤1000000000;simp only [List.length_append,List.length_singleton];omega
   (conv=>whnf);refine WE.frame (wkA ok mixed (A:=A44) ?_);have hw:IntKind.i64.wrap ((k:Int)+1)=((k+1:Nat):Int):=by simp (disch:=omega) only [wrapI];omega
   (repeat' (first|exact rfl|((conv=>whnf);first|(rw [hw])|exact rfl|exact ⟨rfl,rfl⟩|refine go1 ?_|(intro ep)|fail)))
   (conv=>whnf);refine back_of ⟨k+1,hkl⟩ ⟨rfl,rfl,?_,by dsimp only;omega⟩;show fmtCs (List.take k i.cs)++(nmT l a o++[47]++itoa3 cf)++[32]=fmtCs (List.take (k+1) i.cs);rw [hsn];simp
 ·refine we_seq (we_cond (t:=false) (by show AV.bool (decide ((k:Int)<(i.cs.length:Int)))=_;rw [decide_eq_false (by omega)]) (we_exit ?_));(conv=>whnf);have hk2:k=i.cs.length:=by omega
  subst hk2;rw [List.take_length];have hl0:=fmtCs_len i.cs;have hcs:=ho.cs;have hss:=ho.st;refine we_seq (we_write ok rfl (m:=0) (slot:=fun _=>.s 3) rfl rfl rfl ⟨rfl,_,rfl,?_,?_⟩)
  ·show (fmtCs i.cs).length+1≤1000000000;omega
  (conv=>whnf);refine we_seq (we_seq (WE.frame (wkA ok mixed (A:=A44) ?_)))
  (repeat' (first|exact rfl|((conv=>whnf);first|exact rfl|exact ⟨rfl,rfl⟩|refine go1 ?_|(intro ep)|fail)));(conv=>whnf)
  refine we_block (we_loop [5,56,57,58] [0] (S:={ k:Nat // k≤i.steps.length })
   (fun s=>frOf 0 68 [(5,.optr (.s 1) ep 2 0 0),(56,intsA i.steps),(57,.int .i64 i.steps.length),(58,.int .i64 (s.1:Int))])
   (fun s=>⟨[.vec e0 [[crsA i.cs,intsA i.steps]],.hole,.hole,.hole],[]⟩) (fun s=>(fmtCs i.cs++[58])++fmtSs (i.steps.take s.1)) (fun s=>i.steps.length-s.1) ⟨0,by omega⟩ rfl rfl (by rw [List.take_zero];simp [fmtSs]) ?_)
  rintro ⟨k,hk⟩;dsimp only;refine we_seq (WE.frame (wkA ok mixed (A:=A44) ?_))
  (repeat' (first|exact rfl|((conv=>whnf);first|exact rfl|exact ⟨rfl,rfl⟩|refine go1 ?_|(intro ep)|fail)));(conv=>whnf)
  by_cases hkl:k<i.steps.length
  ·refine we_seq (we_cond (t:=true) (by show AV.bool (decide ((k:Int)<(i.steps.length:Int)))=_;rw [decide_eq_true (by omega)]) (we_skip ?_));(conv=>whnf);have hm:=intsR hkl;have hst:=ho.stp _ (List.getElem_mem hkl);have hsn:=fmtSs_snoc hkl;have hln:(fmtSs (i.steps.take k)).length≤90:=by
    have:=fmtSs_len (i.steps.take k);rw [List.length_take] at this;omega
   generalize i.steps[k]=sk at hm hst hsn;have hit:=itoa_spec sk (by omega) (by omega);have hIl:=itoa3_len sk;refine we_seq (we_block (we_seq (WE.frame (wkA ok mixed (A:=A44) ?_))))
   (repeat' (first|exact rfl|((conv=>whnf);first|(refine optS hm ?_)|exact rfl|exact ⟨rfl,rfl⟩|refine go1 ?_|(intro ep)|fail)))
   (conv=>whnf);refine we_write ok rfl (m:=3) (slot:=fun _=>.s 3) rfl rfl rfl ?_
   (repeat' (first|exact rfl|((conv=>whnf);first|(refine ⟨_,hit,?_⟩)|(refine ⟨by show 1+(itoa3 sk).length≤strMax;unfold strMax;omega,?_⟩)|exact rfl|exact ⟨rfl,rfl⟩|refine go1 ?_|(intro ep)|fail)))
   (conv=>whnf);refine ⟨[32]++itoa3 sk,rfl,by simp only [List.length_append,List.length_singleton];omega,?_⟩;(conv=>whnf);refine WE.frame (wkA ok mixed (A:=A44) ?_);have hw:IntKind.i64.wrap ((k:Int)+1)=((k+1:Nat):Int):=by simp (disch:=omega) only [wrapI];omega
   (repeat' (first|exact rfl|((conv=>whnf);first|(rw [hw])|exact rfl|exact ⟨rfl,rfl⟩|refine go1 ?_|(intro ep)|fail)))
   (conv=>whnf);refine back_of ⟨k+1,hkl⟩ ⟨rfl,rfl,?_,by dsimp only;omega⟩;dsimp only;rw [hsn];simp
  ·refine we_seq (we_cond (t:=false) (by show AV.bool (decide ((k:Int)<(i.steps.length:Int)))=_;rw [decide_eq_false (by omega)]) (we_exit ?_));(conv=>whnf);have hk2:k=i.steps.length:=by omega
   subst hk2;rw [List.take_length];refine we_last ok rfl (rest:=[1,2]) (slot:=fun _=>.s 3) rfl rfl rfl rfl rfl (by simp) ?_
   (repeat' (first|exact rfl|((conv=>whnf);first|exact rfl|exact ⟨rfl,rfl⟩|refine go1 ?_|(intro ep)|fail)))
end Go.Ab.V
