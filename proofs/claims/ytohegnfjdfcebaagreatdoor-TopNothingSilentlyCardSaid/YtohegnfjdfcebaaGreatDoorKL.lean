/-
  What is proved here serves the law's text: each part says its own claim and its conditions. No condition is left open.
-/
import Derived.Test.YtohegnfjdfcebaaGreatDoorKK
import Derived.Test.YtohegnfjdfcebaaGreatDoorKI
set_option maxHeartbeats 32000000
set_option maxRecDepth 100000
set_option linter.unusedSimpArgs false
set_option linter.unusedVariables false

namespace Go.Ab
theorem before_listed {ops:Array Oper} (L:Nat→Prop) (closed:∀(k:Nat) (o:Oper),ops[k]? =some o→L k→∀e∈o.after,Region.binds .any e=true→L e.on):
  ∀(i:Nat) (oi:Oper),ops[i]? =some oi→(∀e∈oi.after,Region.binds .any e=true→L e.on)→∀j,ordered ops j i=true→L j:=by
 let inner:Array Nat→Oper→Nat:=fun acc o=>o.after.foldl (fun s e=>if Region.binds .any e then s|||2 ^ e.on|||acc.getD e.on 0 else s) 0
 let P:Array Nat→Prop:=fun acc=>∀(k:Nat) (o:Oper),k<acc.size→ops[k]? =some o→(∀e∈o.after,Region.binds .any e=true→L e.on)→∀j,(acc.getD k 0).testBit j=true→L j
 have hinner:∀(acc:Array Nat) (o:Oper),P acc→acc.size≤ops.size→(∀e∈o.after,Region.binds .any e=true→L e.on)→∀j,(inner acc o).testBit j=true→L j:=by
  intro acc o hP hsz hpre j hj;have gen:∀(l:List Edge) (s:Nat),(∀e∈l,Region.binds .any e=true→L e.on)→(s.testBit j=true→L j)→(l.foldl (fun s e=>if Region.binds .any e then s|||2 ^ e.on|||acc.getD e.on 0 else s) s).testBit j=true→L j:=by
   intro l
   induction l with
   |nil=>intro s _ hs h;exact hs h
   |cons e l ih=>
    intro s hl hs h;simp only [List.foldl_cons] at h;refine ih _ (fun e' he'=>hl e' (by simp [he'])) (fun h2=>?_) h
    split at h2
    ·rename_i hb;have hLe:=hl e (by simp) hb;simp only [Nat.testBit_or,Bool.or_eq_true] at h2
     rcases h2 with (h2|h2)|h2
     ·exact hs h2
     ·rw [Nat.testBit_two_pow] at h2;have:e.on=j:=by simpa using h2
      exact this ▸ hLe
     ·by_cases hlt:e.on<acc.size
      ·have hlt':e.on<ops.size:=by omega
       exact hP e.on ops[e.on] hlt (by simp) (closed e.on ops[e.on] (by simp) hLe) j h2
      ·rw [show acc.getD e.on 0=0 from by simp [Array.getD,hlt]] at h2;simp at h2
    ·exact hs h2
  have:=gen o.after.toList 0 (fun e he=>hpre e (by simpa using he)) (fun h=>by simp at h);simp only [inner] at hj;rw [←Array.foldl_toList] at hj;exact this hj
 have main:∀(l:List Oper) (acc:Array Nat),acc.size+l.length=ops.size→(∀k,l[k]? =ops[acc.size+k]?)→P acc→P (l.foldl (fun acc o=>acc.push (inner acc o)) acc)∧(l.foldl (fun acc o=>acc.push (inner acc o)) acc).size=ops.size:=by
  intro l
  induction l with
  |nil=>intro acc h1 h2 h3;exact ⟨h3,by simpa using h1⟩
  |cons o l ih=>
   intro acc h1 h2 h3;simp only [List.foldl_cons];simp only [List.length_cons] at h1;refine ih _ (by simp;omega) (fun k=>?_) ?_
   ·have:=h2 (k+1);simp only [List.getElem?_cons_succ] at this;rw [this]
    congr 1
    simp;omega
   ·intro k ok hk hok hpre j hj;simp only [Array.size_push] at hk;by_cases hlt:k<acc.size
    ·rw [show (acc.push (inner acc o)).getD k 0=acc.getD k 0 from by simp [Array.getD,hlt,show k<acc.size+1 from by omega,Array.getElem_push_lt hlt]] at hj;exact h3 k ok hlt hok hpre j hj
    ·have hke:k=acc.size:=by omega
     subst hke;have ho:=h2 0;simp only [List.getElem?_cons_zero,Nat.add_zero] at ho;rw [hok] at ho;cases ho;rw [show (acc.push (inner acc o)).getD acc.size 0=inner acc o from by simp [Array.getD]] at hj;exact hinner acc o h3 (by omega) hpre j hj
 intro i oi hi hpre j hj;have hb:Region.before ops=ops.toList.foldl (fun acc o=>acc.push (inner acc o)) #[]:=by
  unfold Region.before;rw [←Array.foldl_toList]
 obtain ⟨m1,m2⟩:=main ops.toList #[] (by simp) (fun k=>by simp) (fun k o hk=>by simp at hk);unfold ordered at hj;rw [hb] at hj;refine m1 i oi ?_ hi hpre j hj;rw [m2];exact (Array.getElem?_eq_some_iff.1 hi).1
section
variable {C:Ctx} {ops:Array Oper} {slot:Nat→Id}
theorem stepO_mono {i:Nat} {fr:List AV} {h:Heap} {K K':List AV→Heap→Prop} (hk:∀f h,K f h→K' f h) (x:stepO C ops slot i fr h K):stepO C ops slot i fr h K':=by
 unfold stepO at x ⊢
 split at x
 ·exact x.elim
 ·split at x
  ·exact opK_mono (fun v h' y=>hk _ _ y) x
  ·exact hk _ _ x
  ·exact x.elim
theorem toFront {i:Nat} {post:List Nat}:∀{pre:List Nat} {fr:List AV} {h:Heap} {K:List AV→Heap→Prop},
  (∀j∈pre,∃oj oi,ops[j]? =some oj∧ops[i]? =some oi∧oj.apart ops oi=true∧swapOk (clsOf C oj.op) (clsOf C oi.op) (slot j) (slot i)=true)→
  runOrd C ops slot (pre++i::post) fr h K→runOrd C ops slot (i::(pre++post)) fr h K:=by
 intro pre
 induction pre with
 |nil=>intro fr h K _ x;exact x
 |cons p pre ih=>
  intro fr h K hp x;obtain ⟨oj,oi,h1,h2,h3,h4⟩:=hp p (by simp);have x1:stepO C ops slot p fr h fun fr h=>stepO C ops slot i fr h fun fr h=>runOrd C ops slot (pre++post) fr h K:=by
   rw [List.cons_append,runOrd_cons] at x;exact stepO_mono (fun f h' y=>ih (fun j hj=>hp j (by simp [hj])) y) x
  exact swapO h1 h2 h3 h4 x1
structure Left (C:Ctx) (ops:Array Oper) (slot:Nat→Id) (listed:Array Bool) (rem:List Nat):Prop where
 size:listed.size=ops.size
 mem:∀k,k∈rem↔k<ops.size∧listed.getD k false=false
 nodup:rem.Nodup
 pairs:rem.Pairwise fun j i=>pairOk C ops slot j i=true
 preds:∀pre i post,rem=pre++i::post→∀o,ops[i]? =some o→∀e∈o.after,Region.binds .any e=true→listed.getD e.on false=true∨e.on∈pre
 closed:∀(k:Nat) (o:Oper),ops[k]? =some o→listed.getD k false=true→∀e∈o.after,Region.binds .any e=true→listed.getD e.on false=true
theorem getD_tf {l:Array Bool} {k:Nat} (h:k<l.size) (d d':Bool):l.getD k d=l.getD k d':=by simp [Array.getD,h]
theorem draw_any (ok:COk C) {rd:Option Nat} {Q:Exit→Act→World→Prop}:∀(fuel:Nat) {listed:Array Bool} {rem:List Nat} {σ:Sg} {fr:List AV} {a:Act} {h:Heap} {w:World} {K:List AV→Heap→Prop},
  rem.length=fuel→Left C ops slot listed rem→YOk C σ→VRels σ fr a.tmps.toList→Sim σ h w→runOrd C ops slot rem fr h K→
  (∀fr' h' σ' a' w',K fr' h'→Mv σ h w σ' h' w'→VRels σ' fr' a'.tmps.toList→a'.defers=a.defers→Q .normal a' w')→wpAnyIn (FR rd) 0 C.P .any ops Q fuel listed a w:=by
 intro fuel
 induction fuel with
 |zero=>
  intro listed rem σ fr a h w K hl left hy hf s hk hQ;obtain rfl:=List.eq_nil_of_length_eq_zero hl;refine ⟨?_,hQ fr h σ a w hk (.refl s) hf rfl⟩;refine List.eq_nil_iff_forall_not_mem.2 fun i hi=>?_;obtain ⟨h1,o,ho,_⟩:=mem_ready.1 hi;have hlt:=(Array.getElem?_eq_some_iff.1 ho).1;have:=(left.mem i).2 ⟨hlt,by rw [getD_tf (by rw [left.size];exact hlt) false true];exact h1⟩;simp at this
 |succ fuel ih=>
  intro listed rem σ fr a h w K hl left hy hf s hk hQ;refine ⟨fun hnil=>?_,fun i hi=>?_⟩
  ·match rem,hl with
   |x::rem,hl=>
    exfalso;obtain ⟨hx,hxl⟩:=(left.mem x).1 (by simp);have:x∈Region.ready .any ops listed:=mem_ready.2 ⟨by rw [getD_tf (by rw [left.size];exact hx) true false];exact hxl,ops[x],by simp,fun e he hb=>
     (left.preds [] x rem rfl ops[x] (by simp) e he hb).resolve_right (by simp)⟩
    rw [hnil] at this;simp at this
  ·obtain ⟨h1,oi,hoi,hpre⟩:=mem_ready.1 hi;have hlt:=(Array.getElem?_eq_some_iff.1 hoi).1;have hil:listed.getD i false=false:=by rw [getD_tf (by rw [left.size];exact hlt) false true];exact h1
   obtain ⟨pre,post,rfl⟩:=List.append_of_mem ((left.mem i).2 ⟨hlt,hil⟩);have hfront:runOrd C ops slot (i::(pre++post)) fr h K:=by
    refine toFront (fun j hj=>?_) hk;have hp:pairOk C ops slot j i=true:=(List.pairwise_append.1 left.pairs).2.2 j hj i (by simp);have hjl:=((left.mem j).1 (by simp [hj])).2;unfold pairOk at hp;simp only [Bool.or_eq_true] at hp
    rcases hp with hp|hp
    ·have:=before_listed (fun k=>listed.getD k false=true) left.closed i oi hoi hpre j hp;rw [hjl] at this;cases this
    ·split at hp
     ·rename_i oj oi' e1 e2;simp only [Bool.and_eq_true] at hp;exact ⟨oj,oi',e1,e2,hp.1,hp.2⟩
     ·cases hp
   have left':Left C ops slot (listed.setIfInBounds i true) (pre++post):=by
    have hnd:=List.nodup_append.1 left.nodup;have hni:i∉pre:=fun hx=>hnd.2.2 i hx i (by simp) rfl;have hnp:i∉post:=(List.nodup_cons.1 hnd.2.1).1;have hset:∀k,(listed.setIfInBounds i true).getD k false=if k=i then true else listed.getD k false:=by
     intro k;by_cases hk':k=i
     ·subst hk';simp [Array.getD,left.size,hlt]
     ·rw [if_neg hk'];exact getD_set_ne false (Ne.symm hk')
    refine ⟨by simp [left.size],fun k=>?_,?_,?_,?_,?_⟩
    ·rw [hset];have hm:=left.mem k;simp only [List.mem_append,List.mem_cons] at hm ⊢;by_cases hk':k=i
     ·subst hk';simp [hni,hnp]
     ·simp only [hk',false_or,if_false] at hm ⊢;exact hm
    ·exact left.nodup.sublist (List.Sublist.append (List.Sublist.refl _) (List.sublist_cons_self _ _))
    ·exact left.pairs.sublist (List.Sublist.append (List.Sublist.refl _) (List.sublist_cons_self _ _))
    ·intro pre2 k post2 he o ho e hea hb;rw [hset];by_cases hei:e.on=i
     ·left;simp [hei]
     ·rw [if_neg hei]
      rcases List.append_eq_append_iff.1 he with ⟨as,h3,h4⟩|⟨bs,h3,h4⟩
      ·
       have:=left.preds (pre++i::as) k post2 (by rw [h4];simp) o ho e hea hb
       rcases this with x|x
       ·exact .inl x
       ·right
        rw [h3];simp only [List.mem_append,List.mem_cons,hei,false_or] at x ⊢;exact x
      ·
       match bs,h4 with
       | [],h4=>
        simp only [List.nil_append] at h4;simp only [List.append_nil] at h3;have:=left.preds (pre++[i]) k post2 (by rw [←h4];simp) o ho e hea hb
        rcases this with x|x
        ·exact .inl x
        ·right
         simp only [List.mem_append,List.mem_singleton,hei,or_false] at x;rw [←h3];exact x
       |b::bs,h4=>
        simp only [List.cons_append,List.cons.injEq] at h4;obtain ⟨rfl,h5⟩:=h4;have:=left.preds pre2 k (bs++i::post) (by rw [h3];simp) o ho e hea hb;exact this
    ·intro k o ho hkl e hea hb;rw [hset] at hkl ⊢
     split
     ·rfl
     ·split at hkl
      ·rename_i hk';subst hk';rw [hoi] at ho;cases ho;exact hpre e hea hb
      ·exact left.closed k o ho hkl e hea hb
   rw [runOrd_cons] at hfront;unfold wpOpIn;simp only [hoi];unfold stepO at hfront;simp only [hoi] at hfront;have hlen:(pre++post).length=fuel:=by simp at hl ⊢;omega
   split at hfront
   ·rename_i hw;rw [wantA_sound hf hw];refine op_sound ok hy hf s (slot i) oi hfront fun v x σ' h' w' k m hv=>?_;refine ih hlen left' (hy.mono m.le) (putF_rel (hf.mono m.le) hv) m.sim k fun fr' h'' σ'' a' w'' k2 m2 hv2 hd=>?_;exact hQ fr' h'' σ'' a' w'' k2 (m.trans m2) hv2 (hd.trans (by cases oi.dst<;>rfl))
   ·rename_i hw;rw [wantA_sound hf hw];simp only [Bool.false_eq_true,if_false];refine ⟨fun _ _=>trivial,?_⟩;refine ih hlen left' hy (putF_rel hf undef_rel) s hfront fun fr' h'' σ'' a' w'' k2 m2 hv2 hd=>?_;exact hQ fr' h'' σ'' a' w'' k2 m2 hv2 (hd.trans (by cases oi.dst<;>rfl))
   ·exact hfront.elim
theorem pairsOk_spec:∀{l:List Nat},pairsOk C ops slot l=true→l.Pairwise fun j i=>pairOk C ops slot j i=true:=by
 intro l
 induction l with
 |nil=>intro _;exact .nil
 |cons j r ih=>
  intro h;simp only [pairsOk,Bool.and_eq_true,List.all_eq_true] at h;exact List.pairwise_cons.2 ⟨h.1,ih h.2⟩
theorem predsOk_spec:∀{l done:List Nat},predsOk ops done l=true→l.Nodup∧(∀i∈l,i∉done)∧∀pre i post,l=pre++i::post→∀o,ops[i]? =some o→∀e∈o.after,Region.binds .any e=true→e.on∈done∨e.on∈pre:=by
 intro l
 induction l with
 |nil=>intro done _;exact ⟨.nil,by simp,fun pre i post h=>by simp at h⟩
 |cons i r ih=>
  intro done h;simp only [predsOk,Bool.and_eq_true,Bool.not_eq_true'] at h;obtain ⟨⟨h1,h2⟩,h3⟩:=h;obtain ⟨a,b,c⟩:=ih h3;have hid:i∉done:=by simpa using h2
  refine ⟨List.nodup_cons.2 ⟨fun hi=>b i hi (by simp),a⟩,fun k hk=>?_,fun pre k post he o ho e hea hb=>?_⟩
  ·rcases List.mem_cons.1 hk with rfl|hk
   ·exact hid
   ·exact fun hx=>b k hk (by simp [hx])
  ·match pre,he with
   | [],he=>
    simp only [List.nil_append,List.cons.injEq] at he;obtain ⟨rfl,rfl⟩:=he;simp only [ho] at h1;rw [Array.all_eq_true_iff_forall_mem] at h1;have:=h1 e hea;simp only [hb,Bool.not_true,Bool.false_or] at this;exact .inl (by simpa using this)
   |p::pre,he=>
    simp only [List.cons_append,List.cons.injEq] at he;obtain ⟨rfl,rfl⟩:=he
    rcases c pre k post rfl o ho e hea hb with x|x
    ·rcases List.mem_cons.1 x with x|x
     ·exact .inr (by simp [x])
     ·exact .inl x
    ·exact .inr (by simp [x])
theorem draw_sound (ok:COk C) {rd:Option Nat} (hm:C.P.follows .mixedOrders=true) {slots:List (Nat×Nat)} {canon:List Nat} (hd:drawOk C ops slots canon=true) {Q:Exit→Act→World→Prop} {id:Nat} {σ:Sg} {fr:List AV} {a:Act} {h:Heap} {w:World} {K:List AV→Heap→Prop}
  (hy:YOk C σ) (hf:VRels σ fr a.tmps.toList) (s:Sim σ h w) (hk:runOrd C ops (slotF slots) canon fr h K)
  (hQ:∀fr' h' σ' a' w',K fr' h'→Mv σ h w σ' h' w'→VRels σ' fr' a'.tmps.toList→a'.defers=a.defers→Q .normal a' w'):(Code.region id ops true).wpIn (FR rd) 0 C.P Q a w:=by
 unfold drawOk at hd;simp only [Bool.and_eq_true,beq_iff_eq,List.all_eq_true,decide_eq_true_eq] at hd;obtain ⟨⟨⟨⟨⟨d1,d0⟩,d2⟩,d3⟩,d4⟩,d5⟩:=hd;obtain ⟨p1,p2,p3⟩:=predsOk_spec d4;have m0:Mv σ h w σ h { w with drawn:=w.drawn+1 }:=s.same rfl ⟨rfl,rfl,rfl⟩;refine wpIn_region_any hm ?_;have hrep:∀k,(Array.replicate ops.size false).getD k false=false:=fun k=>by
  simp only [Array.getD]
  split<;>simp
 refine draw_any ok ops.size d1 ⟨by simp,fun k=>?_,p1,pairsOk_spec d5,fun pre i post he o ho e hea hb=>?_,fun k o ho hkl=>?_⟩ hy hf m0.sim hk fun fr' h' σ' a' w' k m v d=>hQ fr' h' σ' a' w' k (m0.trans m) v d
 ·rw [hrep];refine ⟨fun hk=>⟨d2 k hk,rfl⟩,fun ⟨hk,_⟩=>?_⟩;have:=d0 k (List.mem_range.2 hk);simpa using this
 ·exact .inr ((p3 pre i post he o ho e hea hb).resolve_left (by simp))
 ·rw [hrep] at hkl;cases hkl
end
end Go.Ab

namespace Go.Ab
inductive Plan where
 |done
 |one (i:Nat) (p:Plan)
 |br (i j:Nat) (p q:Plan)
 |br3 (i j l:Nat) (p q r:Plan)
 deriving Inhabited
section
variable {C:Ctx} {ops:Array Oper} {slot:Nat→Id}
def freeOp (ops:Array Oper) (i:Nat) (rem:List Nat):Bool:=match ops[i]? with
 |some o=>o.after.all fun e=>!Region.binds .any e||(decide (e.on<ops.size)&& !rem.contains e.on)
 |none=>false
def Plan.ok (C:Ctx) (ops:Array Oper) (slot:Nat→Id):Plan→List Nat→Bool
 | .done,rem=>rem.isEmpty
 | .one i p,rem=>rem.contains i&&freeOp ops i rem&&(rem.all fun j=>j==i||pairOk C ops slot i j)&&p.ok C ops slot (rem.erase i)
 | .br i j p q,rem=>rem.contains i&&freeOp ops i rem&&rem.contains j&&(rem.all fun k=>k==i||k==j||ordered ops i k||ordered ops j k)&&p.ok C ops slot (rem.erase i)&&q.ok C ops slot (rem.erase j)
 | .br3 i j l p q r,rem=>rem.contains i&&freeOp ops i rem&&rem.contains j&&rem.contains l&&(rem.all fun k=>k==i||k==j||k==l||ordered ops i k||ordered ops j k||ordered ops l k)&&p.ok C ops slot (rem.erase i)&&q.ok C ops slot (rem.erase j)&&r.ok C ops slot (rem.erase l)
def Plan.run (C:Ctx) (ops:Array Oper) (slot:Nat→Id):Plan→List AV→Heap→(List AV→Heap→Prop)→Prop
 | .done,fr,h,K=>K fr h
 | .one i p,fr,h,K=>stepO C ops slot i fr h fun fr h=>p.run C ops slot fr h K
 | .br i j p q,fr,h,K=>(stepO C ops slot i fr h fun fr h=>p.run C ops slot fr h K)∧(stepO C ops slot j fr h fun fr h=>q.run C ops slot fr h K)
 | .br3 i j l p q r,fr,h,K=>(stepO C ops slot i fr h fun fr h=>p.run C ops slot fr h K)∧(stepO C ops slot j fr h fun fr h=>q.run C ops slot fr h K)∧(stepO C ops slot l fr h fun fr h=>r.run C ops slot fr h K)
def Plan.adv (k:Nat):Plan→Plan
 | .done=>.done
 | .one i p=>if i=k then p else .one i (p.adv k)
 | .br i j p q=>if k=i then p else q
 | .br3 i j l p q r=>if k=i then p else if k=j then q else r
theorem freeOp_sub {i:Nat} {rem rem2:List Nat} (h:freeOp ops i rem=true) (hs:∀k∈rem2,k∈rem):freeOp ops i rem2=true:=by
 unfold freeOp at h ⊢
 split at h
 ·rw [Array.all_eq_true_iff_forall_mem] at h ⊢;intro e he;have:=h e he;simp only [Bool.or_eq_true,Bool.and_eq_true,Bool.not_eq_true'] at this ⊢
  rcases this with x|⟨z,x⟩
  ·exact .inl x
  ·refine .inr ⟨z,?_⟩;rw [←Bool.not_eq_true] at x ⊢;intro y;exact x (List.contains_iff_mem.2 (hs _ (List.contains_iff_mem.1 y)))
 ·cases h
theorem adv_spec {k:Nat}:∀{p:Plan} {rem:List Nat},p.ok C ops slot rem=true→rem.Nodup→k∈rem→(∀j∈rem,ordered ops j k=false)→
  (p.adv k).ok C ops slot (rem.erase k)=true∧∀{fr:List AV} {h:Heap} {K:List AV→Heap→Prop},p.run C ops slot fr h K→stepO C ops slot k fr h fun fr h=>(p.adv k).run C ops slot fr h K:=by
 intro p
 induction p with
 |done=>
  intro rem h hn hk _;simp only [Plan.ok,List.isEmpty_iff] at h;subst h;cases hk
 |one i p ih=>
  intro rem h hn hk ho;simp only [Plan.ok,Bool.and_eq_true,List.contains_iff_mem,List.all_eq_true,Bool.or_eq_true,beq_iff_eq] at h;obtain ⟨⟨⟨h1,h2⟩,h3⟩,h4⟩:=h;by_cases hik:i=k
  ·subst hik;simp only [Plan.adv,if_pos];exact ⟨h4,fun x=>x⟩
  ·simp only [Plan.adv,if_neg hik];have hke:k∈rem.erase i:=(hn.mem_erase_iff).2 ⟨Ne.symm hik,hk⟩;obtain ⟨a,b⟩:=ih h4 (hn.erase i) hke fun j hj=>ho j (List.mem_of_mem_erase hj);refine ⟨?_,fun {fr h K} x=>?_⟩
   ·simp only [Plan.ok,Bool.and_eq_true,List.contains_iff_mem,List.all_eq_true,Bool.or_eq_true,beq_iff_eq];refine ⟨⟨⟨(hn.mem_erase_iff).2 ⟨hik,h1⟩,freeOp_sub h2 fun x hx=>List.mem_of_mem_erase hx⟩,fun j hj=>h3 j (List.mem_of_mem_erase hj)⟩,?_⟩;rw [List.erase_comm];exact a
   ·have hp:=(h3 k hk).resolve_left (Ne.symm hik);unfold pairOk at hp;rw [ho i h1,Bool.false_or] at hp
    split at hp
    ·rename_i oj oi e1 e2;simp only [Bool.and_eq_true] at hp;exact swapO e1 e2 hp.1 hp.2 (stepO_mono (fun f h' y=>b y) x)
    ·cases hp
 |br i j p q ihp ihq=>
  intro rem h hn hk ho;simp only [Plan.ok,Bool.and_eq_true,List.contains_iff_mem,List.all_eq_true,Bool.or_eq_true,beq_iff_eq] at h;obtain ⟨⟨⟨⟨⟨h1,h2⟩,h3⟩,h4⟩,h5⟩,h6⟩:=h;by_cases hki:k=i
  ·subst hki;simp only [Plan.adv,if_pos];exact ⟨h5,fun x=>x.1⟩
  ·simp only [Plan.adv,if_neg hki];have hkj:k=j:=by
    rcases h4 k hk with ((x|x)|x)|x
    ·exact (hki x).elim
    ·exact x
    ·rw [ho i h1] at x;cases x
    ·rw [ho j h3] at x;cases x
   subst hkj;exact ⟨h6,fun x=>x.2⟩
 |br3 i j l p q r ihp ihq ihr=>
  intro rem h hn hk ho;simp only [Plan.ok,Bool.and_eq_true,List.contains_iff_mem,List.all_eq_true,Bool.or_eq_true,beq_iff_eq] at h;obtain ⟨⟨⟨⟨⟨⟨⟨h1,h2⟩,h3⟩,h3'⟩,h4⟩,h5⟩,h6⟩,h7⟩:=h;by_cases hki:k=i
  ·subst hki;simp only [Plan.adv,if_pos];exact ⟨h5,fun x=>x.1⟩
  ·by_cases hkj:k=j
   ·subst hkj;simp only [Plan.adv,if_neg hki,if_pos];exact ⟨h6,fun x=>x.2.1⟩
   ·simp only [Plan.adv,if_neg hki,if_neg hkj];have hkl:k=l:=by
     rcases h4 k hk with ((((x|x)|x)|x)|x)|x
     ·exact (hki x).elim
     ·exact (hkj x).elim
     ·exact x
     ·rw [ho i h1] at x;cases x
     ·rw [ho j h3] at x;cases x
     ·rw [ho l h3'] at x;cases x
    subst hkl;exact ⟨h7,fun x=>x.2.2⟩
structure LeftP (ops:Array Oper) (listed:Array Bool) (rem:List Nat):Prop where
 size:listed.size=ops.size
 mem:∀k,k∈rem↔k<ops.size∧listed.getD k false=false
 nodup:rem.Nodup
 closed:∀(k:Nat) (o:Oper),ops[k]? =some o→listed.getD k false=true→∀e∈o.after,Region.binds .any e=true→listed.getD e.on false=true
theorem LeftP.step {listed:Array Bool} {rem:List Nat} {i:Nat} (left:LeftP ops listed rem) (hlt:i<ops.size) {oi:Oper} (hoi:ops[i]? =some oi)
  (hpre:∀e∈oi.after,Region.binds .any e=true→listed.getD e.on false=true):LeftP ops (listed.setIfInBounds i true) (rem.erase i):=by
 have hset:∀k,(listed.setIfInBounds i true).getD k false=if k=i then true else listed.getD k false:=by
  intro k;by_cases hk':k=i
  ·subst hk';simp [Array.getD,left.size,hlt]
  ·rw [if_neg hk'];exact getD_set_ne false (Ne.symm hk')
 refine ⟨by simp [left.size],fun k=>?_,left.nodup.erase i,?_⟩
 ·rw [hset,left.nodup.mem_erase_iff,left.mem];by_cases hk':k=i
  ·simp [hk']
  ·simp [hk']
 ·intro k o ho hkl e hea hb;rw [hset] at hkl ⊢
  split
  ·rfl
  ·split at hkl
   ·rename_i hk';subst hk';rw [hoi] at ho;cases ho;exact hpre e hea hb
   ·exact left.closed k o ho hkl e hea hb
theorem plan_free {p:Plan} {rem:List Nat} (h:p.ok C ops slot rem=true) (hr:rem≠[]):∃i∈rem,freeOp ops i rem=true:=by
 cases p with
 |done=>simp only [Plan.ok,List.isEmpty_iff] at h;exact (hr h).elim
 |one i p=>simp only [Plan.ok,Bool.and_eq_true,List.contains_iff_mem] at h;exact ⟨i,h.1.1.1,h.1.1.2⟩
 |br i j p q=>simp only [Plan.ok,Bool.and_eq_true,List.contains_iff_mem] at h;exact ⟨i,h.1.1.1.1.1,h.1.1.1.1.2⟩
 |br3 i j l p q r=>simp only [Plan.ok,Bool.and_eq_true,List.contains_iff_mem] at h;exact ⟨i,h.1.1.1.1.1.1.1,h.1.1.1.1.1.1.2⟩
theorem draw_plan (ok:COk C) {rd:Option Nat} {Q:Exit→Act→World→Prop}:∀(fuel:Nat) {p:Plan} {listed:Array Bool} {rem:List Nat} {σ:Sg} {fr:List AV} {a:Act} {h:Heap} {w:World} {K:List AV→Heap→Prop},
  rem.length=fuel→p.ok C ops slot rem=true→LeftP ops listed rem→YOk C σ→VRels σ fr a.tmps.toList→Sim σ h w→p.run C ops slot fr h K→
  (∀fr' h' σ' a' w',K fr' h'→Mv σ h w σ' h' w'→VRels σ' fr' a'.tmps.toList→a'.defers=a.defers→Q .normal a' w')→wpAnyIn (FR rd) 0 C.P .any ops Q fuel listed a w:=by
 intro fuel
 induction fuel with
 |zero=>
  intro p listed rem σ fr a h w K hl hp left hy hf s hk hQ;obtain rfl:=List.eq_nil_of_length_eq_zero hl;have hd:p= .done:=by
   cases p with
   |done=>rfl
   |one i p=>simp [Plan.ok] at hp
   |br i j p q=>simp [Plan.ok] at hp
   |br3 i j l p q r=>simp [Plan.ok] at hp
  subst hd;refine ⟨?_,hQ fr h σ a w hk (.refl s) hf rfl⟩;refine List.eq_nil_iff_forall_not_mem.2 fun i hi=>?_;obtain ⟨h1,o,ho,_⟩:=mem_ready.1 hi;have hlt:=(Array.getElem?_eq_some_iff.1 ho).1;have:=(left.mem i).2 ⟨hlt,by rw [getD_tf (by rw [left.size];exact hlt) false true];exact h1⟩;simp at this
 |succ fuel ih=>
  intro p listed rem σ fr a h w K hl hp left hy hf s hk hQ;refine ⟨fun hnil=>?_,fun i hi=>?_⟩
  ·exfalso;obtain ⟨x,hxr,hxf⟩:=plan_free hp (by intro e;rw [e] at hl;simp at hl);obtain ⟨hx,hxl⟩:=(left.mem x).1 hxr;have:x∈Region.ready .any ops listed:=by
    refine mem_ready.2 ⟨by rw [getD_tf (by rw [left.size];exact hx) true false];exact hxl,ops[x],by simp,fun e he hb=>?_⟩;unfold freeOp at hxf;simp only [Array.getElem?_eq_getElem hx,Array.all_eq_true_iff_forall_mem] at hxf;have hq:=hxf e he;rw [hb] at hq;simp only [Bool.not_true,Bool.false_or,Bool.and_eq_true,decide_eq_true_eq,Bool.not_eq_true'] at hq;obtain ⟨hon,hq⟩:=hq;rw [←Bool.not_eq_true,List.contains_iff_mem,left.mem] at hq;cases hz:listed.getD e.on false with
    |true=>rfl
    |false=>exact (hq ⟨hon,hz⟩).elim
   rw [hnil] at this;simp at this
  ·obtain ⟨h1,oi,hoi,hpre⟩:=mem_ready.1 hi;have hlt:=(Array.getElem?_eq_some_iff.1 hoi).1;have hil:listed.getD i false=false:=by rw [getD_tf (by rw [left.size];exact hlt) false true];exact h1
   have hir:=(left.mem i).2 ⟨hlt,hil⟩;have hord:∀j∈rem,ordered ops j i=false:=by
    intro j hj;cases ho:ordered ops j i with
    |false=>rfl
    |true=>
     have hjl:=((left.mem j).1 hj).2;have:=before_listed (fun k=>listed.getD k false=true) left.closed i oi hoi hpre j ho;rw [hjl] at this;cases this
   obtain ⟨p2,hrun⟩:=adv_spec hp left.nodup hir hord;have hk2:=hrun hk;have left2:=left.step hlt hoi hpre;have hlen:(rem.erase i).length=fuel:=by rw [List.length_erase_of_mem hir];omega
   unfold wpOpIn;simp only [hoi];unfold stepO at hk2;simp only [hoi] at hk2
   split at hk2
   ·rename_i hw;rw [wantA_sound hf hw];refine op_sound ok hy hf s (slot i) oi hk2 fun v x σ' h' w' k m hv=>?_;refine ih hlen p2 left2 (hy.mono m.le) (putF_rel (hf.mono m.le) hv) m.sim k fun fr' h'' σ'' a' w'' k2 m2 hv2 hd=>?_;exact hQ fr' h'' σ'' a' w'' k2 (m.trans m2) hv2 (hd.trans (by cases oi.dst<;>rfl))
   ·rename_i hw;rw [wantA_sound hf hw];simp only [Bool.false_eq_true,if_false];refine ⟨fun _ _=>trivial,?_⟩;refine ih hlen p2 left2 hy (putF_rel hf undef_rel) s hk2 fun fr' h'' σ'' a' w'' k2 m2 hv2 hd=>?_;exact hQ fr' h'' σ'' a' w'' k2 m2 hv2 (hd.trans (by cases oi.dst<;>rfl))
   ·exact hk2.elim
def planOk (C:Ctx) (ops:Array Oper) (slots:List (Nat×Nat)) (p:Plan):Bool:=p.ok C ops (slotF slots) (List.range ops.size)
theorem draw_sound2 (ok:COk C) {rd:Option Nat} (hm:C.P.follows .mixedOrders=true) {slots:List (Nat×Nat)} {p:Plan} (hd:planOk C ops slots p=true) {Q:Exit→Act→World→Prop} {id:Nat} {σ:Sg} {fr:List AV} {a:Act} {h:Heap} {w:World} {K:List AV→Heap→Prop}
  (hy:YOk C σ) (hf:VRels σ fr a.tmps.toList) (s:Sim σ h w) (hk:p.run C ops (slotF slots) fr h K)
  (hQ:∀fr' h' σ' a' w',K fr' h'→Mv σ h w σ' h' w'→VRels σ' fr' a'.tmps.toList→a'.defers=a.defers→Q .normal a' w'):(Code.region id ops true).wpIn (FR rd) 0 C.P Q a w:=by
 unfold planOk at hd;have m0:Mv σ h w σ h { w with drawn:=w.drawn+1 }:=s.same rfl ⟨rfl,rfl,rfl⟩;refine wpIn_region_any hm ?_;have hrep:∀k,(Array.replicate ops.size false).getD k false=false:=fun k=>by
  simp only [Array.getD]
  split<;>simp
 refine draw_plan ok ops.size (rem:=List.range ops.size) (by simp) hd ⟨by simp,fun k=>?_,List.nodup_range,fun k o ho hkl=>?_⟩ hy hf m0.sim hk fun fr' h' σ' a' w' k m v d=>hQ fr' h' σ' a' w' k (m0.trans m) v d
 ·rw [hrep];simp
 ·rw [hrep] at hkl;cases hkl
end
end Go.Ab

namespace Go.Ab
def AObj.mapc (f:AV→AV):AObj→AObj
 | .vec ep rs=>.vec ep (rs.map fun r=>r.map f)
 | .map ep es=>.map ep (es.map fun p=>(f p.1,f p.2))
 | .hole=>.hole
def mapV (f:AV→AV):AV→AV
 | .agg cs=>.agg (cs.map f)
 | .tup cs=>.tup (cs.map fun a=>match a with| .agg cs=>.agg (cs.map f)|a=>f a)
 |a=>f a
theorem mapc_cells {σ:Sg} {f:AV→AV} {cs:List AV} {us:List Value} (hq:∀a∈cs,∀u,VRel σ a u→VRel σ (f a) u) (hh:∀(i:Nat) (c:AV) (u:Value),cs[i]? =some c→us[i]? =some u→VRel σ c u):
  ∀(i:Nat) (c:AV) (u:Value),(cs.map f)[i]? =some c→us[i]? =some u→VRel σ c u:=by
 intro i c u x y;rw [List.getElem?_map,Option.map_eq_some_iff] at x;obtain ⟨c',x,rfl⟩:=x;exact hq _ (List.mem_of_getElem? x) _ (hh i c' u x y)
theorem VRel.mapV {σ:Sg} {f:AV→AV} {a:AV} {v:Value} (hq:∀x∈celV a,∀u,VRel σ x u→VRel σ (f x) u) (hv:VRel σ a v):VRel σ (mapV f a) v:=by
 unfold celV at hq;unfold Ab.mapV
 split at hq
 ·rename_i cs;cases hv with
  | @agg _ _ vs l o hh=>exact .agg (by simpa using l) o fun i c v x y=>mapc_cells (us:=vs.toList) hq (fun i c v x y=>hh i c v x (by simpa using y)) i c v x (by simpa using y)
 ·rename_i cs;cases hv with
  | @tup _ _ vs l hh=>
   refine .tup (by simpa using l) fun i c v x y=>?_;rw [List.getElem?_map,Option.map_eq_some_iff] at x;obtain ⟨c',x,rfl⟩:=x;have hc:=hh i c' v x y;have hq':∀a∈(match c' with| .agg cs=>cs|a=>[a]),∀u,VRel σ a u→VRel σ (f a) u:=fun a ha=>hq a (List.mem_flatMap.2 ⟨c',List.mem_of_getElem? x,ha⟩)
   split at hq'
   ·cases hc with
    | @agg _ _ vs l o hh=>exact .agg (by simpa using l) o fun i c v x y=>mapc_cells (us:=vs.toList) hq' (fun i c v x y=>hh i c v x (by simpa using y)) i c v x (by simpa using y)
   ·exact hq' _ (List.mem_singleton.2 rfl) _ hc
 ·rename_i h1 h2
  first
   |exact hq _ (List.mem_singleton.2 rfl) _ hv
   |(
     split
     ·exact absurd rfl (h1 _)
     ·exact absurd rfl (h2 _)
     ·exact hq _ (List.mem_singleton.2 rfl) _ hv)
theorem Sim.recell {σ:Sg} {h:Heap} {w:World} {f:AV→AV} (s:Sim σ h w) (hq:∀(i:Id) (o:AObj),h[i]? =some o→∀a∈celO o,∀u,VRel σ a u→VRel σ (f a) u):
  Mv σ h w σ ⟨h.st.map (AObj.mapc f),h.dy.map (AObj.mapc f)⟩ w:=by
 have obj:∀(i:Id) (x:AObj),(⟨h.st.map (AObj.mapc f),h.dy.map (AObj.mapc f)⟩:Heap)[i]? =some x→∃o,h[i]? =some o∧x=o.mapc f:=by
  intro i x hx;cases i with
  |s m=>
   have hx:(h.st.map (AObj.mapc f))[m]? =some x:=hx;rw [List.getElem?_map,Option.map_eq_some_iff] at hx;obtain ⟨o,h1,rfl⟩:=hx;exact ⟨o,h1,rfl⟩
  |d m=>
   have hx:(h.dy.map (AObj.mapc f))[m]? =some x:=hx;rw [List.getElem?_map,Option.map_eq_some_iff] at hx;obtain ⟨o,h1,rfl⟩:=hx;exact ⟨o,h1,rfl⟩
 have blk_m:∀(i:Id) (o:AObj),(o.mapc f).blk σ i=o.blk σ i:=fun i o=>by cases o<;>rfl
 refine ⟨.refl _,⟨s.fm,fun i x hx=>?_,fun i j oi oj b hi hj bi bj=>?_,s.fresh,s.rm,s.gl⟩,rfl,rfl,rfl,Nat.le_refl _,fun _ _ _=>rfl,fun b hb=>?_,fun _ x=>.inl x⟩
 ·obtain ⟨o,ho,rfl⟩:=obj i x hx;have hok:=s.obj _ _ ho;have hc:=hq i o ho;cases o with
  |hole=>trivial
  |vec ep' rs=>
   rcases hok with ⟨h1,h2⟩|⟨blk,st,sz,m,size,cs,T,h1,h2,h3,h4,h5,h6,h7,h8⟩
   ·exact .inl ⟨by rw [h1];rfl,h2⟩
   ·refine .inr ⟨blk,st,sz,m,size,cs,T,h1,h2,h3,by simpa using h4,h5,h6,fun i row hr=>?_,fun i j c x=>?_⟩
    ·rw [List.getElem?_map,Option.map_eq_some_iff] at hr;obtain ⟨r,hr,rfl⟩:=hr;simpa using h7 i r hr
    ·obtain ⟨c',x',rfl⟩:=cellAt_map x;obtain ⟨v,a,b,d⟩:=h8 i j c' x';obtain ⟨row,hr,hj⟩:=cellAt_get x';exact ⟨v,a,b,hc c' (List.mem_flatten.2 ⟨row,List.mem_of_getElem? hr,List.mem_of_getElem? hj⟩) _ d⟩
  |map ep' es=>
   obtain ⟨blk,st,sz,m,size,ents,clock,h1,h2,h3,h4,h5⟩:=hok;refine ⟨blk,st,sz,m,size,ents,clock,h1,h2,h3,by simpa using h4,fun i k v e x y=>?_⟩;rw [List.getElem?_map,Option.map_eq_some_iff] at x;obtain ⟨⟨k',v'⟩,x,e1⟩:=x;cases e1;obtain ⟨a,b⟩:=h5 i k' v' e x y;have hm:=List.mem_of_getElem? x;exact ⟨hc _ (List.mem_flatMap.2 ⟨_,hm,by simp⟩) _ a,hc _ (List.mem_flatMap.2 ⟨_,hm,by simp⟩) _ b⟩
 ·obtain ⟨o,ho,rfl⟩:=obj i oi hi;obtain ⟨o',ho',rfl⟩:=obj j oj hj;rw [blk_m] at bi bj;exact s.apart _ _ o o' b ho ho' bi bj
 ·obtain ⟨i,x,hx,hbx⟩:=hb;obtain ⟨o,ho,rfl⟩:=obj i x hx;rw [blk_m] at hbx;exact .inl ⟨_,o,ho,hbx⟩
def mcS (n len ep2:Nat):AV→AV
 | .oslc (.s k) ep sz off l lim=>match Nat.beq k n with
  |true=>.oslc (.d len) ep2 sz off l lim
  |false=>.oslc (.s k) ep sz off l lim
 |a=>a
def mvSK (n:Nat) (fr:List AV) (h:Heap) (K:List AV→Heap→Prop):Prop:=
 match h.st[n]? with
 |some (.vec ep rows)=>eqsP n ep (fr.flatMap celV)∧allO n ep (h.st.set n .hole)∧allO n ep h.dy∧eqsP n ep (celO (.vec ep rows))∧
   ∀ep2,K (fr.map (mapV (mcS n h.dy.length ep2))) ⟨(h.st.set n .hole).map (AObj.mapc (mcS n h.dy.length ep2)),(h.dy++[AObj.vec ep2 rows]).map (AObj.mapc (mcS n h.dy.length ep2))⟩
 |_=>K fr h
theorem mvSK_sound {n:Nat} {σ:Sg} {fr:List AV} {h:Heap} {w:World} {vs:List Value} {K:List AV→Heap→Prop} (hf:VRels σ fr vs) (s:Sim σ h w) (hk:mvSK n fr h K):
  ∃σ' fr' h',K fr' h'∧Mv σ h w σ' h' w∧VRels σ' fr' vs:=by
 unfold mvSK at hk
 split at hk
 case h_2=>exact ⟨σ,fr,h,hk,.refl s,hf⟩
 rename_i ep rows hn;have hn:h[Id.s n]? =some (.vec ep rows):=hn;obtain ⟨q0,q1,q2,q3,hk⟩:=hk;obtain ⟨ep2,σ',m,hρ⟩:=s.move (n:=n) (ep:=ep) hn rfl;have cell:∀{c:AV},okS n ep c→∀u,VRel σ' c u→VRel σ' (mcS n h.dy.length ep2 c) u:=by
  intro c hc u hu;unfold mcS
  split
  ·rename_i k ep' sz off l lim
   split
   ·rename_i e;have e:k=n:=by simpa using e
    subst e;obtain rfl:ep'=ep:=hc rfl;have back:∀pl,σ'.ρ (.s k) ep'=some pl→σ.ρ (.s k) ep'=some pl:=by
     intro pl hp;have hob:=s.obj _ _ hn
     rcases hob with ⟨_,x⟩|⟨blk,st,sz1,n1,size,cs,T,x,_⟩
     ·have:=m.le.ρ _ _ _ x;rw [this] at hp;rw [x,hp]
     ·have:=m.le.ρ _ _ _ x;rw [this] at hp;rw [x,hp]
    exact (VRel.reid (σ:=σ') (σ':=σ') ⟨fun _ _ _ x=>x,fun _ _ x=>x⟩ (fun pl x=>hρ pl (back pl x))).1 hu
   ·exact hu
  ·exact hu
 have ob:∀(i:Id) (o:AObj),(⟨h.st.set n .hole,h.dy++[.vec ep2 rows]⟩:Heap)[i]? =some o→∀a∈celO o,okS n ep a:=by
  intro i o ho a ha;cases i with
  |s k=>exact eqsP_all (allO_get q1 o (List.mem_of_getElem? (show (h.st.set n .hole)[k]? =some o from ho))) a ha
  |d k=>
   have hm:=List.mem_of_getElem? (show (h.dy++[.vec ep2 rows])[k]? =some o from ho)
   rcases List.mem_append.1 hm with hm|hm
   ·exact eqsP_all (allO_get q2 o hm) a ha
   ·obtain rfl:=List.mem_singleton.1 hm;exact eqsP_all q3 a ha
 have m2:=Sim.recell (f:=mcS n h.dy.length ep2) m.sim fun i o ho a ha u hu=>cell (ob i o ho a ha) u hu;refine ⟨σ',_,_,hk ep2,m.trans m2,⟨by simpa using hf.1,fun i a v x y=>?_⟩⟩;rw [List.getElem?_map,Option.map_eq_some_iff] at x;obtain ⟨a',x,rfl⟩:=x;exact VRel.mapV (fun c hc u hu=>cell (eqsP_all q0 c (List.mem_flatMap.2 ⟨a',List.mem_of_getElem? x,hc⟩)) u hu) ((hf.2 i a' v x y).mono m.le)
end Go.Ab
