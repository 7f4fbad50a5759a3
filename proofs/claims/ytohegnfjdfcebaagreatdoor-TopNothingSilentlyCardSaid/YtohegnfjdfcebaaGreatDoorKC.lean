/-
  What is proved here serves the law's text: each part says its own claim and its conditions. No condition is left open.
-/
import Derived.Laws.StructEq
import Derived.ChangeKeysEq
import Derived.Test.YtohegnfjdfcebaaGreatDoorKB
set_option maxHeartbeats 32000000
set_option maxRecDepth 100000
set_option linter.unusedSimpArgs false
set_option linter.unusedVariables false

namespace Go.Ab
section
variable {P:Program} {ti:TI} {σ:Sg}
def PRun (P:Program) (σ:Sg) (w:World) (s:Sem Value) (K:AV→Prop):Prop:=∃v r,s.run P w= .ok v w∧VRel σ r v∧K r
theorem aOff_sound {K:AV→Prop} {n:Nat} {x:AV} {v:Value} (h:aOff K n x) (hr:VRel σ x v):∃a:Addr,v= .pointer (some a)∧∃r,VRel σ r (.pointer (some (a.add n)))∧K r:=by
 cases hr with
 |optr hh=>
  refine ⟨_,rfl,_,?_,h⟩;unfold Addr.add
  split
  ·rename_i e;subst e;exact .optr hh
  ·simp only [Nat.add_assoc];rw [←Nat.add_assoc];exact .optr hh
 |lptr g hw hc ho hv=>
  refine ⟨_,rfl,_,?_,h⟩;unfold Addr.add
  split
  ·rename_i e;subst e;exact .lptr g hw hc ho hv
  ·simp only [Nat.add_assoc];rw [←Nat.add_assoc];exact .lptr g hw hc ho hv
 |_=>exact h.elim
theorem binInt_sound {op:BinOp} {k:IntKind} {a b:Int} {K:AV→Prop} (h:binInt op k a b K) (w:World) (t:Nat)
  (hs:op≠.shl∧op≠.shr):PRun P σ w (binOp op t (.int k a) (.int k b)) K:=by
 obtain ⟨hs1,hs2⟩:=hs;cases op<;>simp only [binInt] at h<;>first|exact h.elim|contradiction|skip
 case add=>exact ⟨_,_,by simp [binOp,Op.intArith]<;>rfl,.int,h⟩
 case sub=>exact ⟨_,_,by simp [binOp,Op.intArith]<;>rfl,.int,h⟩
 case mul=>exact ⟨_,_,by simp [binOp,Op.intArith]<;>rfl,.int,h⟩
 case quo=>exact ⟨_,_,by simp [binOp,Op.intDiv,h.1]<;>rfl,.int,h.2⟩
 case rem=>exact ⟨_,_,by simp [binOp,Op.intDiv,h.1]<;>rfl,.int,h.2⟩
 case eql=>exact ⟨_,_,by simp [binOp,Op.intCmp]<;>rfl,.bool,h⟩
 case neq=>exact ⟨_,_,by simp [binOp,Op.intCmp]<;>rfl,.bool,h⟩
 case lss=>exact ⟨_,_,by simp [binOp,Op.intCmp]<;>rfl,.bool,h⟩
 case leq=>exact ⟨_,_,by simp [binOp,Op.intCmp]<;>rfl,.bool,h⟩
 case gtr=>exact ⟨_,_,by simp [binOp,Op.intCmp]<;>rfl,.bool,h⟩
 case geq=>exact ⟨_,_,by simp [binOp,Op.intCmp]<;>rfl,.bool,h⟩
theorem eqGuard_plain {op:BinOp} {t:Nat} {x y:Operand} {a b:Value} (w:World)
  (h:(∀cs,a≠.agg cs)∧a≠.nilIface):(eqGuard op t x y a b).run P w= .ok () w:=by
 cases a<;>first|exact absurd rfl (h.1 _)|exact absurd rfl h.2|(unfold eqGuard;split<;>simp)
theorem eqIn_bool {t:Nat} (d:Nat) (hu:P.underlying t=some .bool) (a b:Bool) (w:World):(Op.equalIn (d+1) t (.bool a) (.bool b)).run P w= .ok (a==b) w:=by
 simp [Op.equalIn,underlying,hu]
theorem eqIn_ptr_nil {t e:Nat} (d:Nat) (hu:P.underlying t=some (.pointer e)) (a:Option Addr) (w:World):(Op.equalIn (d+1) t (.pointer a) (.pointer none)).run P w= .ok a.isNone w:=by
 cases a<;>simp [Op.equalIn,underlying,hu]
theorem eqIn_fn_nil {t:Nat} {a b c} (d:Nat) (hu:P.underlying t=some (.func a b c)) (f:Fn) (x y:Array Value) (w:World):(Op.equalIn (d+1) t (.func f x y) .nilFunc).run P w= .ok false w:=by
 simp [Op.equalIn,underlying,hu]
theorem eqIn_slice_nil {t e:Nat} (d:Nat) (hu:P.underlying t=some (.slice e)) (a:Option Addr) (n c:Nat) (w:World):(Op.equalIn (d+1) t (.slice a n c) (.slice none 0 0)).run P w= .ok a.isNone w:=by
 cases a<;>simp [Op.equalIn,underlying,hu]
theorem run_eql {t:Nat} {x y:Value} {r:Bool} (w:World) (h:(Op.equalIn (9999+1) t x y).run P w= .ok r w) (hx:(∀k n,x≠.int k n)∧(∀s,x≠.string s)∧(∀k n,x≠.float k n)∧∀k a b,x≠.complex k a b):
  (binOp .eql t x y).run P w= .ok (.bool r) w∧(binOp .neq t x y).run P w= .ok (.bool !r) w:=by
 obtain ⟨h1,h2,h3,h4⟩:=hx;have e:Op.equal t x y=Op.equalIn (9999+1) t x y:=rfl;have b1:binOp .eql t x y=(do pure (.bool (←Op.equal t x y))):=by
  cases x<;>first|exact absurd rfl (h1 _ _)|exact absurd rfl (h2 _)|exact absurd rfl (h3 _ _)|exact absurd rfl (h4 _ _ _)|rfl
 have b2:binOp .neq t x y=(do pure (.bool !(←Op.equal t x y))):=by
  cases x<;>first|exact absurd rfl (h1 _ _)|exact absurd rfl (h2 _)|exact absurd rfl (h3 _ _)|exact absurd rfl (h4 _ _ _)|rfl
 rw [b1,b2,e];generalize Op.equalIn (9999+1) t x y=q at h;simp [h]
theorem run_part_scal {e:TypeId} (he:scal P e=true) {xs:Array Value} {off:Nat} {v:Value} (hx:xs[off]? =some v) (w:World):(part e xs off).run P w= .ok v w:=by
 unfold scal at he
 split at he
 ·rename_i h;simp [part,isAgg,underlying,h,hx]
 ·rename_i h;simp [part,isAgg,underlying,h,hx]
 ·cases he
theorem eqC_sound (D:Nat) (tok:TOk P ti) (w:World):∀(fs:List Field) (i:Nat) (a b:List AV) (xs ys:Array Value) (K:Bool→Prop),flatFs P i fs=true→eqCK ti (fs.map fun f=>(f.offset,f.type)) a b K→
  (∀j c,a[j]? =some c→∃v,xs[i+j]? =some v∧VRel σ c v)→(∀j c,b[j]? =some c→∃v,ys[i+j]? =some v∧VRel σ c v)→∃r,K r∧(Op.eqFields (D+1) xs ys fs).run P w= .ok r w:=by
 intro fs
 induction fs with
 |nil=>intro i a b xs ys K _ hk _ _;exact ⟨true,by simpa [eqCK] using hk,by simp [Op.eqFields]⟩
 |cons f fs ih=>
  intro i a b xs ys K hf hk ha hb;simp only [flatFs,Bool.and_eq_true,bne_iff_ne,ne_eq,beq_iff_eq] at hf;obtain ⟨⟨⟨f1,f2⟩,f3⟩,f4⟩:=hf;subst f2;have sh:∀{c:AV} {l:List AV} {zs:Array Value},(∀j d,(c::l)[j]? =some d→∃v,zs[f.offset+j]? =some v∧VRel σ d v)→∀j d,l[j]? =some d→∃v,zs[f.offset+1+j]? =some v∧VRel σ d v:=
   fun h j d hd=>by have:=h (j+1) d (by simpa using hd);rw [show f.offset+1+j=f.offset+(j+1) by omega];exact this
  have step:∀{u v:Value} {q r:Bool},xs[f.offset]? =some u→ys[f.offset]? =some v→(Op.equalIn (D+1) f.type u v).run P w= .ok q w→(Op.eqFields (D+1) xs ys fs).run P w= .ok r w→
    (Op.eqFields (D+1) xs ys (f::fs)).run P w= .ok (q&&r) w:=by
   intro u v q r h1 h2 h3 h4;simp only [Op.eqFields, if_pos (show f.name ≠ "_" from f1), Sem.run_bind, run_part_scal f3 h1 w, run_part_scal f3 h2 w, Result.andThen_ok, h3];cases q
   ·simp
   ·simpa using h4
  simp only [List.map_cons] at hk;cases a with
  |nil=>simp [eqCK] at hk
  |cons x a=>
   cases b with
   |nil=>simp [eqCK] at hk
   |cons y b=>
    obtain ⟨u,u1,u2⟩:=ha 0 _ rfl;obtain ⟨v,v1,v2⟩:=hb 0 _ rfl;simp only [eqCK] at hk
    split at hk
    ·rename_i k0 k m k' n hkd
     split at hk
     ·rename_i e;subst e;obtain ⟨r,k1,k2⟩:=ih (f.offset+1) a b xs ys _ f4 hk (sh ha) (sh hb);cases u2;cases v2;obtain ⟨d,hd,hk2⟩:=kindOf_some hkd;have:=step (by simpa using u1) (by simpa using v1) (run_equalIn_int w D f.type k k0 m n ((tok _ _ hd).int hk2)) k2;exact ⟨_,k1,this⟩
     ·exact hk.elim
    ·rename_i m n hkd;obtain ⟨r,k1,k2⟩:=ih (f.offset+1) a b xs ys _ f4 hk (sh ha) (sh hb);cases u2;cases v2;obtain ⟨d,hd,hk2⟩:=kindOf_some hkd;have:=step (by simpa using u1) (by simpa using v1) (run_equalIn_bool' w D f.type m n ((tok _ _ hd).bool hk2)) k2;exact ⟨_,k1,this⟩
    ·exact hk.elim
theorem eqCK_app {ti:TI}:∀(l1 l2:List (Nat×Nat)) (a b:List AV) (K:Bool→Prop),eqCK ti (l1++l2) a b K→eqCK ti l1 a b fun r1=>eqCK ti l2 (a.drop l1.length) (b.drop l1.length) fun r=>K (r1&&r)
 | [],l2,a,b,K,h=>by
  simp only [eqCK,List.length_nil,List.drop_zero,Bool.true_and];exact h
 |f::l1,l2,[],b,K,h=>by simp [eqCK] at h
 |f::l1,l2,x::a,[],K,h=>by simp [eqCK] at h
 |f::l1,l2,x::a,y::b,K,h=>by
  simp only [List.cons_append,eqCK,List.length_cons,List.drop_succ_cons] at h ⊢
  split at h
  ·split at h
   ·rename_i e;rw [if_pos e];have:=eqCK_app l1 l2 a b _ h;simpa only [Bool.and_assoc] using this
   ·exact h.elim
  ·have:=eqCK_app l1 l2 a b _ h;simpa only [Bool.and_assoc] using this
  ·exact h.elim
theorem field_sound (tok:TOk P ti) (w:World) (f:Field) (n:Nat) (hn:leafOk P f.type=some n) {a b:List AV} {xs ys:Array Value} {K:Bool→Prop} (hk:eqCK ti (leaf1 ti (f.offset,f.type)) a b K)
  (ha:∀j c,a[j]? =some c→∃v,xs[f.offset+j]? =some v∧VRel σ c v) (hb:∀j c,b[j]? =some c→∃v,ys[f.offset+j]? =some v∧VRel σ c v):
  (leaf1 ti (f.offset,f.type)).length=n∧∃r u v,K r∧(part f.type xs f.offset).run P w= .ok u w∧(part f.type ys f.offset).run P w= .ok v w∧(Op.equalIn 9999 f.type u v).run P w= .ok r w:=by
 have one:eqCK ti [(f.offset,f.type)] a b K→scal P f.type=true→∃r u v,K r∧(part f.type xs f.offset).run P w= .ok u w∧(part f.type ys f.offset).run P w= .ok v w∧(Op.equalIn 9999 f.type u v).run P w= .ok r w:=by
  clear hk;intro hk hs;cases a with
  |nil=>simp [eqCK] at hk
  |cons x a=>
   cases b with
   |nil=>simp [eqCK] at hk
   |cons y b=>
    obtain ⟨u,u1,u2⟩:=ha 0 _ rfl;obtain ⟨v,v1,v2⟩:=hb 0 _ rfl;simp only [eqCK] at hk
    split at hk
    ·rename_i k0 k m k' q hkd
     split at hk
     ·rename_i e;subst e;cases u2;cases v2;obtain ⟨d,hd,hk2⟩:=kindOf_some hkd;exact ⟨_,_,_,hk,run_part_scal hs (by simpa using u1) w,run_part_scal hs (by simpa using v1) w,by rw [Bool.and_true];exact run_equalIn_int w 9998 f.type k k0 m q ((tok _ _ hd).int hk2)⟩
     ·exact hk.elim
    ·rename_i m q hkd;cases u2;cases v2;obtain ⟨d,hd,hk2⟩:=kindOf_some hkd;exact ⟨_,_,_,hk,run_part_scal hs (by simpa using u1) w,run_part_scal hs (by simpa using v1) w,by rw [Bool.and_true];exact run_equalIn_bool' w 9998 f.type m q ((tok _ _ hd).bool hk2)⟩
    ·exact hk.elim
 unfold leafOk at hn
 split at hn
 ·rename_i hs;cases hn;have hl:leaf1 ti (f.offset,f.type)=[(f.offset,f.type)]:=by
   unfold leaf1
   split
   ·rename_i l hkd;obtain ⟨d,hd,hk2⟩:=kindOf_some hkd;obtain ⟨fs,hu,_⟩:=(tok _ _ hd).struct hk2;unfold scal at hs;rw [hu] at hs;cases hs
   ·rfl
  rw [hl] at hk ⊢;exact ⟨rfl,one hk hs⟩
 ·rename_i hs;unfold flat1 at hn
  split at hn
  ·rename_i fs i0 hu hi
   split at hn
   ·rename_i hc;cases hn;simp only [Bool.and_eq_true,Bool.not_eq_true',beq_iff_eq] at hc;obtain ⟨⟨c1,c2⟩,c3⟩:=hc;cases hkd:kindOf ti f.type with
    |none=>
     have hl:leaf1 ti (f.offset,f.type)=[(f.offset,f.type)]:=by unfold leaf1;rw [hkd]
     rw [hl] at hk;cases a with
     |nil=>simp [eqCK] at hk
     |cons x a=>cases b with
      |nil=>simp [eqCK] at hk
      |cons y b=>simp only [eqCK,hkd] at hk
    |some kd=>
     obtain ⟨d,hd,hk2⟩:=kindOf_some hkd;cases kd with
     |struct l=>
      have hl:leaf1 ti (f.offset,f.type)=l:=by unfold leaf1;rw [hkd]
      rw [hl] at hk ⊢;obtain ⟨fs2,hu2,hfs⟩:=(tok _ _ hd).struct hk2;rw [hu] at hu2;cases hu2;subst hfs;refine ⟨by simp,?_⟩;have hpart:∀zs:Array Value,(part f.type zs f.offset).run P w= .ok (.agg (zs.extract f.offset (f.offset+fs.size))) w:=fun zs=>by
       have h1:(isAgg f.type).run P w= .ok true w:=by simp [isAgg,underlying,hu]
       have h2:(Go.sizeOf f.type).run P w= .ok fs.size w:=by simp [Go.sizeOf,typeInfo,hi,c3]
       unfold part;simp only [Sem.run_bind,h1,Result.andThen_ok,if_true,h2,Sem.run_pure]
      have cut:∀{a:List AV} {zs:Array Value},(∀j c,a[j]? =some c→∃v,zs[f.offset+j]? =some v∧VRel σ c v)→∀j c,(a.take fs.size)[j]? =some c→∃v,(zs.extract f.offset (f.offset+fs.size))[0+j]? =some v∧VRel σ c v:=by
       intro a zs h j c hj;have hjn:j<fs.size:=by
        have:=(List.getElem?_eq_some_iff.1 hj).1;simp at this;omega
       obtain ⟨v,v1,v2⟩:=h j c (by rw [List.getElem?_take,if_pos hjn] at hj;exact hj);refine ⟨v,?_,v2⟩;have hlt:=(Array.getElem?_eq_some_iff.1 v1).1;rw [Nat.zero_add,Array.getElem?_extract];rw [if_pos (by omega)];exact v1
      have hk':eqCK ti (fs.toList.map fun f=>(f.offset,f.type)) (a.take fs.size) (b.take fs.size) K:=by
       have hgen:∀(l:List (Nat×Nat)) (a b:List AV) (K:Bool→Prop) (n:Nat),n=l.length→eqCK ti l a b K→eqCK ti l (a.take n) (b.take n) K:=by
        intro l
        induction l with
        |nil=>intro a b K n _ h;simpa [eqCK] using h
        |cons f l ih=>
         intro a b K n hn h;subst hn;cases a with
         |nil=>simp [eqCK] at h
         |cons x a=>cases b with
          |nil=>simp [eqCK] at h
          |cons y b=>
           simp only [List.length_cons,List.take_succ_cons,eqCK] at h ⊢
           split at h
           ·split at h
            ·rename_i e;rw [if_pos e];exact ih _ _ _ _ rfl h
            ·exact h.elim
           ·exact ih _ _ _ _ rfl h
           ·exact h.elim
       exact hgen _ _ _ _ _ (by simp) hk
      obtain ⟨r,k1,k2⟩:=eqC_sound (σ:=σ) 9997 tok w fs.toList 0 _ _ (xs.extract f.offset (f.offset+fs.size)) (ys.extract f.offset (f.offset+fs.size)) K c1 hk' (cut ha) (cut hb);refine ⟨r,_,_,k1,hpart xs,hpart ys,?_⟩;have hF2:P.fieldsOf f.type=fs:=by simp [Program.fieldsOf,hu]
      rw [show (9999:Nat)=9998+1 from rfl,run_equalIn_agg w 9998 f.type _ _ (by rw [hF2];exact hu) c2,hF2];exact k2
     |int k=>rw [(tok _ _ hd).int hk2] at hu;cases hu
     |bool=>rw [(tok _ _ hd).bool hk2] at hu;cases hu
     |_=>
      have hl:leaf1 ti (f.offset,f.type)=[(f.offset,f.type)]:=by unfold leaf1;rw [hkd]
      rw [hl] at hk;cases a with
      |nil=>simp [eqCK] at hk
      |cons x a=>cases b with
       |nil=>simp [eqCK] at hk
       |cons y b=>simp only [eqCK,hkd] at hk
   ·cases hn
  ·cases hn
theorem eqC2_sound (tok:TOk P ti) (w:World):∀(fs:List Field) (i:Nat) (a b:List AV) (xs ys:Array Value) (K:Bool→Prop),flatFs2 P i fs=true→eqCK ti (leafs ti (fs.map fun f=>(f.offset,f.type))) a b K→
  (∀j c,a[j]? =some c→∃v,xs[i+j]? =some v∧VRel σ c v)→(∀j c,b[j]? =some c→∃v,ys[i+j]? =some v∧VRel σ c v)→∃r,K r∧(Op.eqFields 9999 xs ys fs).run P w= .ok r w:=by
 intro fs
 induction fs with
 |nil=>intro i a b xs ys K _ hk _ _;exact ⟨true,by simpa [eqCK,leafs] using hk,by simp [Op.eqFields]⟩
 |cons f fs ih=>
  intro i a b xs ys K hf hk ha hb;simp only [flatFs2,Bool.and_eq_true,bne_iff_ne,ne_eq,beq_iff_eq] at hf;obtain ⟨⟨f1,f2⟩,f3⟩:=hf;subst f2;cases hn:leafOk P f.type with
  |none=>rw [hn] at f3;cases f3
  |some n=>
   rw [hn] at f3;simp only [List.map_cons,leafs] at hk;obtain ⟨hl,r1,u,v,k1,p1,p2,p3⟩:=field_sound (σ:=σ) tok w f n hn (eqCK_app _ _ _ _ _ hk) ha hb;rw [hl] at k1;have sh:∀{a:List AV} {zs:Array Value},(∀j c,a[j]? =some c→∃v,zs[f.offset+j]? =some v∧VRel σ c v)→∀j c,(a.drop n)[j]? =some c→∃v,zs[f.offset+n+j]? =some v∧VRel σ c v:=
    fun h j c hj=>by rw [Nat.add_assoc];exact h (n+j) c (by rwa [List.getElem?_drop] at hj)
   obtain ⟨r, k2, k3⟩ := ih (f.offset + n) _ _ xs ys _ f3 k1 (sh ha) (sh hb);refine ⟨_, k2, ?_⟩;simp only [Op.eqFields, if_pos (show f.name ≠ "_" from f1), Sem.run_bind, p1, p2, Result.andThen_ok, p3];cases r1
   ·simp
   ·simpa using k3
theorem eqI_sound (tok:TOk P ti) (w:World) {e:Nat} (he:scal P e=true):∀(n i:Nat) (a b:List AV) (xs ys:Array Value) (K:Bool→Prop),eqCK ti (List.replicate n (0,e)) a b K→
  (∀j c,a[j]? =some c→∃v,xs[i+j]? =some v∧VRel σ c v)→(∀j c,b[j]? =some c→∃v,ys[i+j]? =some v∧VRel σ c v)→∃r,K r∧(Op.eqItems 9999 e 1 xs ys (List.range' i n)).run P w= .ok r w:=by
 intro n
 induction n with
 |zero=>intro i a b xs ys K hk _ _;exact ⟨true,by simpa [eqCK] using hk,by simp [Op.eqItems]⟩
 |succ n ih=>
  intro i a b xs ys K hk ha hb;rw [List.replicate_succ] at hk;cases a with
  |nil=>simp [eqCK] at hk
  |cons x a=>cases b with
   |nil=>simp [eqCK] at hk
   |cons y b=>
    obtain ⟨u,u1,u2⟩:=ha 0 _ rfl;obtain ⟨v,v1,v2⟩:=hb 0 _ rfl;rw [Nat.add_zero] at u1 v1;have sh:∀{c:AV} {l:List AV} {zs:Array Value},(∀j d,(c::l)[j]? =some d→∃v,zs[i+j]? =some v∧VRel σ d v)→∀j d,l[j]? =some d→∃v,zs[i+1+j]? =some v∧VRel σ d v:=
     fun h j d hd=>by have:=h (j+1) d (by simpa using hd);rw [show i+1+j=i+(j+1) by omega];exact this
    have step:∀{q r:Bool},(Op.equalIn 9999 e u v).run P w= .ok q w→(Op.eqItems 9999 e 1 xs ys (List.range' (i+1) n)).run P w= .ok r w→(Op.eqItems 9999 e 1 xs ys (List.range' i (n+1))).run P w= .ok (q&&r) w:=by
     intro q r h3 h4;rw [List.range'_succ];simp only [Op.eqItems,Nat.mul_one,Sem.run_bind,run_part_scal he u1 w,run_part_scal he v1 w,Result.andThen_ok,h3];cases q
     ·simp
     ·simpa using h4
    simp only [eqCK] at hk
    split at hk
    ·rename_i k0 k m k' q hkd
     split at hk
     ·rename_i e1;subst e1;obtain ⟨r,k1,k2⟩:=ih (i+1) a b xs ys _ hk (sh ha) (sh hb);cases u2;cases v2;obtain ⟨d,hd,hk2⟩:=kindOf_some hkd;exact ⟨_,k1,step (run_equalIn_int w 9998 e k k0 m q ((tok _ _ hd).int hk2)) k2⟩
     ·exact hk.elim
    ·rename_i m q hkd;obtain ⟨r,k1,k2⟩:=ih (i+1) a b xs ys _ hk (sh ha) (sh hb);cases u2;cases v2;obtain ⟨d,hd,hk2⟩:=kindOf_some hkd;exact ⟨_,k1,step (run_equalIn_bool' w 9998 e m q ((tok _ _ hd).bool hk2)) k2⟩
    ·exact hk.elim
theorem eqCK_one {ti:TI} {n e:Nat} {a b:List AV} {K:Bool→Prop} (h:eqCK ti (List.replicate (n+1) (0,e)) a b K):∃d,ti e=some d∧((∃k,d.kind= .int k)∨d.kind= .bool):=by
 rw [List.replicate_succ] at h;cases a with
 |nil=>simp [eqCK] at h
 |cons x a=>cases b with
  |nil=>simp [eqCK] at h
  |cons y b=>
   simp only [eqCK] at h
   split at h
   ·rename_i hkd;obtain ⟨d,hd,hk2⟩:=kindOf_some hkd;exact ⟨d,hd,.inl ⟨_,hk2⟩⟩
   ·rename_i hkd;obtain ⟨d,hd,hk2⟩:=kindOf_some hkd;exact ⟨d,hd,.inr hk2⟩
   ·exact h.elim
theorem eqA_sound {op:BinOp} {t:Nat} {a b:List AV} {K:Bool→Prop} (tok:TOk P ti) (h:eqAK ti t a b K) (w:World) (ox oy:Operand) {u v:Value}
  (hx:VRel σ (.agg a) u) (hy:VRel σ (.agg b) v):(eqGuard op t ox oy u v).run P w= .ok () w∧∃r,K r∧(binOp .eql t u v).run P w= .ok (.bool r) w∧(binOp .neq t u v).run P w= .ok (.bool !r) w:=by
 unfold eqAK at h
 split at h
 ·rename_i d hd
  split at h
  ·rename_i l hfl hkd;have hok:=tok _ _ hd;have hF:=hok.flat hfl;obtain ⟨fs,hu,hfs⟩:=hok.struct hkd;unfold flatB at hF;rw [hu] at hF;simp only [Bool.and_eq_true,Bool.not_eq_true'] at hF;obtain ⟨⟨g1,g2⟩,g3⟩:=hF;cases hx with
   | @agg _ _ vs l1 o1 r1=>cases hy with
    | @agg _ _ us l2 o2 r2=>
     subst hfs;have rel:∀{c:List AV} {zs:Array Value},c.length=zs.size→(∀(i:Nat) (c':AV) (v:Value),c[i]? =some c'→zs[i]? =some v→VRel σ c' v)→∀j d,c[j]? =some d→∃v,zs[0+j]? =some v∧VRel σ d v:=
      fun h1 h2 j d hj=>by
       have hlt:=(List.getElem?_eq_some_iff.1 hj).1;have:_:=Array.getElem?_eq_getElem (xs:=_) (i:=j) (h1 ▸ hlt);exact ⟨_,by rw [Nat.zero_add];exact this,h2 j d _ hj this⟩
     obtain ⟨r,k1,k2⟩:=eqC2_sound (σ:=σ) tok w fs.toList 0 a b vs us K g1 h (rel l1 r1) (rel l2 r2);have hF2:P.fieldsOf t=fs:=by simp [Program.fieldsOf,hu]
     have e:(Op.equalIn 10000 t (.agg vs) (.agg us)).run P w= .ok r w:=by
      rw [show (10000:Nat)=9999+1 from rfl,run_equalIn_agg w 9999 t vs us (by rw [hF2];exact hu) g2,hF2];exact k2
     refine ⟨run_eqGuard_agg w op t ox oy vs us g3,r,k1,?_,?_⟩
     ·rw [run_eql_struct,e];rfl
     ·rw [run_neq_struct,e];rfl
  ·rename_i n e hfl hkd;have hok:=tok _ _ hd;have hF:=hok.flat hfl;have hu:=hok.arr hkd;unfold flatB at hF;rw [hu] at hF;simp only [Bool.and_eq_true,Bool.not_eq_true'] at hF;obtain ⟨g1,g3⟩:=hF;obtain ⟨de,hde,hkk⟩:=eqCK_one h;have hoe:=tok _ _ hde;have hag:de.isAgg=false:=by
    unfold TD.isAgg
    rcases hkk with ⟨k,hk⟩|hk<;>rw [hk]
   have hone:=hoe.one hag;obtain ⟨⟨i,z,i1,i2,_⟩,_⟩:=hoe;have hcell:P.cellsOf e=1:=by
    simp [Program.cellsOf,i1,i2,hone]
   cases hx with
   | @agg _ _ vs l1 o1 r1=>cases hy with
    | @agg _ _ us l2 o2 r2=>
     have rel:∀{c:List AV} {zs:Array Value},c.length=zs.size→(∀(i:Nat) (c':AV) (v:Value),c[i]? =some c'→zs[i]? =some v→VRel σ c' v)→∀j d,c[j]? =some d→∃v,zs[0+j]? =some v∧VRel σ d v:=
      fun h1 h2 j d hj=>by
       have hlt:=(List.getElem?_eq_some_iff.1 hj).1;have:_:=Array.getElem?_eq_getElem (xs:=_) (i:=j) (h1 ▸ hlt);exact ⟨_,by rw [Nat.zero_add];exact this,h2 j d _ hj this⟩
     obtain ⟨r,k1,k2⟩:=eqI_sound (σ:=σ) tok w g1 (n+1) 0 a b vs us K h (rel l1 r1) (rel l2 r2);have e2:(Op.equalIn 10000 t (.agg vs) (.agg us)).run P w= .ok r w:=by
      rw [show (10000:Nat)=9999+1 from rfl,run_equalIn_array w 9999 vs us hu i1,hcell,List.range_eq_range'];exact k2
     refine ⟨run_eqGuard_agg w op t ox oy vs us g3,r,k1,?_,?_⟩
     ·rw [run_eql_struct,e2];rfl
     ·rw [run_neq_struct,e2];rfl
  ·exact h.elim
 ·exact h.elim
theorem bin_sound {op:BinOp} {t:Nat} {x y:AV} {K:AV→Prop} (tok:TOk P ti) (h:binK ti op t x y K) (w:World) (ox oy:Operand) {u v:Value}
  (hx:VRel σ x u) (hy:VRel σ y v):PRun P σ w (do eqGuard op t ox oy u v;binOp op t u v) K:=by
 by_cases hag:(∃a b,x= .agg a∧y= .agg b)∧(op= .eql∨op= .neq)
 ·obtain ⟨⟨a,b,rfl,rfl⟩,ho⟩:=hag
  rcases ho with rfl|rfl
  ·obtain ⟨g,r,k1,k2,_⟩:=eqA_sound (op:=.eql) tok (show eqAK ti t a b fun r=>K (.bool r) from h) w ox oy hx hy;exact ⟨_,_,by rw [Sem.run_bind,g];exact k2,.bool,k1⟩
  ·obtain ⟨g,r,k1,_,k2⟩:=eqA_sound (op:=.neq) tok (show eqAK ti t a b fun r=>K (.bool !r) from h) w ox oy hx hy;exact ⟨_,_,by rw [Sem.run_bind,g];exact k2,.bool,k1⟩
 have key:PRun P σ w (binOp op t u v) K∧((∀cs,u≠.agg cs)∧u≠.nilIface):=by
  unfold binK at h
  split at h
  ·cases hx;cases hy;exact ⟨⟨_,_,by have:=h.1;simp [binOp,Op.shift,Int.not_lt.2 this]<;>rfl,.int,h.2⟩,by simp⟩
  ·cases hx;cases hy;exact ⟨⟨_,_,by have:=h.1;simp [binOp,Op.shift,Int.not_lt.2 this]<;>rfl,.int,h.2⟩,by simp⟩
  ·rename_i k a k' b hs1 hs2
   split at h
   ·rename_i e;subst e;cases hx;cases hy;refine ⟨binInt_sound h w t ⟨fun e=>?_,fun e=>?_⟩,by simp⟩
    ·subst e;exact hs1 rfl
    ·subst e;exact hs2 rfl
   ·exact h.elim
  ·cases hx;cases hy;obtain ⟨d,hd,hk⟩:=kindOf_some h.1;have hu:=(tok _ _ hd).bool hk;exact ⟨⟨_,_,(run_eql w (eqIn_bool 9999 hu _ _ w) (by simp)).1,.bool,h.2⟩,by simp⟩
  ·cases hx;cases hy;obtain ⟨d,hd,hk⟩:=kindOf_some h.1;have hu:=(tok _ _ hd).bool hk;exact ⟨⟨_,_,(run_eql w (eqIn_bool 9999 hu _ _ w) (by simp)).2,.bool,h.2⟩,by simp⟩
  ·cases hx;cases hy;exact ⟨⟨_,_,by simp [binOp,Op.stringOp]<;>rfl,.bool,h⟩,by simp⟩
  ·cases hx;cases hy;exact ⟨⟨_,_,by simp [binOp,Op.stringOp]<;>rfl,.bool,h⟩,by simp⟩
  ·cases hx;cases hy;rename_i a b;obtain ⟨h1,h2⟩:=h;refine ⟨⟨.string ⟨(a++b).toArray⟩,_,?_,.str,h2⟩,by simp⟩;have e:((⟨a.toArray⟩:ByteArray)++⟨b.toArray⟩)=⟨(a++b).toArray⟩:=by
    apply ByteArray.ext
    rw [ByteArray.data_append];simp
   have n1:¬((((⟨a.toArray⟩:ByteArray).size+(⟨b.toArray⟩:ByteArray).size:Nat):Int)>IntKind.i64.max):=by
    show ¬(((a.length+b.length:Nat):Int)>9223372036854775807);unfold strMax at h1;omega
   simp only [binOp,Op.stringOp,if_neg n1,e];rfl
  ·exact absurd ⟨⟨_,_,rfl,rfl⟩,.inl rfl⟩ hag
  ·exact absurd ⟨⟨_,_,rfl,rfl⟩,.inr rfl⟩ hag
  ·obtain ⟨d,hd,hk⟩:=kindOf_some h.1;obtain ⟨a,b,c,hu⟩:=(tok _ _ hd).func hk;cases hx;cases hy;exact ⟨⟨_,_,(run_eql w (eqIn_fn_nil 9999 hu _ _ _ w) (by simp)).1,.bool,h.2⟩,by simp⟩
  ·obtain ⟨d,hd,hk⟩:=kindOf_some h.1;obtain ⟨a,b,c,hu⟩:=(tok _ _ hd).func hk;cases hx;cases hy;exact ⟨⟨_,_,(run_eql w (eqIn_fn_nil 9999 hu _ _ _ w) (by simp)).2,.bool,h.2⟩,by simp⟩
  ·obtain ⟨d,hd,hk⟩:=kindOf_some h.1;obtain ⟨e,hu⟩:=(tok _ _ hd).ptr hk;have h2:=h.2;cases hy
   split at h2
   ·rename_i hn;cases hx<;>simp [notNil] at hn
    ·exact ⟨⟨_,_,(run_eql w (eqIn_ptr_nil 9999 hu _ w) (by simp)).1,.bool,h2⟩,by simp⟩
    ·exact ⟨⟨_,_,(run_eql w (eqIn_ptr_nil 9999 hu _ w) (by simp)).1,.bool,h2⟩,by simp⟩
   ·split at h2
    ·cases hx;exact ⟨⟨_,_,(run_eql w (eqIn_ptr_nil 9999 hu _ w) (by simp)).1,.bool,h2⟩,by simp⟩
    ·exact h2.elim
  ·obtain ⟨d,hd,hk⟩:=kindOf_some h.1;obtain ⟨e,hu⟩:=(tok _ _ hd).ptr hk;have h2:=h.2;cases hy
   split at h2
   ·rename_i hn;cases hx<;>simp [notNil] at hn
    ·exact ⟨⟨_,_,(run_eql w (eqIn_ptr_nil 9999 hu _ w) (by simp)).2,.bool,h2⟩,by simp⟩
    ·exact ⟨⟨_,_,(run_eql w (eqIn_ptr_nil 9999 hu _ w) (by simp)).2,.bool,h2⟩,by simp⟩
   ·split at h2
    ·cases hx;exact ⟨⟨_,_,(run_eql w (eqIn_ptr_nil 9999 hu _ w) (by simp)).2,.bool,h2⟩,by simp⟩
    ·exact h2.elim
  ·exact h.elim
 obtain ⟨⟨v',r,hrun,hv,hk⟩,hg⟩:=key;exact ⟨v',r,by simp [eqGuard_plain w hg,hrun],hv,hk⟩
theorem un_sound {op:UnOp} {x:AV} {K:AV→Prop} (h:unK op x K) (w:World) {u:Value} (hx:VRel σ x u):PRun P σ w (Op.unary op u) K:=by
 unfold unK at h
 split at h
 ·cases hx;exact ⟨_,_,by simp [Op.unary]<;>rfl,.bool,h⟩
 ·cases hx;exact ⟨_,_,by simp [Op.unary,Op.intArith]<;>rfl,.int,h⟩
 ·exact h.elim
theorem min_sound (K:AV→Prop) (w:World):∀(l:List AV) (x:AV) (vs:List Value) (u:Value),minK false l x K→VRel σ x u→VRels σ l vs→PRun P σ w (vs.foldlM Builtin.min2 u) K:=by
 intro l
 induction l with
 |nil=>
  intro x vs u h hx hl;obtain rfl:vs=[]:=List.eq_nil_of_length_eq_zero hl.1.symm;exact ⟨u,x,by simp,hx,h⟩
 |cons y r ih=>
  intro x vs u h hx hl
  match vs,hl with
  | [],hl=>cases hl.1
  |v::vs,hl=>
   have h0:=hl.2 0 _ v rfl rfl;simp only [minK] at h
   split at h
   ·split at h
    ·rename_i e;subst e;cases h0;cases hx;obtain ⟨v,r,h1,h2⟩:=ih _ vs _ h .int ⟨by have:=hl.1;simpa using this,fun i a v x y=>hl.2 (i+1) a v (by simpa using x) (by simpa using y)⟩;exact ⟨v,r,by simpa [List.foldlM_cons,Builtin.min2] using h1,h2⟩
    ·exact h.elim
   ·exact h.elim
theorem max_sound (K:AV→Prop) (w:World):∀(l:List AV) (x:AV) (vs:List Value) (u:Value),minK true l x K→VRel σ x u→VRels σ l vs→PRun P σ w (vs.foldlM Builtin.max2 u) K:=by
 intro l
 induction l with
 |nil=>
  intro x vs u h hx hl;obtain rfl:vs=[]:=List.eq_nil_of_length_eq_zero hl.1.symm;exact ⟨u,x,by simp,hx,h⟩
 |cons y r ih=>
  intro x vs u h hx hl
  match vs,hl with
  | [],hl=>cases hl.1
  |v::vs,hl=>
   have h0:=hl.2 0 _ v rfl rfl;simp only [minK] at h
   split at h
   ·split at h
    ·rename_i e;subst e;cases h0;cases hx;obtain ⟨v,r,h1,h2⟩:=ih _ vs _ h .int ⟨by have:=hl.1;simpa using this,fun i a v x y=>hl.2 (i+1) a v (by simpa using x) (by simpa using y)⟩;exact ⟨v,r,by simpa [List.foldlM_cons,Builtin.max2] using h1,h2⟩
    ·exact h.elim
   ·exact h.elim
end
end Go.Ab

namespace Go.Ab
section
variable {P:Program} {ti:TI} {σ:Sg}
theorem run_slice3 {t e:Nat} {size:Nat} (hu:P.underlying t=some (.slice e)) (hs:∀w,(sizeOf e).run P w= .ok size w) (a:Option Addr) (len cap:Nat) (w:World)
  (lo hi mx:Option Value) (l h m:Nat)
  (hm:(mx=none∧m=cap)∨(∃k:IntKind,mx=some (.int k (m:Int))∧m≤cap∧hi≠none))
  (hh:(hi=none∧h=len)∨(∃k:IntKind,hi=some (.int k (h:Int))∧h≤m))
  (hl:(lo=none∧l=0)∨(∃k:IntKind,lo=some (.int k (l:Int))∧l≤h)):
  (Instr.sliceAt t (.slice a len cap) lo hi mx).run P w= .ok (.slice (if m=l then a else a.map (·.add (l * size))) (h-l) (m-l)) w:=by
 rcases hm with ⟨rfl,rfl⟩|⟨k,rfl,hm,hne⟩<;>rcases hh with ⟨rfl,rfl⟩|⟨k',rfl,hh⟩<;>rcases hl with ⟨rfl,rfl⟩|⟨k'',rfl,hl⟩<;>
  first
   |exact absurd rfl hne
   |simp [Instr.sliceAt,run_und hu,Instr.slice,Instr.sliceBounds,Instr.sliceBound,asIntOf, *]
theorem ext_str (x:List UInt8) (l h:Nat):((⟨x.toArray⟩:ByteArray).extract l h)=⟨((x.drop l).take (h-l)).toArray⟩:=by
 apply ByteArray.ext
 rw [ByteArray.data_extract];simp [List.extract_eq_take_drop]
theorem run_slice_str {t:Nat} (hu:P.underlying t=some .string) (x:List UInt8) (w:World) (lo hi:Option Value) (l h:Nat)
  (hh:(hi=none∧h=x.length)∨(∃k:IntKind,hi=some (.int k (h:Int))∧h≤x.length))
  (hl:(lo=none∧l=0)∨(∃k:IntKind,lo=some (.int k (l:Int))∧l≤h)):
  (Instr.sliceAt t (.string ⟨x.toArray⟩) lo hi none).run P w= .ok (.string ⟨((x.drop l).take (h-l)).toArray⟩) w:=by
 rw [←ext_str];have e:(⟨x.toArray⟩:ByteArray).size=x.length:=rfl
 rcases hh with ⟨rfl,rfl⟩|⟨k',rfl,hh⟩<;>rcases hl with ⟨rfl,rfl⟩|⟨k'',rfl,hl⟩<;>
  simp [Instr.sliceAt,run_und hu,Instr.slice,Instr.sliceBounds,Instr.sliceBound,asIntOf,e, *]
 rw [ext_str];simp
theorem sliceStr_sound {t:Nat} (hu:P.underlying t=some .string) {x:List UInt8}
  {lo hi:Option AV} {lo' hi':Option Value} (hl:∀a,lo=some a→∃v,lo'=some v∧VRel σ a v) (hl0:lo=none→lo'=none)
  (hh:∀a,hi=some a→∃v,hi'=some v∧VRel σ a v) (hh0:hi=none→hi'=none)
  {K:AV→Prop} (hk:sliceGo lo hi none K x.length fun l n _=>.str ((x.drop l).take n)) (w:World):PRun P σ w (Instr.sliceAt t (.string ⟨x.toArray⟩) lo' hi' none) K:=by
 unfold sliceGo at hk
 split at hk
 ·rw [hl0 rfl,hh0 rfl];exact ⟨_,_,run_slice_str hu x w _ _ 0 x.length (.inl ⟨rfl,rfl⟩) (.inl ⟨rfl,rfl⟩),.str,hk⟩
 ·rename_i l;obtain ⟨v,hv1,hv2⟩:=hl _ rfl;cases hv2;obtain ⟨⟨b1,b2⟩,hk⟩:=hk;obtain ⟨l,rfl⟩:=Int.eq_ofNat_of_zero_le b1;rw [hv1,hh0 rfl];exact ⟨_,_,run_slice_str hu x w _ _ l x.length (.inl ⟨rfl,rfl⟩) (.inr ⟨_,rfl,by omega⟩),.str,hk⟩
 ·rename_i h;obtain ⟨v,hv1,hv2⟩:=hh _ rfl;cases hv2;obtain ⟨⟨b1,b2⟩,hk⟩:=hk;obtain ⟨h,rfl⟩:=Int.eq_ofNat_of_zero_le b1;rw [hl0 rfl,hv1];exact ⟨_,_,run_slice_str hu x w _ _ 0 h (.inr ⟨_,rfl,by omega⟩) (.inl ⟨rfl,rfl⟩),.str,hk⟩
 ·rename_i l k2 h;obtain ⟨v,hv1,hv2⟩:=hl _ rfl;obtain ⟨v',hv3,hv4⟩:=hh _ rfl;cases hv2;cases hv4;obtain ⟨⟨b1,b2,b3⟩,hk⟩:=hk;obtain ⟨l,rfl⟩:=Int.eq_ofNat_of_zero_le b1;obtain ⟨h,rfl⟩:=Int.eq_ofNat_of_zero_le (Int.le_trans b1 b2);rw [hv1,hv3];exact ⟨_,_,run_slice_str hu x w _ _ l h (.inr ⟨_,rfl,by omega⟩) (.inr ⟨_,rfl,by omega⟩),.str,hk⟩
 all_goals first|exact hk.elim|(rename_i hne;cases hne)|contradiction
theorem slice_rel_o {id:Id} {ep sz off len cap:Nat} {a:Option Addr} (h:VRel σ (.oslc id ep sz off len false) (.slice a len cap)) (l n:Nat) (hl:l+n≤len):
  VRel σ (.oslc id ep sz (off+l) n false) (.slice (if cap=l then a else a.map (·.add (l * sz))) n (cap-l)):=by
 cases h with
 | @oslc _ _ _ _ _ _ _ blk st m size _ h h1 h2 h3 h4 h5=>
  have h2:=h2 rfl
  split
  ·rename_i e;subst e;have:n=0:=by omega
   subst this;simp only [Nat.sub_self];exact .oz h (by omega) (fun _=>by omega)
  ·have e:Addr.add ⟨blk,st+off * sz,none⟩ (l * sz)=⟨blk,st+(off+l) * sz,none⟩:=by
    unfold Addr.add
    split
    ·rename_i e;rw [Nat.add_mul,e];rfl
    ·simp [Nat.add_mul,Nat.add_assoc]
   simp only [Option.map_some,e];exact .oslc h (by omega) (fun _=>by omega) (fun x=>by cases x) (by rw [show off+l+(cap-l)=off+cap from by omega];exact h4) (by omega)
 |onil h=>
  obtain rfl:l=0:=by omega
  obtain rfl:n=0:=by omega
  simp only [if_true,Nat.add_zero];exact .onil h
 |onilz h=>
  obtain rfl:l=0:=by omega
  obtain rfl:n=0:=by omega
  simp only [if_true,Nat.add_zero];exact .onilz h
 |oz h h1 h2=>
  obtain rfl:l=0:=by omega
  obtain rfl:n=0:=by omega
  simp only [if_true,Nat.add_zero];exact .oz h h1 h2
theorem slice_rel_lim {id:Id} {ep sz off len cap:Nat} {a:Option Addr} (h:VRel σ (.oslc id ep sz off len false) (.slice a len cap)) (n:Nat) (hl:n≤len):
  VRel σ (.oslc id ep sz (off+0) n true) (.slice (if n=0 then a else a.map (·.add (0 * sz))) n n):=by
 have e0:∀b:Addr,b.add (0 * sz)=b:=fun b=>by simp [Addr.add]
 cases h with
 | @oslc _ _ _ _ _ _ _ blk st m size _ h h1 h2 h3 h4 h5=>
  have h2:=h2 rfl;have hm:st+(off+n) * sz≤size:=by
   have:(off+n) * sz≤(off+cap) * sz:=Nat.mul_le_mul_right _ (by omega);omega
  split
  ·rename_i e;subst e;exact .oslc h (by omega) (fun x=>by cases x) (fun _=>rfl) hm (Nat.le_refl _)
  ·simp only [Option.map_some,e0];exact .oslc h (by omega) (fun x=>by cases x) (fun _=>rfl) hm (Nat.le_refl _)
 |onil h=>
  obtain rfl:n=0:=by omega
  simp only [if_true,Nat.add_zero];exact .onil h
 |onilz h=>
  obtain rfl:n=0:=by omega
  simp only [if_true,Nat.add_zero];exact .onilz h
 |oz h h1 h2=>
  obtain rfl:n=0:=by omega
  simp only [if_true,Nat.add_zero];exact .oz h h1 (fun x=>by cases x)
theorem slice_rel_l {sz off len cap:Nat} {rows:List (List AV)} {a:Option Addr} (h:VRel σ (.lslc sz rows off len false) (.slice a len cap)) (l n:Nat) (hl:l+n≤len):
  VRel σ (.lslc sz rows (off+l) n false) (.slice (if cap=l then a else a.map (·.add (l * sz))) n (cap-l)):=by
 cases h with
 | @lslc _ _ _ _ _ _ blk st _ g hw hc ho hv h1 h3 h5=>
  split
  ·rename_i e;subst e;have:n=0:=by omega
   subst this;simp only [Nat.sub_self];exact .lz
  ·have e:Addr.add ⟨blk,st+off * sz,none⟩ (l * sz)=⟨blk,st+(off+l) * sz,none⟩:=by
    unfold Addr.add
    split
    ·rename_i e;rw [Nat.add_mul,e];rfl
    ·simp [Nat.add_mul,Nat.add_assoc]
   simp only [Option.map_some,e];exact .lslc g hw hc ho hv (by omega) (fun x=>by cases x) (by omega)
 |lnil=>
  obtain rfl:l=0:=by omega
  obtain rfl:n=0:=by omega
  simp only [if_true];exact .lnil
 |lz=>
  obtain rfl:l=0:=by omega
  obtain rfl:n=0:=by omega
  simp only [if_true];exact .lz
theorem slice_rel_llim {sz off len cap:Nat} {rows:List (List AV)} {a:Option Addr} (h:VRel σ (.lslc sz rows off len false) (.slice a len cap)) (n:Nat) (hl:n≤len):
  VRel σ (.lslc sz rows (off+0) n true) (.slice (if n=0 then a else a.map (·.add (0 * sz))) n n):=by
 have e0:∀b:Addr,b.add (0 * sz)=b:=fun b=>by simp [Addr.add]
 cases h with
 | @lslc _ _ _ _ _ _ blk st _ g hw hc ho hv h1 h3 h5=>
  split
  ·rename_i e;subst e;exact .lslc g hw hc ho hv (by omega) (fun _=>rfl) (Nat.le_refl _)
  ·simp only [Option.map_some,e0];exact .lslc g hw hc ho hv (by omega) (fun _=>rfl) (Nat.le_refl _)
 |lnil=>
  obtain rfl:n=0:=by omega
  simp only [if_true];exact .lnil
 |lz=>
  obtain rfl:n=0:=by omega
  simp only [if_true];exact .lz
theorem toNat_int {v:Value} {k:IntKind} {n:Int} (h:VRel σ (.int k n) v):v= .int k n:=by cases h;rfl
theorem sliceK_sound {t e:Nat} {sz:Nat} (hu:P.underlying t=some (.slice e)) (hs:∀w,(sizeOf e).run P w= .ok sz w) {x:AV} {u:Value} (hx:VRel σ x u)
  (hsz:(∃id ep off len lim,x= .oslc id ep sz off len lim)∨(∃rows off len lim,x= .lslc sz rows off len lim)∨x= .nils)
  {lo hi mx:Option AV} {lo' hi' mx':Option Value} (hl:∀a,lo=some a→∃v,lo'=some v∧VRel σ a v) (hl0:lo=none→lo'=none)
  (hh:∀a,hi=some a→∃v,hi'=some v∧VRel σ a v) (hh0:hi=none→hi'=none) (hm:∀a,mx=some a→∃v,mx'=some v∧VRel σ a v) (hm0:mx=none→mx'=none)
  {K:AV→Prop} (hsl:sliceK x lo hi mx K) (w:World):PRun P σ w (Instr.sliceAt t u lo' hi' mx') K:=by
 have main:∀(len:Nat) (f:Nat→Nat→Bool→AV) (a:Option Addr) (cap:Nat),u= .slice a len cap→len≤cap→
   (∀l n,l+n≤len→VRel σ (f l n false) (.slice (if cap=l then a else a.map (·.add (l * sz))) n (cap-l)))→
   (∀n,n≤len→VRel σ (f 0 n true) (.slice (if n=0 then a else a.map (·.add (0 * sz))) n n))→
   sliceGo lo hi mx K len f→PRun P σ w (Instr.sliceAt t u lo' hi' mx') K:=by
  intro len f a cap hu' hcap hf1 hf2 hk;subst hu';unfold sliceGo at hk
  split at hk
  ·rw [hl0 rfl,hh0 rfl,hm0 rfl];exact ⟨_,_,run_slice3 hu hs a len cap w _ _ _ 0 len cap (.inl ⟨rfl,rfl⟩) (.inl ⟨rfl,rfl⟩) (.inl ⟨rfl,rfl⟩),hf1 0 len (by omega),hk⟩
  ·rename_i l;obtain ⟨v,hv1,hv2⟩:=hl _ rfl;cases hv2;obtain ⟨⟨b1,b2⟩,hk⟩:=hk;obtain ⟨l,rfl⟩:=Int.eq_ofNat_of_zero_le b1;rw [hv1,hh0 rfl,hm0 rfl];exact ⟨_,_,run_slice3 hu hs a len cap w _ _ _ l len cap (.inl ⟨rfl,rfl⟩) (.inl ⟨rfl,rfl⟩) (.inr ⟨_,rfl,by omega⟩),hf1 l (len-l) (by omega),hk⟩
  ·rename_i h;obtain ⟨v,hv1,hv2⟩:=hh _ rfl;cases hv2;obtain ⟨⟨b1,b2⟩,hk⟩:=hk;obtain ⟨h,rfl⟩:=Int.eq_ofNat_of_zero_le b1;rw [hl0 rfl,hv1,hm0 rfl];exact ⟨_,_,run_slice3 hu hs a len cap w _ _ _ 0 h cap (.inl ⟨rfl,rfl⟩) (.inr ⟨_,rfl,by omega⟩) (.inl ⟨rfl,rfl⟩),hf1 0 h (by omega),hk⟩
  ·rename_i l k2 h;obtain ⟨v,hv1,hv2⟩:=hl _ rfl;obtain ⟨v',hv3,hv4⟩:=hh _ rfl;cases hv2;cases hv4;obtain ⟨⟨b1,b2,b3⟩,hk⟩:=hk;obtain ⟨l,rfl⟩:=Int.eq_ofNat_of_zero_le b1;obtain ⟨h,rfl⟩:=Int.eq_ofNat_of_zero_le (Int.le_trans b1 b2);rw [hv1,hv3,hm0 rfl];exact ⟨_,_,run_slice3 hu hs a len cap w _ _ _ l h cap (.inl ⟨rfl,rfl⟩) (.inr ⟨_,rfl,by omega⟩) (.inr ⟨_,rfl,by omega⟩),hf1 l (h-l) (by omega),hk⟩
  ·rename_i h k2 m;obtain ⟨v,hv1,hv2⟩:=hh _ rfl;obtain ⟨v',hv3,hv4⟩:=hm _ rfl;cases hv2;cases hv4;obtain ⟨⟨b1,b2,b3⟩,hk⟩:=hk;subst b3;obtain ⟨h,rfl⟩:=Int.eq_ofNat_of_zero_le b1;rw [hl0 rfl,hv1,hv3];exact ⟨_,_,run_slice3 hu hs a len cap w _ _ _ 0 h h (.inr ⟨_,rfl,by omega,by simp⟩) (.inr ⟨_,rfl,by omega⟩) (.inl ⟨rfl,rfl⟩),hf2 h (by omega),hk⟩
  ·rename_i l k1 h k2 m;obtain ⟨v0,hv0,hv00⟩:=hl _ rfl;obtain ⟨v,hv1,hv2⟩:=hh _ rfl;obtain ⟨v',hv3,hv4⟩:=hm _ rfl;cases hv00;cases hv2;cases hv4;obtain ⟨⟨b0,b1,b2,b3⟩,hk⟩:=hk;subst b3;subst b0;obtain ⟨h,rfl⟩:=Int.eq_ofNat_of_zero_le b1;rw [hv0,hv1,hv3];exact ⟨_,_,run_slice3 hu hs a len cap w _ _ _ 0 h h (.inr ⟨_,rfl,by omega,by simp⟩) (.inr ⟨_,rfl,by omega⟩) (.inr ⟨_,rfl,by omega⟩),hf2 h (by omega),hk⟩
  ·exact hk.elim
 unfold sliceK at hsl
 split at hsl
 ·rename_i id ep sz' off len;obtain rfl:sz'=sz:=by
   rcases hsz with ⟨_,_,_,_,_,e⟩|⟨_,_,_,_,e⟩|e<;>cases e;rfl
  obtain ⟨a,cap,rfl,hc⟩:∃a cap,u= .slice a len cap∧len≤cap:=by
   cases hx with
   |oslc _ _ _ _ _ h5=>exact ⟨_,_,rfl,h5⟩
   |onil=>exact ⟨_,_,rfl,Nat.le_refl _⟩
   |onilz=>exact ⟨_,_,rfl,Nat.le_refl _⟩
   |oz=>exact ⟨_,_,rfl,Nat.le_refl _⟩
  exact main len (fun l n lim=>.oslc id ep sz' (off+l) n lim) a cap rfl hc (fun l n hl=>slice_rel_o hx l n hl) (fun n hn=>slice_rel_lim hx n hn) hsl
 ·rename_i sz' rows off len;obtain rfl:sz'=sz:=by
   rcases hsz with ⟨_,_,_,_,_,e⟩|⟨_,_,_,_,e⟩|e<;>cases e;rfl
  obtain ⟨a,cap,rfl,hc⟩:∃a cap,u= .slice a len cap∧len≤cap:=by
   cases hx with
   |lslc _ _ _ _ _ _ _ h5=>exact ⟨_,_,rfl,h5⟩
   |lnil=>exact ⟨_,_,rfl,Nat.le_refl _⟩
   |lz=>exact ⟨_,_,rfl,Nat.le_refl _⟩
  exact main len (fun l n lim=>.lslc sz' rows (off+l) n lim) a cap rfl hc (fun l n hl=>slice_rel_l hx l n hl) (fun n hn=>slice_rel_llim hx n hn) hsl
 ·cases hx;refine main 0 (fun _ _ _=>.nils) none 0 rfl (Nat.le_refl _) (fun l n hl=>?_) (fun n hn=>?_) hsl
  ·obtain rfl:l=0:=by omega
   obtain rfl:n=0:=by omega
   exact .nils
  ·obtain rfl:n=0:=by omega
   exact .nils
 ·exact hsl.elim
theorem fill_sound:∀(parts:List (Nat×AV)) (vs:List (Nat×Value)) (place:Nat→Option (Nat×Nat)) (cells:List AV) (cs:Array Value) (K:List AV→Prop),
  fillK place cells parts K→CRels σ cells cs.toList→parts.length=vs.length→(∀(i:Nat) (p:Nat×AV) (q:Nat×Value),parts[i]? =some p→vs[i]? =some q→p.1=q.1∧VRel σ p.2 q.2)→
  ∃cs',Instr.fill place cs vs=some cs'∧∃cells',CRels σ cells' cs'.toList∧K cells':=by
 intro parts
 induction parts with
 |nil=>
  intro vs place cells cs K h hc hl hp;obtain rfl:vs=[]:=List.eq_nil_of_length_eq_zero hl.symm;exact ⟨cs,rfl,cells,hc,h⟩
 |cons p r ih=>
  intro vs place cells cs K h hc hl hp
  match vs,hl with
  | [],hl=>cases hl
  |q::vs,hl=>
   obtain ⟨i,a⟩:=p;obtain ⟨j,v⟩:=q;obtain ⟨e,hv⟩:=hp 0 _ _ rfl rfl;simp only at e;subst e;simp only [fillK] at h
   split at h
   ·rename_i off size ds h1 h2
    split at h
    ·rename_i hsz;obtain ⟨hsz,hle⟩:=hsz;have hds:=hv.cells h2;have hn:v.cells.size=size:=by have:=hds.1.1;simp at this;omega
     have hcs:cells.length=cs.size:=by have:=hc.1.1;simpa using this
     have hfold:(v.cells.zipIdx.foldl (fun cs (x:Value×Nat)=>cs.setIfInBounds (off+x.2) x.1) cs).toList=cs.toList.take off++v.cells.toList++cs.toList.drop (off+size):=by
      have gen:∀(l:List Value) (k:Nat) (cs:Array Value),off+k+l.length≤cs.size→
        ((l.zipIdx k).foldl (fun cs (x:Value×Nat)=>cs.setIfInBounds (off+x.2) x.1) cs).toList=cs.toList.take (off+k)++l++cs.toList.drop (off+k+l.length):=by
       intro l
       induction l with
       |nil=>intro k cs _;simp
       |cons y l ihl=>
        intro k cs hk;simp only [List.length_cons] at hk;simp only [List.zipIdx_cons,List.foldl_cons];rw [ihl (k+1) _ (by simp;omega)];simp only [Array.toList_setIfInBounds]
        apply List.ext_getElem?
        intro m;simp only [List.append_assoc,List.getElem?_append,List.length_take,List.length_set,Array.length_toList,List.getElem?_take,List.getElem?_set,List.getElem?_drop,List.length_cons];have hmin:min (off+(k+1)) cs.size=off+(k+1):=by omega
        have hmin2:min (off+k) cs.size=off+k:=by omega
        rw [hmin,hmin2];by_cases h1:m<off+k
        ·simp [show m<off+(k+1) from by omega,h1,show ¬(off+k=m) from by omega]
        ·by_cases h2:m=off+k
         ·subst h2;simp [show off+k<off+(k+1) from by omega,show off+k<cs.size from by omega]
         ·have h3:¬m<off+(k+1):=by omega
          simp only [h3,h1,if_false];rw [show m-(off+k)=(m-(off+(k+1)))+1 from by omega];simp only [List.cons_append,List.getElem?_cons_succ,List.getElem?_append]
          split
          ·rw [if_pos (by omega)]
          ·rw [if_neg (by omega),if_neg (by omega)]
           congr 1
           omega
      have:=gen v.cells.toList 0 cs (by simp;omega);simp only [Nat.add_zero,Array.length_toList,hn] at this;rw [←this,←Array.toList_zipIdx,←Array.foldl_toList]
     have hnew:CRels σ (cells.take off++ds++cells.drop (off+size)) (v.cells.zipIdx.foldl (fun cs (x:Value×Nat)=>cs.setIfInBounds (off+x.2) x.1) cs).toList:=by
      rw [hfold];refine ⟨VRels.append (VRels.append ⟨by simp [hcs],fun i a v x y=>?_⟩ hds.1) ⟨by simp [hcs],fun i a v x y=>?_⟩,fun v hv=>?_⟩
      ·simp only [List.getElem?_take] at x y
       split at x
       ·simp only [*,if_true] at y;exact hc.1.2 i a v x y
       ·cases x
      ·simp only [List.getElem?_drop] at x y;exact hc.1.2 _ a v x y
      ·rw [List.mem_append,List.mem_append] at hv
       rcases hv with (hv|hv)|hv
       ·exact hc.2 v (List.mem_of_mem_take hv)
       ·exact hds.2 v hv
       ·exact hc.2 v (List.mem_of_mem_drop hv)
     obtain ⟨cs',h3,h4⟩:=ih vs place _ _ K h hnew (by simpa using hl) (fun i p q x y=>hp (i+1) p q (by simpa using x) (by simpa using y));refine ⟨cs',?_,h4⟩;simp only [Instr.fill,h1];rw [if_neg (by simp;omega)];exact h3
    ·exact h.elim
   ·exact h.elim
theorem part_cells {x:AV} {u:Value} {cs:List AV} (hx:VRel σ x u) (e:x= .agg cs):∃vs:Array Value,u= .agg vs∧CRels σ cs vs.toList:=by
 subst e;cases hx with
 |agg l o v=>exact ⟨_,rfl,⟨by simpa using l,fun i a w x y=>v i a w x (by simpa using y)⟩,o⟩
end
end Go.Ab
