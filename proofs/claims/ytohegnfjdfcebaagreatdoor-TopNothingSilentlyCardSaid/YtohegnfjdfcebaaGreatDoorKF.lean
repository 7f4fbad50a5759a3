/-
  What is proved here serves the law's text: each part says its own claim and its conditions. No condition is left open.
-/
import Derived.Test.YtohegnfjdfcebaaGreatDoorKE
set_option maxHeartbeats 32000000
set_option maxRecDepth 100000
set_option linter.unusedSimpArgs false
set_option linter.unusedVariables false

namespace Go.Ab
section
variable {P:Program} {ti:TI} {σ:Sg}
theorem Sim.newFM {h:Heap} {w:World} (s:Sim σ h w):σ.FM w.heap.size=none:=by
 cases hf:σ.FM w.heap.size with
 |none=>rfl
 |some cs=>
  obtain ⟨T,fz,hx⟩:=s.fm _ _ hf;have:=(Array.getElem?_eq_some_iff.1 hx).1;omega
theorem Sim.allocRows {h:Heap} {w w':World} (s:Sim σ h w) (id:Id) (rows:List (List AV)) (sz:Nat) (cs:Array Value) (T:TypeId)
  (hrow:∀(i:Nat) (row:List AV),rows[i]? =some row→row.length=sz) (hsz:rows.length * sz≤cs.size)
  (hc:∀(i j:Nat) (c:AV),cellAt rows i j=some c→∃v,cs[i * sz+j]? =some v∧v.oneCell'=true∧VRel σ c v)
  (hw:w'.heap=w.heap.push (.cells cs T)) (ho:SameOut w w'):
  ∃ep σ',Mv σ h w σ' (h.set id (.vec ep rows)) w'∧σ'.ρ id ep=some (.at w.heap.size 0 sz rows.length cs.size):=by
 refine s.alloc id (.cells cs T) 0 sz rows.length cs.size (fun ep=>.vec ep rows) (fun ep=>rfl) hw ho fun ep σ' hle hρ hFM=>?_;refine .inr ⟨w.heap.size,0,sz,rows.length,cs.size,cs,T,hρ,by rw [hw];simp,rfl,rfl,by omega,by rw [hFM];exact s.newFM,hrow,fun i j c hcell=>?_⟩;obtain ⟨v,h1,h2,h3⟩:=hc i j c hcell;exact ⟨v,by rw [Nat.zero_add];exact h1,h2,h3.mono hle⟩
theorem Sim.allocNil {h:Heap} {w:World} (s:Sim σ h w) (id:Id):∃ep σ',Mv σ h w σ' (h.set id (.vec ep [])) w∧σ'.ρ id ep=some .nil:=by
 obtain ⟨e0,he0⟩:=s.fresh
 let σ':Sg:={ ρ:=fun i e=>if i=id∧e=e0 then some .nil else σ.ρ i e,FM:=σ.FM,RM:=σ.RM }
 have hle:Sg.Le σ σ':=by
  refine ⟨fun i e pl hp=>?_,fun _ _ x=>x,fun _ _ x=>x⟩;show (if i=id∧e=e0 then _ else σ.ρ i e)=_;rw [if_neg]
  ·exact hp
  ·rintro ⟨rfl,rfl⟩;rw [he0 _ e (Nat.le_refl _)] at hp;cases hp
 have hnew:σ'.ρ id e0=some .nil:=by show (if id=id∧e0=e0 then _ else _)=_;simp
 have hother:∀(i:Id) (o:AObj),i≠id→(h.set id (.vec e0 []))[i]? =some o→h[i]? =some o:=fun i o hi ho=>by
  rw [Heap.getElem?_set_ne (Ne.symm hi)] at ho;exact ho
 have hthis:∀(o:AObj),(h.set id (.vec e0 []))[id]? =some o→o= .vec e0 []:=fun o ho=>by
  rw [Heap.getElem?_set_self'] at ho;cases hh:h[id]? with
  |none=>simp [hh] at ho
  |some x=>simpa [hh] using ho.symm
 have hb:∀(i:Id) (o:AObj) (b:Nat),(h.set id (.vec e0 []))[i]? =some o→o.blk σ' i=some b→h[i]? =some o∧o.blk σ i=some b:=fun i o b ho hbx=>by
  by_cases hi:i=id
  ·subst hi;rw [hthis o ho] at hbx;simp [AObj.blk,hnew] at hbx
  ·have h1:=hother i o hi ho;rw [blk_le (s.obj i o h1) hle] at hbx;exact ⟨h1,hbx⟩
 refine ⟨e0,σ',⟨hle,⟨s.fm,?_,?_,?_,s.rm,fun p hp=>hle.FM _ _ (s.gl p hp)⟩,rfl,rfl,rfl,Nat.le_refl _,fun _ _ _=>rfl,?_,fun _ x=>.inl x⟩,hnew⟩
 ·intro i o ho;by_cases hi:i=id
  ·subst hi;rw [hthis o ho];exact .inl ⟨rfl,hnew⟩
  ·have h1:=hother i o hi ho;exact (s.obj i o h1).keep hle fun b hbx=>⟨rfl,Live.noFM s ⟨i,o,h1,hbx⟩⟩
 ·intro i j oi oj b hi hj bi bj;obtain ⟨a1,a2⟩:=hb i oi b hi bi;obtain ⟨b1,b2⟩:=hb j oj b hj bj;exact s.apart i j oi oj b a1 b1 a2 b2
 ·refine ⟨e0+1,fun i ep hep=>?_⟩;show (if i=id∧ep=e0 then _ else σ.ρ i ep)=none;rw [if_neg (fun x=>absurd x.2 (by omega))];exact he0 i ep (by omega)
 ·rintro b ⟨i,o,ho,hbx⟩;obtain ⟨a1,a2⟩:=hb i o b ho hbx;exact .inl ⟨i,o,a1,a2⟩
theorem cellAt_one {row:List AV} {i j:Nat} {c:AV} (h:cellAt [row] i j=some c):i=0∧row[j]? =some c:=by
 cases i with
 |zero=>exact ⟨rfl,by simpa [cellAt] using h⟩
 |succ i=>simp [cellAt] at h
theorem alloc_one {h:Heap} {w w':World} (s:Sim σ h w) (id:Id) {row:List AV} {cs:Array Value} {T:TypeId} (hr:CRels σ row cs.toList)
  (hw:w'.heap=w.heap.push (.cells cs T)) (ho:SameOut w w'):
  ∃ep σ',Mv σ h w σ' (h.set id (.vec ep [row])) w'∧VRel σ' (.optr id ep row.length 0 0) (.pointer (some ⟨w.heap.size,0,none⟩)):=by
 have hl:row.length=cs.size:=by have:=hr.1.1;simpa using this
 obtain ⟨ep,σ',m,hp⟩:=s.allocRows id [row] row.length cs T (fun i r h=>by
  cases i with
  |zero=>simp at h;rw [h]
  |succ i=>simp at h) (by simp [hl]) (fun i j c hc=>by
  obtain ⟨rfl,hj⟩:=cellAt_one hc;have hlt:j<cs.size:=by have:=(List.getElem?_eq_some_iff.1 hj).1;omega
  refine ⟨cs[j],by simp,hr.2 _ (by simp),hr.1.2 j c _ hj (by simp)⟩) hw ho
 refine ⟨ep,σ',m,?_⟩;have:=VRel.optr (i:=0) (off:=0) hp;simpa using this
theorem zeros_flat {d:TD} {t:Nat} (hd:DOk P t d) (n:Nat):(List.replicate n d.zero).flatten.length=n * d.size:=by
 obtain ⟨i,z,_,_,_,_,_,h,_⟩:=hd.info;simp [h]
theorem flat_get (l:List AV) (n i j:Nat) (hi:i<n) (hj:j<l.length):(List.replicate n l).flatten[i * l.length+j]? =l[j]?:=by
 induction n generalizing i with
 |zero=>omega
 |succ n ih=>
  simp only [List.replicate_succ,List.flatten_cons];cases i with
  |zero=>simp [List.getElem?_append_left hj]
  |succ i=>
   rw [List.getElem?_append_right (by rw [Nat.succ_mul];omega),show (i+1) * l.length+j-l.length=i * l.length+j from by rw [Nat.succ_mul];omega];exact ih i (by omega)
theorem made_rel {t:Nat} {d:TD} (hd:DOk P t d) (w:World) {z:Value} (hz:(zeroValue t).run P w= .ok z w) (n:Nat) (hs:d.size≠0):
  CRels σ (List.replicate n d.zero).flatten ((Array.range (n * d.size)).map (z.cells[· % z.cells.size]!)).toList:=by
 obtain ⟨z',h1,h2,h3⟩:=zero_rel (σ:=σ) hd w;rw [hz] at h1;cases h1;have hl:d.zero.length=d.size:=by have:=h3.1.1;simp at this;omega
 refine ⟨⟨by simp [hl],fun k a v x y=>?_⟩,fun v hv=>?_⟩
 ·have hk:k<n * d.size:=by have:=(List.getElem?_eq_some_iff.1 x).1;simpa [hl] using this
  have e:k=k / d.size * d.zero.length+k % d.size:=by rw [hl,Nat.mul_comm];exact (Nat.div_add_mod k d.size).symm
  have hm:k % d.size<d.size:=Nat.mod_lt _ (by omega);have hdv:k / d.size<n:=Nat.div_lt_of_lt_mul (by rw [Nat.mul_comm];exact hk);rw [e,flat_get _ _ _ _ hdv (by omega)] at x;simp only [Array.toList_map,Array.toList_range,List.getElem?_map,List.getElem?_range hk,Option.map_some,Option.some.injEq] at y;subst y;rw [h2];refine h3.1.2 (k % d.size) a _ x ?_;have:k % d.size<z.cells.size:=by omega
  simp [getElem!_pos,this]
 ·simp only [Array.toList_map,Array.toList_range,List.mem_map,List.mem_range] at hv;obtain ⟨k,hk,rfl⟩:=hv;have:k % z.cells.size<z.cells.size:=Nat.mod_lt _ (by omega);rw [getElem!_pos z.cells _ this];exact h3.2 _ (by simp)
theorem chunks_cell {sz n:Nat} {cells:List AV} {i j:Nat} {c:AV} (h:cellAt (chunks sz n cells) i j=some c):i<n∧j<sz∧cells[i * sz+j]? =some c:=by
 unfold cellAt chunks at h;cases hi:((List.range n).map fun i=>(cells.drop (i * sz)).take sz)[i]? with
 |none=>rw [hi] at h;cases h
 |some row=>
  rw [hi] at h;simp only [List.getElem?_map,Option.map_eq_some_iff] at hi;obtain ⟨k,hk,rfl⟩:=hi;obtain ⟨h1,h2⟩:=List.getElem?_eq_some_iff.1 hk;simp at h1 h2;subst h2;simp only [Option.bind_some,List.getElem?_take,List.getElem?_drop] at h
  split at h
  ·exact ⟨h1,by assumption,h⟩
  ·cases h
theorem chunks_row {sz n:Nat} {cells:List AV} (hl:cells.length=n * sz) {i:Nat} {row:List AV} (h:(chunks sz n cells)[i]? =some row):row.length=sz:=by
 unfold chunks at h;simp only [List.getElem?_map,Option.map_eq_some_iff] at h;obtain ⟨k,hk,rfl⟩:=h;obtain ⟨h1,h2⟩:=List.getElem?_eq_some_iff.1 hk;simp at h1 h2;subst h2;simp only [List.length_take,List.length_drop,hl];have:(i+1) * sz≤n * sz:=Nat.mul_le_mul_right _ (by omega);rw [Nat.succ_mul] at this;omega
theorem fillK_length:∀(parts:List (Nat×AV)) (place:Nat→Option (Nat×Nat)) (cells:List AV) (K:List AV→Prop),fillK place cells parts K→fillK place cells parts fun cs=>cs.length=cells.length∧K cs:=by
 intro parts
 induction parts with
 |nil=>intro place cells K h;exact ⟨rfl,h⟩
 |cons p r ih=>
  intro place cells K h;obtain ⟨i,v⟩:=p;unfold fillK at h ⊢
  split at h
  ·rename_i off size cs h1 h2
   split at h
   ·rename_i hh;simp only [h1,h2,hh,and_self,if_true];have:=ih place _ K h;have e:(cells.take off++cs++cells.drop (off+size)).length=cells.length:=by simp;omega
    rw [e] at this;exact this
   ·exact h.elim
  ·exact h.elim
theorem alloc_sound (tok:TOk P ti) {ev:Operand→AV} {ρ:Operand→Value} (hr:OpRel σ ev ρ) {h:Heap} {w:World} (s:Sim σ h w) (id:Id) (o:Oper) {K:AV→Heap→Prop}
  (hk:allocK ti ev id h o.op K):
  ∃v r σ' h' w',(execOp ρ o).run P w= .ok (.value v) w'∧Mv σ h w σ' h' w'∧VRel σ' r v∧K r h':=by
 obtain ⟨dst,op,type,pos,after,guard⟩:=o;simp only at hk;unfold allocK at hk
 split at hk
 ·exact hk.elim
 ·exact hk.elim
 ·exact hk.elim
 rename_i hid
 split at hk
 ·
  rename_i t
  split at hk
  ·rename_i d hd;obtain ⟨z,h1,h2,h3⟩:=zero_rel (σ:=σ) (tok _ _ hd) w;obtain ⟨ep,σ',m,hv⟩:=alloc_one (w':={ w with heap:=w.heap.push (.cells z.cells t) }) s id h3 rfl ⟨rfl,rfl,rfl⟩;have hl:d.zero.length=d.size:=by have:=h3.1.1;simp at this;omega
   rw [hl] at hv;exact ⟨_,_,σ',_,_,by simp [execOp,Instr.alloc,h1,newVar,newRow],m,hv,hk ep⟩
  ·exact hk.elim
 ·
  rename_i t x
  split at hk
  ·rename_i d cs hd hcs
   split at hk
   ·rename_i hl;obtain ⟨ep,σ',m,hv⟩:=alloc_one (w':={ w with heap:=w.heap.push (.cells (ρ x).cells t) }) s id ((hr x).cells hcs) rfl ⟨rfl,rfl,rfl⟩;rw [hl] at hv;exact ⟨_,_,σ',_,_,by simp [execOp,Instr.box,newVar,newRow],m,hv,hk ep⟩
   ·exact hk.elim
  ·exact hk.elim
 ·
  rename_i t len parts
  split at hk
  ·rename_i e e1;obtain ⟨dt,hdt,hkt⟩:=kindOf_some e1;have hu:=(tok _ _ hdt).slice hkt
   split at hk
   ·rename_i d hd
    split at hk
    ·exact hk.elim
    ·rename_i hns;have hns1:¬(len * d.size>2 ^ 24):=fun hh=>hns (.inl hh);have hns2:d.size≠0:=fun hh=>hns (.inr hh);obtain ⟨z,hz1,hz2,hz3⟩:=zero_rel (σ:=σ) (tok _ _ hd) w;have hm:=made_rel (σ:=σ) (tok _ _ hd) w hz1 len hns2;have hparts:∀(i:Nat) (p:Nat×AV) (q:Nat×Value),(parts.toList.map fun p=>(p.1,ev p.2))[i]? =some p→(parts.toList.map fun p=>(p.1,ρ p.2))[i]? =some q→p.1=q.1∧VRel σ p.2 q.2:=by
      intro i p q x y;simp only [List.getElem?_map,Option.map_eq_some_iff] at x y;obtain ⟨o,h1,rfl⟩:=x;obtain ⟨o',h2,rfl⟩:=y;rw [h1] at h2;cases h2;exact ⟨rfl,hr _⟩
     have hpl:(parts.map fun x=>match x with|(i,x)=>(i,ρ x)).toList=parts.toList.map fun p=>(p.1,ρ p.2):=by simp
     obtain ⟨cs',h1,cells',h2,h3,h4⟩:=fill_sound _ (parts.toList.map fun p=>(p.1,ρ p.2)) _ _ _ _ (fillK_length _ _ _ _ hk) hm (by simp) hparts;rw [zeros_flat (tok _ _ hd)] at h3;have hcl:cells'.length=cs'.size:=by have:=h2.1.1;simpa using this
     obtain ⟨ep,σ',m,hp⟩:=s.allocRows (w':={ w with heap:=w.heap.push (.cells cs' e) }) id (chunks d.size len cells') d.size cs' e (fun i row hh=>chunks_row h3 hh) (by simp [chunks];omega)
      (fun i j c hc=>by
       obtain ⟨a1,a2,a3⟩:=chunks_cell hc;have hlt:=(List.getElem?_eq_some_iff.1 a3).1;exact ⟨cs'[i * d.size+j]'(by omega),by simp,h2.2 _ (by simp),h2.1.2 _ c _ a3 (by simp)⟩) rfl ⟨rfl,rfl,rfl⟩
     have hcl2:(chunks d.size len cells').length=len:=by simp [chunks]
     refine ⟨.slice (some ⟨w.heap.size,0,none⟩) len len,_,σ',_,_,?_,m,?_,h4 ep⟩
     ·have hzz:(if len * d.size=0 then pure #[] else do pure (←zeroValue e).cells:Sem (Array Value)).run P w= .ok (if len * d.size=0 then #[] else z.cells) w:=by
       split<;>simp [hz1]
      by_cases h0:len * d.size=0
      ·have hl0:len=0:=by
        rcases Nat.mul_eq_zero.1 h0 with h|h
        ·exact h
        ·exact absurd h hns2
       subst hl0;have h1':Instr.fill (fun i=>some (i * d.size,d.size)) (Array.map (fun x=>(#[]:Array Value)[x % (#[]:Array Value).size]!) (Array.range 0)) (parts.toList.map fun p=>(p.1,ρ p.2))=some cs':=by
        rw [←h1]
        congr 1
        apply Array.ext'
        simp [Array.toList_range]
       simp only [execOp,Instr.buildSlice,Sem.run_bind,run_und hu,Result.andThen_ok,(tok _ _ hd).run_sizeOf,h0,show ¬(0>2 ^ 24) from by decide,if_false,if_true,Sem.run_pure,pure_bind,hpl,h1',newRow,run_newObj]
      ·simp only [execOp,Instr.buildSlice,Sem.run_bind,run_und hu,Result.andThen_ok,(tok _ _ hd).run_sizeOf,hns1,if_false,h0,hz1,Sem.run_pure,pure_bind,hpl,h1,newRow,run_newObj]
     ·have:=VRel.oslc (σ:=σ') (lim:=false) (off:=0) (len:=len) (cap:=len) hp (by simp [hcl2]) (fun _=>by simp [hcl2]) (fun x=>by cases x) (by simp;omega) (Nat.le_refl _);simpa using this
   ·exact hk.elim
  ·exact hk.elim
 ·
  rename_i t l c;have hl:=hr l;have hc:=hr c
  split at hk
  ·rename_i e k1 n k2 mm e1 e2 e3;obtain ⟨dt,hdt,hkt⟩:=kindOf_some e1;have hu:=(tok _ _ hdt).slice hkt;rw [e2] at hl;rw [e3] at hc;have hvl:=toNat_int hl;have hvc:=toNat_int hc
   split at hk
   ·rename_i d hd;obtain ⟨⟨b1,b2,b3,b4⟩,hk⟩:=hk;obtain ⟨z,hz1,hz2,hz3⟩:=zero_rel (σ:=σ) (tok _ _ hd) w;obtain ⟨n,rfl⟩:=Int.eq_ofNat_of_zero_le b1;obtain ⟨mm,rfl⟩:=Int.eq_ofNat_of_zero_le (Int.le_trans b1 b2);obtain ⟨z',hz1',_,_,_,i,hi1,hi2,hi3,hi4⟩:=(tok _ _ hd).run_zero w;rw [hz1] at hz1';cases hz1';have hrun:=run_make (P:=P) w t e i z hu hi1 hi2 k1 k2 (n:Int) (mm:Int) b1 b2 (by rw [hi4];exact b3) b4;have hzl:d.zero.length=d.size:=by have:=hz3.1.1;simp at this;omega
    have hsize:(madeCells z.cells (mm * i.size)).size=mm * d.size:=by rw [size_madeCells,hi3]
    have hnm:n≤mm:=by omega
    have hmul:n * d.size≤mm * d.size:=Nat.mul_le_mul_right _ hnm;obtain ⟨ep,σ',m,hp⟩:=s.allocRows (w':=w.alloc (.cells (madeCells z.cells (mm * i.size)) e)) id (List.replicate n d.zero) d.size (madeCells z.cells (mm * i.size)) e
     (fun i row hh=>by
      have:=List.mem_of_getElem? hh;rw [(List.mem_replicate.1 this).2];exact hzl) (by simp [hsize];exact hmul)
     (fun i' j c hc=>by
      unfold cellAt at hc;cases hrow:(List.replicate n d.zero)[i']? with
      |none=>rw [hrow] at hc;cases hc
      |some row=>
       rw [hrow] at hc;have hi':i'<n:=by have:=(List.getElem?_eq_some_iff.1 hrow).1;simpa using this
       have:row=d.zero:=(List.mem_replicate.1 (List.mem_of_getElem? hrow)).2;subst this;simp only [Option.bind_some] at hc;have hj:j<d.size:=by have:=(List.getElem?_eq_some_iff.1 hc).1;omega
       have hpos:i' * d.size+j<mm * d.size:=by
        have:(i'+1) * d.size≤mm * d.size:=Nat.mul_le_mul_right _ (by omega);rw [Nat.succ_mul] at this;omega
       have hmod:(i' * d.size+j) % d.size=j:=by rw [Nat.mul_comm,Nat.mul_add_mod];exact Nat.mod_eq_of_lt hj
       have hjz:j<z.cells.size:=by omega
       refine ⟨z.cells[j],?_,hz3.2 _ (by simp),hz3.1.2 j c _ hc (by simp)⟩;unfold madeCells;rw [hi3];simp only [Array.getElem?_map,Array.getElem?_range];rw [if_pos hpos];simp only [Option.map_some,hz2,hmod];rw [getElem!_pos z.cells j hjz]) rfl ⟨rfl,rfl,rfl⟩
    refine ⟨_,_,σ',_,_,by simp only [execOp,hvl,hvc,Sem.run_bind,hrun,Result.andThen_ok,Sem.run_pure];rfl,m,?_,hk ep⟩;have:=VRel.oslc (σ:=σ') (lim:=false) (off:=0) (len:=n) (cap:=mm) hp (by simp) (fun _=>by simp;omega) (fun x=>by cases x) (by rw [hsize];simp) hnm;simpa using this
   ·exact hk.elim
  ·exact hk.elim
 ·
  rename_i t;obtain ⟨ep,σ',m,hp⟩:=s.alloc (w':={ w with heap:=w.heap.push (.map #[] 0) }) id (.map #[] 0) 0 0 0 0 (fun ep=>.map ep []) (fun _=>rfl) rfl ⟨rfl,rfl,rfl⟩ (fun ep σ' hle hρ hFM=>
   ⟨w.heap.size,0,0,0,0,#[],0,hρ,by simp,by rw [hFM];exact s.newFM,⟨rfl,bornOk_nil _⟩,fun i k v e hh=>by simp at hh⟩)
  exact ⟨_,_,σ',_,_,by simp [execOp,Instr.makeMap],m,.mp hp,hk ep⟩
 ·exact hk.elim
end
end Go.Ab

namespace Go.Ab
section
variable {P:Program} {ti:TI} {σ:Sg}
def over (off:Nat) (vs:List Value) (cs:Array Value):Array Value:=((cs.toList.take off)++vs++(cs.toList.drop (off+vs.length))).toArray
theorem over_get {off:Nat} {vs:List Value} {cs:Array Value} (h:off+vs.length≤cs.size) (k:Nat):
  (over off vs cs)[k]? =if k<off then cs[k]? else if k<off+vs.length then vs[k-off]? else cs[k]?:=by
 simp only [over,List.getElem?_toArray,List.append_assoc,List.getElem?_append,List.length_take,Array.length_toList,List.getElem?_take,List.getElem?_drop,Array.getElem?_toList];have hm:min off cs.size=off:=by omega
 rw [hm]
 split
 ·simp [*]
 ·split
  ·rw [if_pos (by omega)]
  ·rw [if_neg (by omega)]
   congr 1
   omega
theorem over_size {off:Nat} {vs:List Value} {cs:Array Value} (h:off+vs.length≤cs.size):(over off vs cs).size=cs.size:=by
 simp [over];omega
theorem run_storeCells' (blk:Nat) (T:TypeId):∀(vs:List Value) (i o:Nat) (cs:Array Value) (w:World),w.heap[blk]? =some (.cells cs T (0,0))→o+i+vs.length≤cs.size→(∀v∈vs,v.oneCell'=true)→
  ∃w',(storeCells ⟨blk,o,none⟩ vs i).run P w= .ok () w'∧SameOut w w'∧w'.heap.size=w.heap.size∧(∀b,b≠blk→w'.heap[b]? =w.heap[b]?)∧
   w'.heap[blk]? =some (.cells (over (o+i) vs cs) T (0,0)):=by
 intro vs
 induction vs with
 |nil=>
  intro i o cs w h hl hv;refine ⟨w,by simp [storeCells],.refl _,rfl,fun _ _=>rfl,?_⟩;rw [h]
  congr 2
  apply Array.ext'
  simp [over]
 |cons v vs ih=>
  intro i o cs w h hl hv;simp only [List.length_cons] at hl;have hlt:o+i<cs.size:=by omega
  have hc:w.cell? (Addr.add ⟨blk,o,none⟩ i)=some cs[o+i]:=by rw [add_mk,cell?_of h];simp
  have hf:w.frozen? (Addr.add ⟨blk,o,none⟩ i)=false:=by rw [add_mk,frozen?_of h]
  have hv1:v.oneCell'=true:=hv v (by simp)
  let w1:=w.setCell (Addr.add ⟨blk,o,none⟩ i) v
  have hw1:w1.heap[blk]? =some (.cells (cs.setIfInBounds (o+i) v) T (0,0)):=by
   show (w.setCell (Addr.add ⟨blk,o,none⟩ i) v).heap[blk]? =_;rw [add_mk];simp [World.setCell,Array.getElem?_modify,h]
  have hw2:∀b,b≠blk→w1.heap[b]? =w.heap[b]?:=fun b hb=>by
   show (w.setCell (Addr.add ⟨blk,o,none⟩ i) v).heap[b]? =_;rw [add_mk];simp [World.setCell,Array.getElem?_modify,Ne.symm hb]
  obtain ⟨w',h1,h2,h3,h4,h5⟩:=ih (i+1) o (cs.setIfInBounds (o+i) v) w1 hw1 (by simp;omega) (fun v hv'=>hv v (by simp [hv']));have hsz:w1.heap.size=w.heap.size:=by simp [w1,World.setCell]
  refine ⟨w',?_,⟨h2.os,h2.tape,h2.output⟩,h3.trans hsz,fun b hb=>(h4 b hb).trans (hw2 b hb),?_⟩
  ·simp only [storeCells,Sem.run_bind,run_store P w _ v .plain hv1,hc,hf,Bool.false_eq_true,if_false,Result.andThen_ok];exact h1
  ·rw [h5]
   congr 2
   apply Array.ext'
   apply List.ext_getElem?
   intro k;simp only [Array.getElem?_toList];rw [over_get (by simp;omega),over_get (by simp;omega)];simp only [List.length_cons];by_cases k1:k<o+i
   ·simp [k1,show k<o+(i+1) from by omega,Array.getElem?_setIfInBounds_ne (show o+i≠k from by omega)]
   ·by_cases k2:k=o+i
    ·subst k2;simp [show o+i<o+(i+1) from by omega,hlt,show o+i<o+i+(vs.length+1) from by omega]
    ·have k3:¬k<o+(i+1):=by omega
     simp only [k1,k3,if_false];rw [show k-(o+i)=(k-(o+(i+1)))+1 from by omega];simp only [List.getElem?_cons_succ,Array.getElem?_setIfInBounds_ne (show o+i≠k from by omega)];by_cases k4:k<o+(i+1)+vs.length
     ·rw [if_pos k4,if_pos (by omega)]
     ·rw [if_neg k4,if_neg (by omega)]
theorem ObjOk.over {h:Heap} {w w':World} {id:Id} {ep:Nat} {rows:List (List AV)} (rows':List (List AV)) {blk st sz n size:Nat} {cs':Array Value} {T:TypeId}
  (hp:σ.ρ id ep=some (.at blk st sz n size)) (hfm:σ.FM blk=none) (hw:w'.heap[blk]? =some (.cells cs' T (0,0))) (hs:cs'.size=size) (hn:n=rows'.length) (hle:st+n * sz≤size)
  (hrow:∀(i:Nat) (row:List AV),rows'[i]? =some row→row.length=sz)
  (hc:∀(i j:Nat) (c:AV),cellAt rows' i j=some c→∃v,cs'[st+i * sz+j]? =some v∧v.oneCell'=true∧VRel σ c v):ObjOk σ w' id (.vec ep rows'):=
 .inr ⟨blk,st,sz,n,size,cs',T,hp,hw,hs,hn,hle,hfm,hrow,hc⟩
theorem cellAt_get {rows:List (List AV)} {i j:Nat} {c:AV} (h:cellAt rows i j=some c):∃row,rows[i]? =some row∧row[j]? =some c:=by
 unfold cellAt at h;cases hr:rows[i]? with
 |none=>rw [hr] at h;cases h
 |some row=>rw [hr] at h;exact ⟨row,rfl,h⟩
theorem pos_lt {sz i j i':Nat} (hj:j<sz) (h:i<i'):i * sz+j<i' * sz:=by
 have:(i+1) * sz≤i' * sz:=Nat.mul_le_mul_right _ h;rw [Nat.succ_mul] at this;omega
theorem store_sound (tok:TOk P ti) {ev:Operand→AV} {ρ:Operand→Value} (hr:OpRel σ ev ρ) {h:Heap} {w:World} (s:Sim σ h w) (t:TypeId) (p v:Operand) {d:TD} {cs:List AV}
  (hd:ti t=some d) (hcs:(ev v).cells?=some cs) (hl:cs.length=d.size) {id:Id} {ep sz i off:Nat} (hp:ev p= .optr id ep sz i off) {rows:List (List AV)} (ho:h[id]? =some (.vec ep rows))
  {row:List AV} (hrow:rows[i]? =some row) (hle:off+d.size≤row.length):
  ∃w',(Instr.storeAt t (ρ p) (ρ v)).run P w= .ok () w'∧Mv σ h w σ (h.set id (.vec ep (rows.set i (row.take off++cs++row.drop (off+d.size))))) w':=by
 have hpp:=hr p;rw [hp] at hpp;generalize hpv:ρ p=u at hpp;have hv:=(hr v).cells hcs;cases hpp with
 | @optr _ _ _ _ _ _ blk st n size hh=>
  rcases s.obj id _ ho with ⟨rfl,_⟩|⟨blk',st',sz',n',size',cells,T,h1,h2,h3,h4,h5,h6,h7,h8⟩
  ·simp at hrow
  ·rw [hh] at h1;cases h1;have hi:i<rows.length:=(List.getElem?_eq_some_iff.1 hrow).1;have hrl:=h7 i row hrow;have hvl:(ρ v).cells.toList.length=d.size:=by rw [←hl];exact hv.1.1.symm
   have hpos:i * sz+sz≤n * sz:=by
    have:(i+1) * sz≤n * sz:=Nat.mul_le_mul_right _ (by omega)
    rwa [Nat.succ_mul] at this
   have hroom:st+i * sz+off+0+(ρ v).cells.toList.length≤cells.size:=by rw [hvl];omega
   obtain ⟨w',r1,r2,r3,r4,r5⟩:=run_storeCells' (P:=P) blk T (ρ v).cells.toList 0 (st+i * sz+off) cells w h2 hroom hv.2;have hsz:(ρ v).cells.size=d.size:=by simpa using hvl
   refine ⟨w',?_,?_⟩
   ·simp [Instr.storeAt,Instr.sureAddr,storeVar,(tok _ _ hd).run_sizeOf,hsz,r1]
   ·refine s.write (blk:=blk) ho (by simp [AObj.blk,hh]) (by simp [AObj.blk,hh]) r4 r3 r2 ?_;refine ObjOk.over (h:=h) (w:=w) (rows:=rows) _ hh h6 r5 (by rw [over_size (by simpa using hroom)];exact h3) (by simpa using h4) h5 ?_ ?_
    ·intro k r hk;by_cases hki:k=i
     ·subst hki;rw [List.getElem?_set_self hi] at hk;cases hk;simp;omega
     ·rw [List.getElem?_set_ne (Ne.symm hki)] at hk;exact h7 k r hk
    ·intro k j c hc;obtain ⟨r,hk,hj⟩:=cellAt_get hc;have hover:=over_get (off:=st+i * sz+off+0) (vs:=(ρ v).cells.toList) (cs:=cells) (by simpa using hroom);rw [Nat.add_zero] at hover r5 ⊢;by_cases hki:k=i
     ·subst hki;rw [List.getElem?_set_self hi] at hk;cases hk;rw [hover];by_cases c1:j<off
      ·rw [List.append_assoc,List.getElem?_append_left (by simp;omega),List.getElem?_take,if_pos c1] at hj;rw [if_pos (by omega)];exact h8 k j c (by simp [cellAt,hrow,hj])
      ·by_cases c2:j<off+d.size
       ·rw [List.append_assoc,List.getElem?_append_right (by simp;omega),List.getElem?_append_left (by simp;omega)] at hj;rw [if_neg (by omega),if_pos (by omega)];have hmin:min off row.length=off:=by omega
        simp only [List.length_take,hmin] at hj;rw [show st+k * sz+j-(st+k * sz+off)=j-off from by omega];have hlt:j-off<(ρ v).cells.toList.length:=by omega
        exact ⟨(ρ v).cells.toList[j-off],List.getElem?_eq_getElem hlt,hv.2 _ (List.getElem_mem hlt),hv.1.2 _ c _ hj (List.getElem?_eq_getElem hlt)⟩
       ·rw [List.getElem?_append_right (by simp;omega),List.getElem?_drop] at hj;rw [if_neg (by omega),if_neg (by omega)];have hmin:min off row.length=off:=by omega
        simp only [List.length_append,List.length_take,hmin,hl] at hj;rw [show off+d.size+(j-(off+d.size))=j from by omega] at hj;exact h8 k j c (by simp [cellAt,hrow,hj])
     ·rw [List.getElem?_set_ne (Ne.symm hki)] at hk;have hjl:j<sz:=by have:=h7 k r hk;have:=(List.getElem?_eq_some_iff.1 hj).1;omega
      have hkl:k<rows.length:=(List.getElem?_eq_some_iff.1 hk).1;obtain ⟨u,e1,e2⟩:=h8 k j c (by simp [cellAt,hk,hj]);refine ⟨u,?_,e2⟩;rw [hover]
      rcases Nat.lt_or_gt_of_ne hki with hlt|hgt
      ·have:=pos_lt hjl hlt;rw [if_pos (by omega)];exact e1
      ·have:i * sz+sz≤k * sz:=by
        have:(i+1) * sz≤k * sz:=Nat.mul_le_mul_right _ hgt
        rwa [Nat.succ_mul] at this
       rw [if_neg (by omega),if_neg (by omega)];exact e1
end
end Go.Ab

namespace Go.Ab
section
variable {P:Program} {ti:TI} {σ:Sg}
def Elems (σ:Sg) (w:World) (size:Nat) (v:Value) (new:List (List AV)):Prop:=
 (∀(i:Nat) (row:List AV),new[i]? =some row→row.length=size)∧
 ∃a cap,v= .slice a new.length cap∧new.length≤cap∧(a=none→new=[]∧cap=0)∧∃vs:List Value,CRels σ new.flatten vs∧vs.length=new.length * size∧
  ∀b,a=some b→∀(j:Nat) (v:Value),vs[j]? =some v→w.cell? (b.add j)=some v
theorem flatten_length {size:Nat}:∀{rows:List (List AV)},(∀(i:Nat) (row:List AV),rows[i]? =some row→row.length=size)→rows.flatten.length=rows.length * size
 | [],_=>by simp
 |r::rows,h=>by
  have h0:=h 0 r rfl;have ih:=flatten_length (rows:=rows) fun i row hr=>h (i+1) row (by simpa using hr);simp only [List.flatten_cons,List.length_append,List.length_cons,h0,ih,Nat.succ_mul];omega
theorem flatten_get {size:Nat}:∀{rows:List (List AV)},(∀(i:Nat) (row:List AV),rows[i]? =some row→row.length=size)→∀(i j:Nat),j<size→rows.flatten[i * size+j]? =cellAt rows i j
 | [],_,i,j,_=>by simp [cellAt]
 |r::rows,h,i,j,hj=>by
  have h0:=h 0 r rfl;have ih:=flatten_get (rows:=rows) fun i row hr=>h (i+1) row (by simpa using hr);simp only [List.flatten_cons];cases i with
  |zero=>rw [List.getElem?_append_left (by omega)];simp [cellAt]
  |succ i=>
   rw [List.getElem?_append_right (by rw [Nat.succ_mul];omega),show (i+1) * size+j-r.length=i * size+j from by rw [Nat.succ_mul];omega,ih i j hj];simp [cellAt]
theorem rows_vals {w:World} {b o size:Nat}:∀{rows:List (List AV)},(∀(i:Nat) (row:List AV),rows[i]? =some row→row.length=size∧RowAt σ w b (o+i * size) row)→
  ∃vs:List Value,CRels σ rows.flatten vs∧vs.length=rows.length * size∧∀(j:Nat) (v:Value),vs[j]? =some v→w.cell? (Addr.add ⟨b,o,none⟩ j)=some v:=by
 intro rows h;have hlen:=flatten_length fun i row hr=>(h i row hr).1;have hrow:RowAt σ w b o rows.flatten:=by
  intro k c hk;have hkl:=(List.getElem?_eq_some_iff.1 hk).1
  rcases Nat.eq_zero_or_pos size with rfl|hs
  ·rw [hlen] at hkl;omega
  ·have hm:k % size<size:=Nat.mod_lt _ hs;have e:k=k / size * size+k % size:=by rw [Nat.mul_comm];exact (Nat.div_add_mod k size).symm
   rw [e,flatten_get (fun i row hr=>(h i row hr).1) _ _ hm] at hk;obtain ⟨row,h1,h2⟩:=cellAt_get hk;obtain ⟨v,h3⟩:=(h _ row h1).2 _ c h2;refine ⟨v,?_⟩
   rwa [show o+k / size * size+k % size=o+k from by rw [Nat.add_assoc,←e]] at h3
 obtain ⟨vs,h1,h2⟩:=hrow.vals;exact ⟨vs,h1,by rw [←hlen];exact h1.1.1.symm,h2⟩
theorem get_drop_take {α:Type} {l:List α} {off n i:Nat} {x:α} (h:((l.drop off).take n)[i]? =some x):i<n∧l[off+i]? =some x:=by
 rw [List.getElem?_take] at h
 split at h
 ·rw [List.getElem?_drop] at h;exact ⟨by assumption,h⟩
 ·cases h
theorem elems_obj {h:Heap} {w:World} (s:Sim σ h w) {id:Id} {ep sz off len:Nat} {lim:Bool} {v:Value} {rows:List (List AV)} (hx:VRel σ (.oslc id ep sz off len lim) v) (ho:h[id]? =some (.vec ep rows)):
  Elems σ w sz v ((rows.drop off).take len):=by
 cases hx with
 | @oslc _ _ _ _ _ _ _ blk st n size cap hh h1 h2 h3 h4 h5=>
  have hn:n=rows.length∧∀(i:Nat) (row:List AV),rows[i]? =some row→row.length=sz:=by
   rcases s.obj id _ ho with ⟨_,e⟩|⟨blk',st',sz',n',size',cs,T,e1,e2,e3,e4,e5,e6,e7,e8⟩
   ·rw [hh] at e;cases e
   ·rw [hh] at e1;cases e1;exact ⟨e4,e7⟩
  have hl:((rows.drop off).take len).length=len:=by simp;omega
  have hrows:∀(i:Nat) (row:List AV),((rows.drop off).take len)[i]? =some row→row.length=sz∧RowAt σ w blk (st+off * sz+i * sz) row:=by
   intro i row hr;obtain ⟨a1,a2⟩:=get_drop_take hr;obtain ⟨b1,b2⟩:=rowAt_obj s ho a2 hh;refine ⟨b2,?_⟩;rw [Nat.add_mul,←Nat.add_assoc] at b1;exact b1
  obtain ⟨vs,c1,c2,c3⟩:=rows_vals hrows;exact ⟨fun i row hr=>(hrows i row hr).1,_,cap,by rw [hl],by rw [hl];exact h5,fun x=>(by cases x),vs,c1,c2,fun b e j v hv=>by cases e;exact c3 j v hv⟩
 |onil hh=>exact ⟨fun i row hr=>by simp at hr,none,0,by simp,by simp,fun _=>⟨by simp,rfl⟩,[],⟨⟨by simp,fun i a v x=>by simp at x⟩,by simp⟩,by simp,fun b e j v hv=>by simp at hv⟩
 | @onilz _ _ _ _ _ a hh=>exact ⟨fun i row hr=>by simp at hr,some a,0,by simp,by simp,fun x=>(by cases x),[],⟨⟨by simp,fun i a v x=>by simp at x⟩,by simp⟩,by simp,fun b e j v hv=>by simp at hv⟩
 | @oz _ _ _ _ _ _ _ _ _ _ a hh h1 h2=>exact ⟨fun i row hr=>by simp at hr,some a,0,by simp,by simp,fun x=>(by cases x),[],⟨⟨by simp,fun i a v x=>by simp at x⟩,by simp⟩,by simp,fun b e j v hv=>by simp at hv⟩
theorem elems_lit {h:Heap} {w:World} (s:Sim σ h w) {sz off len:Nat} {lim:Bool} {v:Value} {rows:List (List AV)} (hx:VRel σ (.lslc sz rows off len lim) v):
  Elems σ w sz v ((rows.drop off).take len):=by
 cases hx with
 | @lslc _ _ _ _ _ _ blk st cap g hw hc ho hv h1 h3 h5=>
  have hl:((rows.drop off).take len).length=len:=by simp;omega
  have hrows:∀(i:Nat) (row:List AV),((rows.drop off).take len)[i]? =some row→row.length=sz∧RowAt σ w blk (st+off * sz+i * sz) row:=by
   intro i row hr;obtain ⟨a1,a2⟩:=get_drop_take hr;refine ⟨hw _ row a2,?_⟩;have:=rowAt_lit s hc ho hv a2;rw [Nat.add_mul,←Nat.add_assoc] at this;exact this
  obtain ⟨vs,c1,c2,c3⟩:=rows_vals hrows;exact ⟨fun i row hr=>(hrows i row hr).1,_,cap,by rw [hl],by rw [hl];exact h5,fun x=>(by cases x),vs,c1,c2,fun b e j v hv=>by cases e;exact c3 j v hv⟩
 |lnil=>exact ⟨fun i row hr=>by simp at hr,none,0,by simp,by simp,fun _=>⟨by simp,rfl⟩,[],⟨⟨by simp,fun i a v x=>by simp at x⟩,by simp⟩,by simp,fun b e j v hv=>by simp at hv⟩
 | @lz _ _ _ _ _ a=>exact ⟨fun i row hr=>by simp at hr,some a,0,by simp,by simp,fun x=>(by cases x),[],⟨⟨by simp,fun i a v x=>by simp at x⟩,by simp⟩,by simp,fun b e j v hv=>by simp at hv⟩
theorem elems_of {h:Heap} {w:World} (s:Sim σ h w) {size:Nat} {x:AV} {v:Value} (hx:VRel σ x v) {K:List (List AV)→Prop} (hk:elemsOf h size x K):∃new,K new∧Elems σ w size v new:=by
 unfold elemsOf at hk
 split at hk
 ·split at hk
  ·rename_i e;subst e
   split at hk
   ·rename_i ep' rows ho;obtain ⟨rfl,hk⟩:=hk;exact ⟨_,hk,elems_obj s hx ho⟩
   ·exact hk.elim
  ·exact hk.elim
 ·split at hk
  ·rename_i e;subst e;exact ⟨_,hk,elems_lit s hx⟩
  ·exact hk.elim
 ·cases hx;exact ⟨[],hk,fun i row hr=>by simp at hr,none,0,rfl,by simp,fun _=>⟨rfl,rfl⟩,[],⟨⟨by simp,fun i a v x=>by simp at x⟩,by simp⟩,by simp,fun b e j v hv=>by simp at hv⟩
 ·exact hk.elim
theorem Elems.first {w w':World} (hw:w'.heap=w.heap) {size:Nat} {v:Value} {new:List (List AV)} (h:Elems σ w size v new):
  ∃a cap vs,v= .slice a new.length cap∧new.length≤cap∧(a=none→new=[]∧cap=0)∧CRels σ new.flatten vs∧vs.length=new.length * size∧(Builtin.firstCells size new.length v).run P w'= .ok vs.toArray w'∧
   (Builtin.firstCells size new.length v).run P w= .ok vs.toArray w:=by
 obtain ⟨h0,a,cap,rfl,h1,h2,vs,h3,h4,h5⟩:=h;have hc:∀b,w'.cell? b=w.cell? b:=fun b=>by simp [World.cell?,hw]
 refine ⟨a,cap,vs,rfl,h1,h2,h3,h4,?_,?_⟩
 ·cases a with
  |none=>
   obtain ⟨rfl,_⟩:=h2 rfl;have:vs=[]:=List.eq_nil_of_length_eq_zero (by simpa using h4);subst this;exact run_firstCells_none _ _ _ _ _
  |some b=>exact run_firstCells_some _ _ _ b _ _ vs h4 fun j v hv=>by rw [hc];exact h5 b rfl j v hv
 ·cases a with
  |none=>
   obtain ⟨rfl,_⟩:=h2 rfl;have:vs=[]:=List.eq_nil_of_length_eq_zero (by simpa using h4);subst this;exact run_firstCells_none _ _ _ _ _
  |some b=>exact run_firstCells_some _ _ _ b _ _ vs h4 fun j v hv=>h5 b rfl j v hv
theorem rows_in {rows:List (List AV)} {size:Nat} {vs:List Value} (hs:size≠0) (hrow:∀(i:Nat) (row:List AV),rows[i]? =some row→row.length=size) (h:CRels σ rows.flatten vs) (i j:Nat) (c:AV) (hc:cellAt rows i j=some c):
  ∃v,vs[i * size+j]? =some v∧v.oneCell'=true∧VRel σ c v:=by
 obtain ⟨row,h1,h2⟩:=cellAt_get hc;have hj:j<size:=by have:=hrow i row h1;have:=(List.getElem?_eq_some_iff.1 h2).1;omega
 have hf:rows.flatten[i * size+j]? =some c:=by rw [flatten_get hrow _ _ hj];exact hc
 have hlt:=(List.getElem?_eq_some_iff.1 hf).1;have hl:=h.1.1;exact ⟨vs[i * size+j]'(by omega),List.getElem?_eq_getElem (by omega),h.2 _ (List.getElem_mem _),h.1.2 _ c _ hf (List.getElem?_eq_getElem (by omega))⟩
theorem run_append_realloc {argTypes:Array TypeId} {ty t t2 e e2:Nat} {d:TD} {w:World} (h0:argTypes[0]? =some t) (h1:argTypes[1]? =some t2) (hu:P.underlying t=some (.slice e)) (hu2:P.underlying t2=some (.slice e2))
  (hd:DOk P e d) {base:Option Addr} {sLen sCap n c:Nat} {xa:Option Addr} (olds news:List Value)
  (ho:∀w':World,w'.heap=w.heap→(Builtin.firstCells d.size sLen (.slice base sLen sCap)).run P w'= .ok olds.toArray w')
  (hn:∀w':World,w'.heap=w.heap→(Builtin.firstCells d.size n (.slice xa n c)).run P w'= .ok news.toArray w')
  (hg:sCap<sLen+n) (hb:(sLen+n) * d.bytes≤140737488355328) (h63:sLen+n≤9223372036854775807):
  ∃w' newCap rest,(Builtin.append_ argTypes ty #[.slice base sLen sCap,.slice xa n c]).run P w= .ok (.slice (some ⟨w.heap.size,0,none⟩) (sLen+n) newCap) w'∧
   w'.heap=w.heap.push (.cells (olds.toArray++news.toArray++rest) e)∧SameOut w w'∧sLen+n≤newCap∧rest.size=(newCap-(sLen+n)) * d.size:=by
 obtain ⟨z,hz1,hz2,_,_,i,hi1,hi2,hi3,hi4⟩:=hd.run_zero w;have hfit:=growslice_fits (need:=sLen+n) (old:=sCap) (bytes:=d.bytes) hg hb;have hn1:¬(sLen+n≤sCap):=by omega
 have hn2:¬(9223372036854775807<((sLen:Int)+(n:Int))):=by omega
 have hn3:¬(281474976710656<Builtin.nextslicecap (sLen+n) sCap * d.bytes):=by omega
 let newCap:=(Question.appendCap (sLen+n) sCap e).cut (w.tape w.drawn (Question.appendCap (sLen+n) sCap e))
 have hcap:sLen+n≤newCap:=by simp only [newCap,Question.cut];omega
 refine ⟨w.drew.alloc (.cells (olds.toArray++news.toArray++Builtin.zeroCells z.cells (newCap-(sLen+n))) e),newCap,Builtin.zeroCells z.cells (newCap-(sLen+n)),?_,rfl,⟨rfl,rfl,rfl⟩,hcap,?_⟩
 ·have ho':=ho w.drew rfl;have hn':=hn w.drew rfl;simp [Builtin.append_,h0,h1,run_und hu,run_und hu2,hd.run_sizeOf,typeInfo,zeroValue,hi1,hi2,hi4,Builtin.lenOf,hn1,hn2,hn3,Question.forced,ho',hn',newRow,newCap]
  try (congr 2;apply Array.ext';simp [List.append_assoc])
 ·simp [Builtin.zeroCells,hz2]
end
end Go.Ab
