/-
  What is proved here serves the law's text: each part says its own claim and its conditions. No condition is left open.
-/
import Derived.Laws.Strings
import Derived.Test.YtohegnfjdfcebaaGreatDoorKC
set_option maxHeartbeats 32000000
set_option maxRecDepth 100000
set_option linter.unusedSimpArgs false
set_option linter.unusedVariables false

namespace Go.Ab
section
variable {P:Program} {ti:TI} {σ:Sg}
theorem mapM_structPlace (tok:TOk P ti) (l:List (Nat×Nat)) (fs:Array Field) (hl:fs.toList.map (fun f=>(f.offset,f.type))=l) (hall:∀f∈fs,∃d,ti f.type=some d) (w:World):
  ∃places:Array (Nat×Nat),(fs.mapM fun f=>(do pure (f.offset,←sizeOf f.type):Sem (Nat×Nat))).run P w= .ok places w∧∀i,places[i]? =structPlace ti l i:=by
 have gen:∀(gs:List Field),(∀f∈gs,∃d,ti f.type=some d)→(gs.mapM fun f=>(do pure (f.offset,←sizeOf f.type):Sem (Nat×Nat))).run P w=
   .ok (gs.map fun f=>(f.offset,(((ti f.type).map (·.size)).getD 0))) w:=by
  intro gs
  induction gs with
  |nil=>intro _;simp
  |cons f gs ih=>
   intro hg;obtain ⟨d,hd⟩:=hg f (by simp);have h1:=(tok _ _ hd).run_sizeOf w;have h2:=ih (fun f hf=>hg f (by simp [hf]));simp only [List.mapM_cons,Sem.run_bind,h1,Result.andThen_ok,Sem.run_pure,List.map_cons,hd,Option.map_some,Option.getD_some];simp only [Sem.run_bind,bind_pure_comp] at h2 ⊢;rw [h2];simp
 refine ⟨(fs.toList.map fun f=>(f.offset,(((ti f.type).map (·.size)).getD 0))).toArray,?_,fun i=>?_⟩
 ·rw [Array.mapM_eq_mapM_toList];have:=gen fs.toList (fun f hf=>hall f (by simpa using hf));rw [Sem.run_map,this];rfl
 ·subst hl;simp only [structPlace,List.getElem?_toArray,List.getElem?_map,Array.getElem?_toList];cases h:fs[i]? with
  |none=>rfl
  |some f=>
   obtain ⟨d,hd⟩:=hall f (Array.mem_of_getElem? h);simp [hd]
theorem ofVal_one {v:Value} {a:AV} (h:ofVal v=some a):v.oneCell'=true:=by
 unfold ofVal at h
 split at h<;>first|rfl|cases h
theorem zero_rel {t:Nat} {d:TD} (h:DOk P t d) (w:World):∃z,(zeroValue t).run P w= .ok z w∧z.cells.size=d.size∧CRels σ d.zero z.cells.toList:=by
 obtain ⟨z,h1,h2,h3,h4,_⟩:=h.run_zero w;refine ⟨z,h1,h2,⟨by simp;omega,fun i a v x y=>?_⟩,fun v hv=>?_⟩;obtain ⟨v',h5,h6⟩:=h4 i a x;simp at y;rw [h5] at y;cases y;exact VRel.ofVal h6;obtain ⟨i,hi,rfl⟩:=List.getElem_of_mem hv;have hi':i<d.zero.length:=by simp at hi;omega
 obtain ⟨v',h5,h6⟩:=h4 i _ (List.getElem?_eq_getElem hi');simp at hi;rw [Array.getElem?_eq_getElem hi] at h5;cases h5;simp only [Array.getElem_toList];exact ofVal_one h6
theorem fieldPlace_run (tok:TOk P ti) {ft:Nat} {d:TD} (hd:ti ft=some d) (hne:d.size≠0) (f:Field) (hf:f.type=ft) (a:Addr) (w:World):
  (fieldPlace a f).run P w= .ok (a.add f.offset) w:=by
 subst hf;simp [fieldPlace,(tok _ _ hd).run_sizeOf,hne]
abbrev OpRel (σ:Sg) (ev:Operand→AV) (ρ:Operand→Value):Prop:=∀x,VRel σ (ev x) (ρ x)
theorem vrels_map {ev:Operand→AV} {ρ:Operand→Value} (hr:OpRel σ ev ρ) (l:List Operand):VRels σ (l.map ev) (l.map ρ):=by
 refine ⟨by simp,fun i a v x y=>?_⟩;simp only [List.getElem?_map,Option.map_eq_some_iff] at x y;obtain ⟨o,h1,rfl⟩:=x;obtain ⟨o',h2,rfl⟩:=y;rw [h1] at h2;cases h2;exact hr o
theorem run_v {s:Sem Value} {w:World} {K:AV→Prop} (h:PRun P σ w s K):∃v r,(do pure (Next.value (←s)):Sem Next).run P w= .ok (.value v) w∧VRel σ r v∧K r:=by
 obtain ⟨v,r,h1,h2,h3⟩:=h;exact ⟨v,r,by simp [h1],h2,h3⟩
theorem indexAt_slice {t e:Nat} {d:TD} (tok:TOk P ti) (hu:P.underlying t=some (.slice e)) (hd:ti e=some d) {x:AV} {u:Value} {k:IntKind} {n:Int} (hx:VRel σ x u)
  {K:AV→Prop} (h:idxK d.size n K x) (w:World):PRun P σ w (Instr.indexAt t u (.int k n)) K:=by
 unfold idxK at h;have ha:∀(b st off i sz:Nat),Addr.add ⟨b,st+off * sz,none⟩ (i * sz)=⟨b,st+(off+i) * sz+0,none⟩:=fun b st off i sz=>by
  unfold Addr.add
  split
  ·rename_i e;rw [Nat.add_mul,e];rfl
  ·simp [Nat.add_mul,Nat.add_assoc]
 have hrun:∀(a:Addr) (len cap:Nat),0≤n→n<len→(Instr.indexAt t (.slice (some a) len cap) (.int k n)).run P w= .ok (.pointer (some (a.add (n.toNat * d.size)))) w:=fun a len cap h1 h2=>by
  simp [Instr.indexAt,asIntOf,run_und hu,h1,h2,(tok _ _ hd).run_sizeOf]
 split at h
 ·rename_i id ep sz off len lim
  split at h
  ·rename_i e;subst e;obtain ⟨⟨h1,h2⟩,h⟩:=h;cases hx with
   |oslc hh b1 b2 b3 b4 b5=>
    refine ⟨_,_,hrun _ _ _ h1 h2,?_,h⟩;rw [ha];exact .optr hh
   |onil=>omega
   |onilz=>omega
   |oz=>omega
  ·exact h.elim
 ·rename_i sz rows off len lim
  split at h
  ·rename_i e;subst e;obtain ⟨⟨h1,h2⟩,h⟩:=h;cases hx with
   |lslc g hw hc ho hv b1 b3 b5=>
    refine ⟨_,_,hrun _ _ _ h1 h2,?_,h⟩;rw [ha];exact .lptr g hw hc ho hv
   |lnil=>omega
   |lz=>omega
  ·exact h.elim
 ·exact h.elim
theorem pure_sound (tok:TOk P ti) {ev:Operand→AV} {ρ:Operand→Value} (hr:OpRel σ ev ρ) (o:Oper) {K:AV→Prop} (h:pureK ti ev o.op K) (w:World):
  ∃v r,(execOp ρ o).run P w= .ok (.value v) w∧VRel σ r v∧K r:=by
 obtain ⟨dst,op,type,pos,after,guard⟩:=o;simp only at h;unfold pureK at h
 split at h
 ·exact ⟨_,_,by simp [execOp],hr _,h⟩
 ·exact ⟨_,_,by simp [execOp],hr _,h⟩
 ·
  rename_i c a b;have hc:=hr c
  split at h
  ·rename_i t e;rw [e] at hc;generalize hc':ρ c=vc at hc;cases hc
   split at h
   ·exact ⟨_,_,by simp [execOp,hc',asBool],hr a,h⟩
   ·exact ⟨_,_,by simp [execOp,hc',asBool],hr b,h⟩
  ·exact h.elim
 ·
  rename_i x;have hx:=hr x
  split at h
  ·rename_i hp;generalize hv:ρ x=u at hx;generalize hev:ev x=a at *;cases hx with
   |optr hh=>refine ⟨_,_,?_,VRel.optr hh,h⟩;simp [execOp,hv]
   |lptr g hw hc ho hv'=>refine ⟨_,_,?_,VRel.lptr g hw hc ho hv',h⟩;simp [execOp,hv]
   |_=>simp [isPtr] at hp
  ·split at h
   ·rename_i f a b e;rw [e] at hx;generalize hv:ρ x=u at hx;cases hx with
    |fn l1 l2 v1 v2=>refine ⟨_,_,?_,VRel.fn l1 l2 v1 v2,h⟩;simp [execOp,hv]
   ·exact h.elim
 ·
  exact run_v (bin_sound tok h w _ _ (hr _) (hr _))
 ·exact run_v (un_sound h w (hr _))
 ·
  rename_i s d x;have hx:=hr x
  split at h
  ·rename_i k1 k q n e1 e2 e3;obtain ⟨d1,hd1,hk1⟩:=kindOf_some e1;obtain ⟨d2,hd2,hk2⟩:=kindOf_some e2;rw [e3] at hx;generalize hv:ρ x=u at hx;cases hx;exact run_v ⟨_,_,by simp [hv,convert,run_und ((tok _ _ hd1).int hk1),run_und ((tok _ _ hd2).int hk2),Conv.intToInt],.int,h⟩
  ·exact h.elim
 ·
  rename_i t x f
  split at h
  ·rename_i fs e;obtain ⟨d,hd,hk⟩:=kindOf_some e;obtain ⟨fls,hu,hf⟩:=(tok _ _ hd).struct hk
   split at h
   ·rename_i off ft e2
    split at h
    ·rename_i de hde
     split at h
     ·exact h.elim
     ·rename_i hne;obtain ⟨a,ha,r,h1,h2⟩:=aOff_sound h (hr x);have hff:∃fl,fls[f]? =some fl∧fl.offset=off∧fl.type=ft:=by
       rw [←hf] at e2;simp only [List.getElem?_map,Option.map_eq_some_iff,Array.getElem?_toList,Prod.mk.injEq] at e2;exact e2
      obtain ⟨fl,hfl,rfl,rfl⟩:=hff;exact run_v ⟨_,_,by simp [Instr.fieldAt,run_und hu,hfl,ha,Instr.sureAddr,fieldPlace_run tok hde hne fl rfl],h1,h2⟩
    ·exact h.elim
   ·exact h.elim
  ·exact h.elim
 ·
  rename_i t x f
  split at h
  ·rename_i fs cs e e0;obtain ⟨d,hd,hk⟩:=kindOf_some e;obtain ⟨fls,hu,hf⟩:=(tok _ _ hd).struct hk;obtain ⟨vs,hvs,hrel⟩:=part_cells (hr x) e0
   split at h
   ·rename_i off ft e2;have hff:∃fl,fls[f]? =some fl∧fl.offset=off∧fl.type=ft:=by
     rw [←hf] at e2;simp only [List.getElem?_map,Option.map_eq_some_iff,Array.getElem?_toList,Prod.mk.injEq] at e2;exact e2
    obtain ⟨fl,hfl,rfl,rfl⟩:=hff
    split at h
    ·rename_i de hde
     split at h
     ·rename_i v hv;obtain ⟨v',h1,h2⟩:=run_part (tok _ _ hde) hrel hv w;exact run_v ⟨v',v,by simp [Instr.field,run_und hu,hfl,hvs,asAgg,h1],h2,h⟩
     ·exact h.elim
    ·exact h.elim
   ·exact h.elim
  ·exact h.elim
 ·
  rename_i t x i;have hi:=hr i
  split at h
  ·rename_i e k n e1 e2;obtain ⟨d,hd,hk⟩:=kindOf_some e1;have hu:=(tok _ _ hd).slice hk;rw [e2] at hi;generalize hvi:ρ i=vi at hi;cases hi
   split at h
   ·rename_i de hde;have:=indexAt_slice (k:=k) tok hu hde (hr x) h w;refine run_v ?_;rw [hvi];exact this
   ·exact h.elim
  ·rename_i m e k n e1 e2;obtain ⟨d,hd,hk⟩:=kindOf_some e1;have hu:=(tok _ _ hd).arr hk;rw [e2] at hi;generalize hvi:ρ i=vi at hi;cases hi
   split at h
   ·rename_i de hde;obtain ⟨⟨h1,h2⟩,h⟩:=h;obtain ⟨a,ha,r,h3,h4⟩:=aOff_sound h (hr x);refine run_v ⟨_,_,?_,h3,h4⟩;simp [Instr.indexAt,hvi,ha,asIntOf,run_und hu,Instr.sureAddr,h1,h2,(tok _ _ hde).run_sizeOf]
   ·exact h.elim
  ·exact h.elim
 ·
  rename_i t x i;have hi:=hr i
  split at h
  ·rename_i m e cs k n e1 e2 e3;obtain ⟨d,hd,hk⟩:=kindOf_some e1;have hu:=(tok _ _ hd).arr hk;rw [e3] at hi;generalize hvi:ρ i=vi at hi;cases hi;obtain ⟨vs,hvs,hrel⟩:=part_cells (hr x) e2
   split at h
   ·rename_i de hde;obtain ⟨⟨h1,h2⟩,h⟩:=h
    split at h
    ·rename_i v hv;obtain ⟨v',h3,h4⟩:=run_part (tok _ _ hde) hrel hv w;exact run_v ⟨v',v,by simp [Instr.index,hvi,hvs,asIntOf,run_und hu,h1,h2,(tok _ _ hde).run_sizeOf,h3],h4,h⟩
    ·exact h.elim
   ·exact h.elim
  ·rename_i s k n e1 e2 e3;obtain ⟨d,hd,hk⟩:=kindOf_some e1;have hu:=(tok _ _ hd).str hk;have hx:=hr x;rw [e3] at hi;rw [e2] at hx;generalize hvi:ρ i=vi at hi;generalize hvx:ρ x=vx at hx;cases hi;cases hx;obtain ⟨h1,h⟩:=h;have hlt:n.toNat<s.length:=by omega
   have h1':0≤n∧n<((⟨s.toArray⟩:ByteArray).size:Int):=h1;refine run_v ⟨.int .u8 (nthB s n.toNat),_,?_,.int,h⟩;rw [hvx,hvi,run_index_string w t _ k n hu,dif_pos h1'];have e:(⟨s.toArray⟩:ByteArray)[n.toNat]'(by show n.toNat<s.length;exact hlt)=s.getD n.toNat 0:=by
    show s.toArray[n.toNat]=_;simp [List.getD,hlt]
   unfold nthB;rw [←e]
  ·exact h.elim
 ·
  rename_i x n;have hx:=hr x
  split at h
  ·rename_i vs e;rw [e] at hx;generalize hv:ρ x=u at hx;cases hx with
   | @tup _ _ ws l hh=>
    unfold extK at h
    split at h
    ·rename_i a ha;obtain ⟨v,hv2⟩:∃v,ws[n]? =some v:=by
      have:=(List.getElem?_eq_some_iff.1 ha).1;exact ⟨_,Array.getElem?_eq_getElem (by omega)⟩
     exact run_v ⟨v,a,by simp [hv,Instr.extract,hv2],hh n a v ha hv2,h⟩
    ·exact h.elim
  ·exact h.elim
 ·
  rename_i t x lo hi mx
  split at h
  ·rename_i e e1;obtain ⟨d,hd,hk⟩:=kindOf_some e1;have hu:=(tok _ _ hd).slice hk
   split at h
   ·rename_i de hde;have key:∀(sz:Nat),sz=de.size→((∃id ep off len lim,ev x= .oslc id ep sz off len lim)∨(∃rows off len lim,ev x= .lslc sz rows off len lim)∨ev x= .nils)→
      sliceK (ev x) (lo.map ev) (hi.map ev) (mx.map ev) K→PRun P σ w (Instr.sliceAt t (ρ x) (lo.map ρ) (hi.map ρ) (mx.map ρ)) K:=by
     intro sz hsz hsh h;subst hsz;have mm:∀(y:Option Operand),(∀a,y.map ev=some a→∃v,y.map ρ=some v∧VRel σ a v)∧(y.map ev=none→y.map ρ=none):=by
      intro y;cases y with
      |none=>simp
      |some y=>exact ⟨fun a ha=>⟨ρ y,rfl,by simp at ha;subst ha;exact hr y⟩,by simp⟩
     exact sliceK_sound hu (tok _ _ hde).run_sizeOf (hr x) hsh (mm lo).1 (mm lo).2 (mm hi).1 (mm hi).2 (mm mx).1 (mm mx).2 h w
    split at h
    ·rename_i e3;unfold slcSz at e3
     split at e3
     ·rename_i e2;exact run_v (key _ (by simpa using e3) (.inl ⟨_,_,_,_,_,e2⟩) h)
     ·rename_i e2;exact run_v (key _ (by simpa using e3) (.inr (.inl ⟨_,_,_,_,e2⟩)) h)
     ·rename_i e2;exact run_v (key _ rfl (.inr (.inr e2)) h)
     ·cases e3
    ·exact h.elim
   ·exact h.elim
  ·rename_i e1;obtain ⟨d,hd,hk⟩:=kindOf_some e1;have hu:=(tok _ _ hd).str hk
   split at h
   ·split at h
    ·rename_i s e2;have hx:=hr x;rw [e2] at hx;have mm:∀(y:Option Operand),(∀a,y.map ev=some a→∃v,y.map ρ=some v∧VRel σ a v)∧(y.map ev=none→y.map ρ=none):=by
      intro y;cases y with
      |none=>simp
      |some y=>exact ⟨fun a ha=>⟨ρ y,rfl,by simp at ha;subst ha;exact hr y⟩,by simp⟩
     generalize hvx:ρ x=vx at hx;cases hx;refine run_v ?_;rw [hvx];exact sliceStr_sound hu (mm lo).1 (mm lo).2 (mm hi).1 (mm hi).2 h w
    ·exact h.elim
   ·exact h.elim
  ·exact h.elim
 ·
  rename_i t parts;have hparts:∀(i:Nat) (p:Nat×AV) (q:Nat×Value),(parts.toList.map fun p=>(p.1,ev p.2))[i]? =some p→(parts.toList.map fun p=>(p.1,ρ p.2))[i]? =some q→p.1=q.1∧VRel σ p.2 q.2:=by
   intro i p q x y;simp only [List.getElem?_map,Option.map_eq_some_iff] at x y;obtain ⟨o,h1,rfl⟩:=x;obtain ⟨o',h2,rfl⟩:=y;rw [h1] at h2;cases h2;exact ⟨rfl,hr _⟩
  have hpl:(parts.map fun x=>match x with|(i,x)=>(i,ρ x)).toList=parts.toList.map fun p=>(p.1,ρ p.2):=by simp
  split at h
  ·rename_i d hd;obtain ⟨z,hz1,hz2,hz3⟩:=zero_rel (σ:=σ) (tok _ _ hd) w
   split at h
   ·rename_i fs hk;obtain ⟨fls,hu,hf⟩:=(tok _ _ hd).struct hk
    split at h
    ·exact h.elim
    ·rename_i hall;have hall':∀f∈fls,∃d,ti f.type=some d:=by
      intro f hfm;have:fs.all (fun f=>(ti f.2).isSome)=true:=by
        cases hb:fs.all (fun f=>(ti f.2).isSome) with
        |true=>rfl
        |false=>exact absurd hb hall
      rw [List.all_eq_true] at this;have:=this (f.offset,f.type) (by rw [←hf];exact List.mem_map.2 ⟨f,by simpa using hfm,rfl⟩);exact Option.isSome_iff_exists.1 this
     obtain ⟨places,hp1,hp2⟩:=mapM_structPlace tok fs fls hf hall' w;have hpe:(fun i=>places[i]?)=structPlace ti fs:=funext hp2;obtain ⟨cs',h1,cells',h2,h3⟩:=fill_sound _ (parts.toList.map fun p=>(p.1,ρ p.2)) _ _ z.cells _ h hz3 (by simp) hparts;refine run_v ⟨.agg cs',_,?_,.agg (by have:=h2.1.1;simpa using this) h2.2 (fun i c v x y=>h2.1.2 i c v x (by simpa using y)),h3⟩;unfold Instr.build;simp only [Sem.run_bind,hz1,Result.andThen_ok,run_und hu];have hp1':=hp1;simp only [bind_pure_comp] at hp1' ⊢;rw [hp1'];simp only [Result.andThen_ok,hpl,hpe,h1,Sem.run_pure]
   ·rename_i n e hk;have hu:=(tok _ _ hd).arr hk
    split at h
    ·rename_i de hde;obtain ⟨cs',h1,cells',h2,h3⟩:=fill_sound _ (parts.toList.map fun p=>(p.1,ρ p.2)) _ _ z.cells _ h hz3 (by simp) hparts;refine run_v ⟨.agg cs',_,?_,.agg (by have:=h2.1.1;simpa using this) h2.2 (fun i c v x y=>h2.1.2 i c v x (by simpa using y)),h3⟩;unfold Instr.build;simp only [Sem.run_bind,hz1,Result.andThen_ok,run_und hu,(tok _ _ hde).run_sizeOf,hpl,h1,Sem.run_pure]
    ·exact h.elim
   ·exact h.elim
  ·exact h.elim
 ·
  rename_i t x;have hx:=hr x
  split at h
  ·rename_i fs cs e1 e2;obtain ⟨d,hd,hk⟩:=kindOf_some e1;obtain ⟨fa,hu,_⟩:=(tok _ _ hd).struct hk;rw [e2] at hx;generalize hv:ρ x=u at hx
   split at h
   ·rename_i vs e3;cases hx with
    | @agg _ _ ws l o hh=>
     have e4:=toVals_rel e3 (us:=ws.toList) ⟨by simpa using l,fun i c v y z=>hh i c v y (by simpa using z)⟩;have e5:vs.toArray=ws:=by rw [←e4]
     refine run_v ⟨.iface t (.agg ws),_,?_,.ifc,e5 ▸ h⟩;simp [hv,Instr.makeInterface,run_und hu]
   ·exact h.elim
  ·exact h.elim
 ·
  rename_i fn first cap
  refine run_v ⟨.func fn (first.map ρ) (cap.map ρ),_,rfl,.fn (by simp) (by simp) (fun i c v x y=>?_) (fun i c v x y=>?_),h⟩
  ·exact (vrels_map hr first.toList).2 i c v x (by simpa using y)
  ·exact (vrels_map hr cap.toList).2 i c v x (by simpa using y)
 ·
  rename_i c;obtain ⟨callee,args,argTypes⟩:=c;simp only at h
  split at h
  ·rename_i x e2;have hargs:args= #[x]:=by apply Array.ext';simpa using e2
   subst hargs;have hx:=hr x;have hrun:∀n:Nat,(Builtin.len_ argTypes type #[ρ x]).run P w= .ok (goInt n) w→
     (execOp ρ ⟨dst,.call ⟨.builtin .len,#[x],argTypes⟩,type,pos,after,guard⟩).run P w= .ok (.value (.int .i64 n)) w:=by
    intro n hn;simp [execOp,resolve,invoke,builtin,hn,goInt]
   unfold kindOf0 at h;cases h0:argTypes[0]? with
   |none=>simp [h0] at h
   |some t=>
    simp only [h0] at h
    split at h
    ·rename_i e id ep sz off len lim e1 e2;obtain ⟨d,hd,hk⟩:=kindOf_some e1;rw [e2] at hx;refine ⟨_,_,hrun len ?_,.int,h⟩;obtain ⟨a,cap,hv⟩:∃a cap,ρ x= .slice a len cap:=by
      generalize ρ x=u at hx;cases hx<;>exact ⟨_,_,rfl⟩
     simp [Builtin.len_,h0,hv,run_und ((tok _ _ hd).slice hk)]
    ·rename_i e sz rows off len lim e1 e2;obtain ⟨d,hd,hk⟩:=kindOf_some e1;rw [e2] at hx;refine ⟨_,_,hrun len ?_,.int,h⟩;obtain ⟨a,cap,hv⟩:∃a cap,ρ x= .slice a len cap:=by
      generalize ρ x=u at hx;cases hx<;>exact ⟨_,_,rfl⟩
     simp [Builtin.len_,h0,hv,run_und ((tok _ _ hd).slice hk)]
    ·rename_i e e1 e2;obtain ⟨d,hd,hk⟩:=kindOf_some e1;rw [e2] at hx;refine ⟨_,_,hrun 0 ?_,.int,h⟩;generalize hv:ρ x=u at hx;cases hx;simp [Builtin.len_,h0,hv,run_und ((tok _ _ hd).slice hk)]
    ·rename_i n e e1;obtain ⟨d,hd,hk⟩:=kindOf_some e1;refine ⟨_,_,hrun n ?_,.int,h⟩;simp [Builtin.len_,h0,run_und ((tok _ _ hd).arr hk)]
    ·rename_i s e1 e2;obtain ⟨d,hd,hk⟩:=kindOf_some e1;rw [e2] at hx;refine ⟨_,_,hrun s.length ?_,.int,h⟩;generalize hv:ρ x=u at hx;cases hx;simp [Builtin.len_,h0,hv,run_und ((tok _ _ hd).str hk)];rfl
    ·exact h.elim
  ·rename_i x r e2;obtain ⟨v,y,h1,h2,h3⟩:=min_sound (P:=P) _ w _ _ (r.map ρ) (ρ x) h (hr x) (vrels_map hr r);have hargs:(args.map ρ).toList=ρ x::r.map ρ:=by simp [e2]
   exact ⟨v,y,by simp [execOp,resolve,invoke,builtin,Builtin.min_,hargs,e2,h1],h2,h3⟩
  ·rename_i x r e2;obtain ⟨v,y,h1,h2,h3⟩:=max_sound (P:=P) _ w _ _ (r.map ρ) (ρ x) h (hr x) (vrels_map hr r);have hargs:(args.map ρ).toList=ρ x::r.map ρ:=by simp [e2]
   exact ⟨v,y,by simp [execOp,resolve,invoke,builtin,Builtin.max_,hargs,e2,h1],h2,h3⟩
  ·exact h.elim
 ·exact h.elim
end
end Go.Ab

namespace Go.Ab
theorem blk_le {σ σ':Sg} {w:World} {id:Id} {o:AObj} (h:ObjOk σ w id o) (l:Sg.Le σ σ'):o.blk σ' id=o.blk σ id:=by
 cases o with
 |hole=>rfl
 |vec ep rows=>
  rcases h with ⟨_,h2⟩|⟨blk,st,sz,n,size,cs,T,h1,_⟩
  ·simp [AObj.blk,h2,l.ρ _ _ _ h2]
  ·simp [AObj.blk,h1,l.ρ _ _ _ h1]
 |map ep es=>
  obtain ⟨blk,st,sz,n,size,cs,T,h1,_⟩:=h;simp [AObj.blk,h1,l.ρ _ _ _ h1]
theorem ObjOk.keep {σ σ':Sg} {w w':World} {id:Id} {o:AObj} (h:ObjOk σ w id o) (l:Sg.Le σ σ') (hb:∀b,o.blk σ id=some b→w'.heap[b]? =w.heap[b]?∧σ'.FM b=none):ObjOk σ' w' id o:=by
 cases o with
 |hole=>trivial
 |vec ep rows=>
  rcases h with ⟨h1,h2⟩|⟨blk,st,sz,n,size,cs,T,h1,h2,h3,h4,h5,h6,h7,h8⟩
  ·exact .inl ⟨h1,l.ρ _ _ _ h2⟩
  ·obtain ⟨e1,e2⟩:=hb blk (by simp [AObj.blk,h1]);exact .inr ⟨blk,st,sz,n,size,cs,T,l.ρ _ _ _ h1,by rw [e1];exact h2,h3,h4,h5,e2,h7,fun i j c x=>let ⟨v,a,b,c⟩:=h8 i j c x;⟨v,a,b,c.mono l⟩⟩
 |map ep es=>
  obtain ⟨blk,st,sz,n,size,cs,T,h1,h2,h3,h4,h5⟩:=h;obtain ⟨e1,e2⟩:=hb blk (by simp [AObj.blk,h1]);exact ⟨blk,st,sz,n,size,cs,T,l.ρ _ _ _ h1,by rw [e1];exact h2,e2,h4,fun i k v e x y=>let ⟨a,b⟩:=h5 i k v e x y;⟨a.mono l,b.mono l⟩⟩
structure SameOut (w w':World):Prop where
 os:w'.os=w.os
 tape:w'.tape=w.tape
 output:w'.output=w.output
theorem SameOut.refl (w:World):SameOut w w:=⟨rfl,rfl,rfl⟩
def AObj.epIs (ep:Nat):AObj→Prop
 | .vec e _| .map e _=>e=ep
 | .hole=>False
theorem blk_at {σ:Sg} {id:Id} {ep:Nat} {o:AObj} (h:o.epIs ep) {b st sz n size:Nat} (hr:σ.ρ id ep=some (.at b st sz n size)):o.blk σ id=some b:=by
 cases o<;>simp only [AObj.epIs] at h<;>first|(subst h;simp [AObj.blk,hr])|exact h.elim
theorem Sim.alloc {σ:Sg} {h:Heap} {w w':World} (s:Sim σ h w) (id:Id) (X:Obj) (st sz n size:Nat) (mk:Nat→AObj) (hmk:∀ep,(mk ep).epIs ep)
  (hw:w'.heap=w.heap.push X) (ho:SameOut w w')
  (hok:∀ep σ',Sg.Le σ σ'→σ'.ρ id ep=some (.at w.heap.size st sz n size)→σ'.FM=σ.FM→ObjOk σ' w' id (mk ep)):
  ∃ep σ',Mv σ h w σ' (h.set id (mk ep)) w'∧σ'.ρ id ep=some (.at w.heap.size st sz n size):=by
 obtain ⟨e0,he0⟩:=s.fresh
 let σ':Sg:={ ρ:=fun i e=>if i=id∧e=e0 then some (.at w.heap.size st sz n size) else σ.ρ i e,FM:=σ.FM,RM:=σ.RM }
 have hle:Sg.Le σ σ':=by
  refine ⟨fun i e pl hp=>?_,fun _ _ x=>x,fun _ _ x=>x⟩;show (if i=id∧e=e0 then _ else σ.ρ i e)=_;rw [if_neg]
  ·exact hp
  ·rintro ⟨rfl,rfl⟩;rw [he0 _ e (Nat.le_refl _)] at hp;cases hp
 have hnew:σ'.ρ id e0=some (.at w.heap.size st sz n size):=by show (if id=id∧e0=e0 then _ else _)=_;simp
 have hold:∀b,b<w.heap.size→w'.heap[b]? =w.heap[b]?:=fun b hb=>by rw [hw,Array.getElem?_push];simp [show b≠w.heap.size from by omega]
 have hother:∀(i:Id) (o:AObj),i≠id→(h.set id (mk e0))[i]? =some o→h[i]? =some o:=fun i o hi ho=>by
  rw [Heap.getElem?_set_ne (Ne.symm hi)] at ho;exact ho
 have hthis:∀(o:AObj),(h.set id (mk e0))[id]? =some o→o=mk e0:=fun o ho=>by
  rw [Heap.getElem?_set_self'] at ho;cases hh:h[id]? with
  |none=>simp [hh] at ho
  |some x=>simpa [hh] using ho.symm
 have hblk:∀(i:Id) (o:AObj) (b:Nat),i≠id→h[i]? =some o→o.blk σ' i=some b→o.blk σ i=some b∧b<w.heap.size:=fun i o b hi ho hb=>by
  rw [blk_le (s.obj i o ho) hle] at hb;exact ⟨hb,Live.lt s ⟨i,o,ho,hb⟩⟩
 have hblkn:(mk e0).blk σ' id=some w.heap.size:=blk_at (hmk e0) hnew;refine ⟨e0,σ',⟨hle,⟨?_,?_,?_,?_,fun b o x=>let ⟨r1,r2⟩:=s.rm b o x;⟨by rw [hold b (Array.getElem?_eq_some_iff.1 r1).1];exact r1,r2⟩,fun p hp=>hle.FM _ _ (s.gl p hp)⟩,ho.os,ho.tape,ho.output,by rw [hw];simp,fun b hb _=>hold b hb,?_,fun _ x=>.inl x⟩,hnew⟩
 ·intro b cs hb;obtain ⟨T,fz,hx⟩:=s.fm b cs hb;exact ⟨T,fz,by rw [hold b (Array.getElem?_eq_some_iff.1 hx).1];exact hx⟩
 ·intro i o ho;by_cases hi:i=id
  ·subst hi;rw [hthis o ho];exact hok e0 σ' hle hnew rfl
  ·have h1:=hother i o hi ho;refine (s.obj i o h1).keep hle fun b hb=>?_;have hl:Live σ h b:=⟨i,o,h1,hb⟩;exact ⟨hold b (Live.lt s hl),Live.noFM s hl⟩
 ·intro i j oi oj b hi hj bi bj;by_cases e1:i=id
  ·by_cases e2:j=id
   ·rw [e1,e2]
   ·subst e1;rw [hthis oi hi,hblkn] at bi;cases bi;have:=(hblk j oj _ e2 (hother j oj e2 hj) bj).2;omega
  ·by_cases e2:j=id
   ·subst e2;rw [hthis oj hj,hblkn] at bj;cases bj;have:=(hblk i oi _ e1 (hother i oi e1 hi) bi).2;omega
   ·exact s.apart i j oi oj b (hother i oi e1 hi) (hother j oj e2 hj) (hblk i oi b e1 (hother i oi e1 hi) bi).1 (hblk j oj b e2 (hother j oj e2 hj) bj).1
 ·refine ⟨e0+1,fun i ep hep=>?_⟩;show (if i=id∧ep=e0 then _ else σ.ρ i ep)=none;rw [if_neg (fun x=>absurd x.2 (by omega))];exact he0 i ep (by omega)
 ·rintro b ⟨i,o,ho,hb⟩;by_cases hi:i=id
  ·subst hi;rw [hthis o ho,hblkn] at hb;cases hb;exact .inr (Nat.le_refl _)
  ·obtain ⟨h1,_⟩:=hblk i o b hi (hother i o hi ho) hb;exact .inl ⟨i,o,hother i o hi ho,h1⟩
theorem Sim.write {σ:Sg} {h:Heap} {w w':World} (s:Sim σ h w) {id:Id} {o o':AObj} {blk:Nat} (ho:h[id]? =some o) (hb:o.blk σ id=some blk)
  (hb':o'.blk σ id=some blk)
  (hw:∀b,b≠blk→w'.heap[b]? =w.heap[b]?) (hsz:w'.heap.size=w.heap.size) (hso:SameOut w w') (hok:ObjOk σ w' id o'):
  Mv σ h w σ (h.set id o') w':=by
 have hlv:Live σ h blk:=⟨id,o,ho,hb⟩;have hother:∀(i:Id) (x:AObj),i≠id→(h.set id o')[i]? =some x→h[i]? =some x:=fun i x hi hx=>by
  rw [Heap.getElem?_set_ne (Ne.symm hi)] at hx;exact hx
 have hthis:∀(x:AObj),(h.set id o')[id]? =some x→x=o':=fun x hx=>by
  rw [Heap.get_some ho] at hx;exact (Option.some.inj hx).symm
 refine ⟨.refl _,⟨?_,?_,?_,s.fresh,fun b o x=>let ⟨r1,r2⟩:=s.rm b o x;⟨by rw [hw b (by rintro rfl;rw [Live.noRM s hlv] at x;cases x)];exact r1,r2⟩,s.gl⟩,hso.os,hso.tape,hso.output,by omega,?_,?_,fun _ x=>.inl x⟩
 ·intro b cs hf;obtain ⟨T,fz,hx⟩:=s.fm b cs hf;refine ⟨T,fz,?_⟩;rw [hw b]
  ·exact hx
  ·rintro rfl;rw [Live.noFM s hlv] at hf;cases hf
 ·intro i x hx;by_cases hi:i=id
  ·subst hi;rw [hthis x hx];exact hok
  ·have h1:=hother i x hi hx;refine (s.obj i x h1).keep (.refl _) fun b hbx=>?_;have hl:Live σ h b:=⟨i,x,h1,hbx⟩;refine ⟨hw b ?_,Live.noFM s hl⟩;rintro rfl;exact hi (s.apart i id x o b h1 ho hbx hb)
 ·intro i j oi oj b hi hj bi bj;by_cases e1:i=id
  ·by_cases e2:j=id
   ·rw [e1,e2]
   ·subst e1;rw [hthis oi hi,hb'] at bi;cases bi;exact s.apart i j o oj _ ho (hother j oj e2 hj) hb bj
  ·by_cases e2:j=id
   ·subst e2;rw [hthis oj hj,hb'] at bj;cases bj;exact s.apart i j oi o _ (hother i oi e1 hi) ho bi hb
   ·exact s.apart i j oi oj b (hother i oi e1 hi) (hother j oj e2 hj) bi bj
 ·intro b hbl hn;exact hw b (by rintro rfl;exact hn hlv)
 ·rintro b ⟨i,x,hx,hbx⟩;by_cases hi:i=id
  ·subst hi;rw [hthis x hx,hb'] at hbx;cases hbx;exact .inl hlv
  ·exact .inl ⟨i,x,hother i x hi hx,hbx⟩
theorem Sim.renew {σ:Sg} {h:Heap} {w:World} (s:Sim σ h w) {id:Id} {o:AObj} {blk:Nat} (ho:h[id]? =some o) (hb:o.blk σ id=some blk)
  (st sz n size:Nat):∃ep σ',Sg.Le σ σ'∧σ'.ρ id ep=some (.at blk st sz n size)∧σ'.FM=σ.FM∧Sim σ' h w∧(∀b,Live σ' h b↔Live σ h b):=by
 obtain ⟨e0,he0⟩:=s.fresh
 let σ':Sg:={ ρ:=fun i e=>if i=id∧e=e0 then some (.at blk st sz n size) else σ.ρ i e,FM:=σ.FM,RM:=σ.RM }
 have hle:Sg.Le σ σ':=by
  refine ⟨fun i e pl hp=>?_,fun _ _ x=>x,fun _ _ x=>x⟩;show (if i=id∧e=e0 then _ else σ.ρ i e)=_;rw [if_neg]
  ·exact hp
  ·rintro ⟨rfl,rfl⟩;rw [he0 _ e (Nat.le_refl _)] at hp;cases hp
 have hblk:∀(i:Id) (x:AObj),h[i]? =some x→x.blk σ' i=x.blk σ i:=fun i x hx=>blk_le (s.obj i x hx) hle;refine ⟨e0,σ',hle,by show (if id=id∧e0=e0 then _ else _)=_;simp,rfl,⟨s.fm,?_,?_,?_,s.rm,fun p hp=>hle.FM _ _ (s.gl p hp)⟩,?_⟩
 ·intro i x hx;refine (s.obj i x hx).keep hle fun b hbx=>⟨rfl,Live.noFM s ⟨i,x,hx,hbx⟩⟩
 ·intro i j oi oj b hi hj bi bj;rw [hblk i oi hi] at bi;rw [hblk j oj hj] at bj;exact s.apart i j oi oj b hi hj bi bj
 ·refine ⟨e0+1,fun i ep hep=>?_⟩;show (if i=id∧ep=e0 then _ else σ.ρ i ep)=none;rw [if_neg (fun x=>absurd x.2 (by omega))];exact he0 i ep (by omega)
 ·intro b
  constructor
  ·rintro ⟨i,x,hx,hbx⟩;rw [hblk i x hx] at hbx;exact ⟨i,x,hx,hbx⟩
  ·rintro ⟨i,x,hx,hbx⟩;rw [←hblk i x hx] at hbx;exact ⟨i,x,hx,hbx⟩
theorem Sim.same {σ:Sg} {h:Heap} {w w':World} (s:Sim σ h w) (hw:w'.heap=w.heap) (ho:SameOut w w'):Mv σ h w σ h w':=by
 refine ⟨.refl _,⟨?_,?_,s.apart,s.fresh,by rw [hw];exact s.rm,s.gl⟩,ho.os,ho.tape,ho.output,by rw [hw];exact Nat.le_refl _,fun b _ _=>by rw [hw],fun b x=>.inl x,fun _ x=>.inl x⟩
 ·rw [hw];exact s.fm
 ·intro i x hx;exact (s.obj i x hx).keep (.refl _) fun b hbx=>⟨by rw [hw],Live.noFM s ⟨i,x,hx,hbx⟩⟩
theorem Sim.forget {σ:Sg} {h h':Heap} {w:World} (s:Sim σ h w) (hh:∀(i:Id) (o:AObj),h'[i]? =some o→o= .hole∨h[i]? =some o):Mv σ h w σ h' w:=by
 have hb:∀(i:Id) (o:AObj) (b:Nat),h'[i]? =some o→o.blk σ i=some b→h[i]? =some o:=fun i o b ho hb=>by
  rcases hh i o ho with rfl|h1
  ·simp [AObj.blk] at hb
  ·exact h1
 refine ⟨.refl _,⟨s.fm,fun i o ho=>?_,fun i j oi oj b hi hj bi bj=>s.apart i j oi oj b (hb i oi b hi bi) (hb j oj b hj bj) bi bj,s.fresh,s.rm,s.gl⟩,rfl,rfl,rfl,Nat.le_refl _,fun _ _ _=>rfl,?_,fun _ x=>.inl x⟩
 ·rcases hh i o ho with rfl|h1
  ·trivial
  ·exact s.obj i o h1
 ·rintro b ⟨i,o,ho,hbx⟩;exact .inl ⟨i,o,hb i o b ho hbx,hbx⟩
end Go.Ab
