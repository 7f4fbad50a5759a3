/-
  What is proved here serves the law's text: each part says its own claim and its conditions. No condition is left open.
-/
import Derived.Test.YtohegnfjdfcebaaGreatDoorKJ
set_option maxHeartbeats 32000000
set_option maxRecDepth 100000
set_option linter.unusedSimpArgs false
set_option linter.unusedVariables false

namespace Go.Ab
def Det (F:(AV→Prop)→Prop):Prop:=∀K,F K→∃v,K v∧∀K',K' v→F K'
theorem det_of {F:(AV→Prop)→Prop} (hm:∀(K K':AV→Prop),(∀v,K v→K' v)→F K→F K') (h:∀K,F K→∃v,K v∧F fun x=>x=v):Det F:=by
 intro K hk;obtain ⟨v,h1,h2⟩:=h K hk;exact ⟨v,h1,fun K' hk'=>hm _ _ (fun x (e:x=v)=>by subst e;exact hk') h2⟩
theorem aOff_ex {n:Nat} {x:AV} {K:AV→Prop} (h:aOff K n x):∃v,K v∧aOff (fun y=>y=v) n x:=by
 cases x<;>first|exact ⟨_,h,rfl⟩|exact h.elim
theorem binInt_ex {op:BinOp} {k:IntKind} {a b:Int} {K:AV→Prop} (h:binInt op k a b K):∃v,K v∧binInt op k a b fun y=>y=v:=by
 cases op<;>simp only [binInt] at h ⊢ <;>first|exact ⟨_,h,rfl⟩|exact ⟨_,h.2,h.1,rfl⟩|exact h.elim
theorem eqCK_ex {ti:TI}:∀{l:List (Nat×Nat)} {a b:List AV} {K:Bool→Prop},eqCK ti l a b K→∃v,K v∧eqCK ti l a b fun z=>z=v:=by
 intro l
 induction l with
 |nil=>intro a b K h;simp only [eqCK] at h ⊢;exact ⟨_,h,rfl⟩
 |cons f l ih=>
  intro a b K h;cases a with
  |nil=>simp [eqCK] at h
  |cons x a=>cases b with
   |nil=>simp [eqCK] at h
   |cons y b=>
    simp only [eqCK] at h ⊢
    split at h
    ·split at h
     ·rename_i e;obtain ⟨v,h1,h2⟩:=ih h;exact ⟨_,h1,by rw [if_pos e];exact eqCK_mono (fun r (hr:r=v)=>by rw [hr]) h2⟩
     ·exact h.elim
    ·obtain ⟨v,h1,h2⟩:=ih h;exact ⟨_,h1,eqCK_mono (fun r (hr:r=v)=>by rw [hr]) h2⟩
    ·exact h.elim
theorem eqAK_ex {ti:TI} {t:Nat} {a b:List AV} {K:Bool→Prop} (h:eqAK ti t a b K):∃v,K v∧eqAK ti t a b fun z=>z=v:=by
 unfold eqAK at h ⊢
 split at h
 ·split at h
  ·exact eqCK_ex h
  ·exact eqCK_ex h
  ·exact h.elim
 ·exact h.elim
theorem binK_ex {ti:TI} {op:BinOp} {t:Nat} {x y:AV} {K:AV→Prop} (h:binK ti op t x y K):∃v,K v∧binK ti op t x y fun z=>z=v:=by
 unfold binK at h ⊢
 split at h
 ·exact ⟨_,h.2,h.1,rfl⟩
 ·exact ⟨_,h.2,h.1,rfl⟩
 ·split at h
  ·rename_i e;simp only [if_pos e];exact binInt_ex h
  ·exact h.elim
 ·exact ⟨_,h.2,h.1,rfl⟩
 ·exact ⟨_,h.2,h.1,rfl⟩
 ·exact ⟨_,h,rfl⟩
 ·exact ⟨_,h,rfl⟩
 ·exact ⟨_,h.2,h.1,rfl⟩
 ·obtain ⟨v,h1,h2⟩:=eqAK_ex h;exact ⟨_,h1,eqAK_mono (fun r (hr:r=v)=>by rw [hr]) h2⟩
 ·obtain ⟨v,h1,h2⟩:=eqAK_ex h;exact ⟨_,h1,eqAK_mono (fun r (hr:r=v)=>by rw [hr]) h2⟩
 ·exact ⟨_,h.2,h.1,rfl⟩
 ·exact ⟨_,h.2,h.1,rfl⟩
 ·obtain ⟨h1,h2⟩:=h
  split at h2
  ·rename_i e;simp only [if_pos e];exact ⟨_,h2,h1,rfl⟩
  ·rename_i e;simp only [if_neg e]
   split at h2
   ·exact ⟨_,h2,h1,rfl⟩
   ·exact h2.elim
 ·obtain ⟨h1,h2⟩:=h
  split at h2
  ·rename_i e;simp only [if_pos e];exact ⟨_,h2,h1,rfl⟩
  ·rename_i e;simp only [if_neg e]
   split at h2
   ·exact ⟨_,h2,h1,rfl⟩
   ·exact h2.elim
 ·exact h.elim
theorem unK_ex {op:UnOp} {x:AV} {K:AV→Prop} (h:unK op x K):∃v,K v∧unK op x fun y=>y=v:=by
 unfold unK at h ⊢;split at h<;>first|exact ⟨_,h,rfl⟩|exact h.elim
theorem extK_ex {vs:List AV} {n:Nat} {K:AV→Prop} (h:extK vs n K):∃v,K v∧extK vs n fun y=>y=v:=by
 unfold extK at h ⊢;split at h<;>first|exact ⟨_,h,rfl⟩|exact h.elim
theorem minK_ex {mx:Bool} {K:AV→Prop}:∀{l:List AV} {x:AV},minK mx l x K→∃v,K v∧minK mx l x fun y=>y=v:=by
 intro l
 induction l with
 |nil=>intro x h;exact ⟨_,h,rfl⟩
 |cons y r ih=>
  intro x h;simp only [minK] at h ⊢
  split at h
  ·split at h
   ·rename_i e;simp only [if_pos e];exact ih h
   ·exact h.elim
  ·exact h.elim
theorem sliceGo_ex {K:AV→Prop} {lo hi mx:Option AV} {len:Nat} {f:Nat→Nat→Bool→AV} (h:sliceGo lo hi mx K len f):∃v,K v∧sliceGo lo hi mx (fun y=>y=v) len f:=by
 unfold sliceGo at h ⊢
 split at h<;>first|exact ⟨_,h,rfl⟩|exact ⟨_,h.2,h.1,rfl⟩|exact h.elim
theorem sliceK_ex {K:AV→Prop} {x:AV} {lo hi mx:Option AV} (h:sliceK x lo hi mx K):∃v,K v∧sliceK x lo hi mx fun y=>y=v:=by
 unfold sliceK at h ⊢
 split at h<;>first|exact sliceGo_ex h|exact h.elim
theorem idxK_ex {K:AV→Prop} {size:Nat} {n:Int} {x:AV} (h:idxK size n K x):∃v,K v∧idxK size n (fun y=>y=v) x:=by
 unfold idxK at h ⊢
 split at h
 ·split at h
  ·rename_i e;simp only [if_pos e];exact ⟨_,h.2,h.1,rfl⟩
  ·exact h.elim
 ·split at h
  ·rename_i e;simp only [if_pos e];exact ⟨_,h.2,h.1,rfl⟩
  ·exact h.elim
 ·exact h.elim
theorem fillK_ex {K:List AV→Prop} {place:Nat→Option (Nat×Nat)}:∀{parts:List (Nat×AV)} {cells:List AV},fillK place cells parts K→∃v,K v∧fillK place cells parts fun y=>y=v:=by
 intro parts
 induction parts with
 |nil=>intro cells h;exact ⟨_,h,rfl⟩
 |cons p r ih=>
  intro cells h;obtain ⟨i,v⟩:=p;unfold fillK at h ⊢
  split at h
  ·split at h
   ·rename_i e1 e2 e3;simp only [if_pos e3];exact ih h
   ·exact h.elim
  ·exact h.elim
theorem fillK_ex2 {F:List AV→AV} {K:AV→Prop} {place:Nat→Option (Nat×Nat)} {parts:List (Nat×AV)} {cells:List AV} (h:fillK place cells parts fun cs=>K (F cs)):
  ∃v,K v∧fillK place cells parts fun cs=>F cs=v:=by
 obtain ⟨cs,h1,h2⟩:=fillK_ex h;exact ⟨F cs,h1,fillK_mono (fun y e=>by rw [e]) h2⟩
theorem pure_det (ti:TI) (ev:Operand→AV) (op:Op):Det (pureK ti ev op):=by
 refine det_of (fun K K' hk h=>pureK_mono hk h) fun K h=>?_;unfold pureK at h ⊢
 split at h
 ·exact ⟨_,h,rfl⟩
 ·exact ⟨_,h,rfl⟩
 ·split at h
  ·split at h<;>exact ⟨_,h,rfl⟩
  ·exact h.elim
 ·split at h
  ·rename_i e;simp only [if_pos e];exact ⟨_,h,rfl⟩
  ·rename_i e;simp only [if_neg e]
   split at h
   ·exact ⟨_,h,rfl⟩
   ·exact h.elim
 ·exact binK_ex h
 ·exact unK_ex h
 ·split at h<;>first|exact ⟨_,h,rfl⟩|exact h.elim
 ·split at h
  ·split at h
   ·split at h
    ·split at h
     ·exact h.elim
     ·rename_i e1 e2 e3 e4;simp only [if_neg e4];exact aOff_ex h
    ·exact h.elim
   ·exact h.elim
  ·exact h.elim
 ·split at h
  ·split at h
   ·split at h
    ·split at h
     ·exact ⟨_,h,rfl⟩
     ·exact h.elim
    ·exact h.elim
   ·exact h.elim
  ·exact h.elim
 ·split at h
  ·split at h
   ·exact idxK_ex h
   ·exact h.elim
  ·split at h
   ·obtain ⟨v,h1,h2⟩:=aOff_ex h.2;exact ⟨v,h1,h.1,h2⟩
   ·exact h.elim
  ·exact h.elim
 ·split at h
  ·split at h
   ·obtain ⟨h1,h2⟩:=h
    split at h2
    ·exact ⟨_,h2,h1,rfl⟩
    ·exact h2.elim
   ·exact h.elim
  ·exact ⟨_,h.2,h.1,rfl⟩
  ·exact h.elim
 ·split at h
  ·exact extK_ex h
  ·exact h.elim
 ·split at h
  ·split at h
   ·split at h
    ·rename_i e;simp only [if_pos e];exact sliceK_ex h
    ·exact h.elim
   ·exact h.elim
  ·split at h
   ·split at h
    ·exact sliceGo_ex h
    ·exact h.elim
   ·exact h.elim
  ·exact h.elim
 ·split at h
  ·split at h
   ·split at h
    ·exact h.elim
    ·rename_i e;simp only [if_neg e];exact fillK_ex2 h
   ·split at h
    ·exact fillK_ex2 h
    ·exact h.elim
   ·exact h.elim
  ·exact h.elim
 ·split at h
  ·split at h
   ·exact ⟨_,h,rfl⟩
   ·exact h.elim
  ·exact h.elim
 ·exact ⟨_,h,rfl⟩
 ·split at h
  ·split at h<;>first|exact ⟨_,h,rfl⟩|exact h.elim
  ·exact minK_ex h
  ·exact minK_ex h
  ·exact h.elim
 ·exact h.elim
theorem read_det (ti:TI) (ev:Operand→AV) (h0:Heap) (op:Op):Det (readK ti ev h0 op):=by
 refine det_of (fun K K' hk h=>readK_mono hk h) fun K h=>?_;have row:∀{d:TD} {r:Option (List AV)} {off:Nat},rowK d r off K→∃v,K v∧rowK d r off fun y=>y=v:=by
  intro d r off h;unfold rowK at h ⊢
  split at h
  ·split at h
   ·exact ⟨_,h,rfl⟩
   ·exact h.elim
  ·exact h.elim
 unfold readK at h ⊢
 split at h
 ·split at h
  ·exact h.elim
  ·split at h
   ·split at h
    ·obtain ⟨v,h1,h2⟩:=row h.2;exact ⟨v,h1,h.1,h2⟩
    ·exact h.elim
   ·exact row h
   ·exact h.elim
 ·exact lookK_ex h
 ·exact h.elim
theorem read_set {ti:TI} {ev:Operand→AV} {h0:Heap} {op:Op} {K:AV→Prop} {s:Id} {o:AObj} (hs:h0[s]? =some .hole) (h:readK ti ev h0 op K):readK ti ev (h0.set s o) op K:=by
 unfold readK at h ⊢
 split at h
 ·split at h
  ·exact h.elim
  ·split at h
   ·rename_i id ep sz i off e
    split at h
    ·rename_i ep' rows ho;have hne:s≠id:=by rintro rfl;rw [hs] at ho;cases ho
     simp only [Heap.getElem?_set_ne hne,ho];exact h
    ·exact h.elim
   ·exact h
   ·exact h.elim
 ·exact lookK_ext (fun i x hx hn _=>by
   have hne:s≠i:=by rintro rfl;rw [hs] at hx;cases hx;exact hn rfl
   rw [Heap.getElem?_set_ne hne];exact hx) h
 ·exact h.elim
theorem fillK_det {K:List AV→Prop} {place:Nat→Option (Nat×Nat)} {v:List AV}:∀{parts:List (Nat×AV)} {cells:List AV},(fillK place cells parts fun y=>y=v)→fillK place cells parts K→K v:=by
 intro parts
 induction parts with
 |nil=>intro cells h1 h2;have:cells=v:=h1;subst this;exact h2
 |cons p r ih=>
  intro cells h1 h2;obtain ⟨i,x⟩:=p;unfold fillK at h1 h2
  split at h1
  ·rename_i off size cs e1 e2;simp only [e1,e2] at h2
   split at h1
   ·rename_i e;rw [if_pos e] at h2;exact ih h1 h2
   ·exact h1.elim
  ·exact h1.elim
theorem alloc_ex {ti:TI} {ev:Operand→AV} {id:Id} {h0:Heap} {op:Op} {K:AV→Heap→Prop} (h:allocK ti ev id h0 op K):
  ∃mv:Nat→AV,∃mo:Nat→AObj,∀(h2:Heap) (K':AV→Heap→Prop),allocK ti ev id h2 op K'↔(h2[id]? =some .hole∧∀ep,K' (mv ep) (h2.set id (mo ep))):=by
 have hole:∀(h2:Heap) (K':AV→Heap→Prop),allocK ti ev id h2 op K'→h2[id]? =some .hole:=by
  intro h2 K' x;unfold allocK at x
  split at x
  ·exact x.elim
  ·exact x.elim
  ·exact x.elim
  ·assumption
 have key:∃mv:Nat→AV,∃mo:Nat→AObj,∀(h2:Heap) (K':AV→Heap→Prop),h2[id]? =some .hole→(allocK ti ev id h2 op K'↔∀ep,K' (mv ep) (h2.set id (mo ep))):=by
  have hh:=hole h0 K h;unfold allocK at h;simp only [hh] at h
  split at h
  ·split at h
   ·rename_i d hd;exact ⟨_,_,fun h2 K' hh2=>by unfold allocK;simp only [hh2,hd];exact Iff.rfl⟩
   ·exact h.elim
  ·split at h
   ·rename_i d cs hd hcs
    split at h
    ·rename_i e;exact ⟨_,_,fun h2 K' hh2=>by unfold allocK;simp only [hh2,hd,hcs,if_pos e];exact Iff.rfl⟩
    ·exact h.elim
   ·exact h.elim
  ·rename_i t len parts
   split at h
   ·rename_i e1 ek
    split at h
    ·rename_i d hd
     split at h
     ·exact h.elim
     ·rename_i hne;obtain ⟨cs,h1,h2⟩:=fillK_ex h;refine ⟨fun ep=>.oslc id ep d.size 0 len false,fun ep=>.vec ep (chunks d.size len cs),fun h3 K' hh2=>?_⟩;unfold allocK;simp only [hh2,ek,hd,if_neg hne];exact ⟨fun x=>fillK_det h2 x,fun x=>fillK_mono (fun y e ep=>by subst e;exact x ep) h2⟩
    ·exact h.elim
   ·exact h.elim
  ·split at h
   ·rename_i e1 k1 n k2 m ek1 ek2 ek3
    split at h
    ·rename_i d hd;exact ⟨_,_,fun h2 K' hh2=>by unfold allocK;simp only [hh2,ek1,ek2,ek3,hd];exact ⟨fun x=>x.2,fun x=>⟨h.1,x⟩⟩⟩
    ·exact h.elim
   ·exact h.elim
  ·exact ⟨_,_,fun h2 K' hh2=>by unfold allocK;simp only [hh2];exact Iff.rfl⟩
  ·exact h.elim
 obtain ⟨mv,mo,hk⟩:=key;exact ⟨mv,mo,fun h2 K'=>⟨fun x=>⟨hole h2 K' x,(hk h2 K' (hole h2 K' x)).1 x⟩,fun x=>(hk h2 K' x.1).2 x.2⟩⟩
theorem map_congr_ev {ev ev':Operand→AV} {l:List Operand} (h:∀x∈l,ev x=ev' x):l.map ev=l.map ev':=List.map_congr_left h
theorem pureK_congr {ti:TI} {ev ev':Operand→AV} {op:Op} {K:AV→Prop} (h:∀x∈op.operands,ev x=ev' x):pureK ti ev op K=pureK ti ev' op K:=by
 cases op<;>simp only [Op.operands] at h<;>try rfl
 case move x=>simp only [pureK,h x (by simp)]
 case makeInterface t x=>simp only [pureK,h x (by simp)]
 case assign x=>simp only [pureK,h x (by simp)]
 case pick c a b=>simp only [pureK,h c (by simp),h a (by simp),h b (by simp)]
 case nilCheck x=>simp only [pureK,h x (by simp)]
 case binOp op t x y t2=>simp only [pureK,h x (by simp),h y (by simp)]
 case unOp op t x=>simp only [pureK,h x (by simp)]
 case convert s d x=>simp only [pureK,h x (by simp)]
 case fieldAddr t x f=>simp only [pureK,h x (by simp)]
 case field t x f=>simp only [pureK,h x (by simp)]
 case indexAddr t x i=>simp only [pureK,h x (by simp),h i (by simp)]
 case index t x i=>simp only [pureK,h x (by simp),h i (by simp)]
 case extract x n=>simp only [pureK,h x (by simp)]
 case slice t x lo hi mx=>
  have e1:lo.map ev=lo.map ev':=by cases lo with|none=>rfl|some y=>simp only [Option.map_some];rw [h y (by simp)]
  have e2:hi.map ev=hi.map ev':=by cases hi with|none=>rfl|some y=>simp only [Option.map_some];rw [h y (by simp)]
  have e3:mx.map ev=mx.map ev':=by cases mx with|none=>rfl|some y=>simp only [Option.map_some];rw [h y (by simp)]
  simp only [pureK,h x (by simp),e1,e2,e3]
 case build t parts=>
  have e:(parts.toList.map fun p=>(p.1,ev p.2))=parts.toList.map fun p=>(p.1,ev' p.2):=List.map_congr_left fun p hp=>by
   rw [h p.2 (by simp only [List.mem_toArray,List.mem_map];exact ⟨p,hp,rfl⟩)]
  simp only [pureK,e]
 case makeFunc fn first cap=>
  have e1:first.toList.map ev=first.toList.map ev':=map_congr_ev fun x hx=>h x (by simp at hx ⊢;exact .inl hx);have e2:cap.toList.map ev=cap.toList.map ev':=map_congr_ev fun x hx=>h x (by simp at hx ⊢;exact .inr hx);simp only [pureK,e1,e2]
 case call c=>
  simp only [Call.operands] at h;have ha:∀x∈c.args.toList,ev x=ev' x:=fun x hx=>h x (by simp at hx ⊢;exact .inr hx);cases hl:c.args.toList with
  |nil=>cases hc:c.callee with
   |builtin b=>cases b<;>simp only [pureK,hc,hl]
   |_=>simp only [pureK,hc,hl]
  |cons x r=>
   rw [hl] at ha;have hx:=ha x (by simp);have hr:r.map ev=r.map ev':=map_congr_ev fun y hy=>ha y (by simp [hy]);cases hc:c.callee with
   |builtin b=>
    cases b<;>try (simp only [pureK,hc,hl];done)
    case len=>cases r with
     |nil=>simp only [pureK,hc,hl,hx]
     |cons _ _=>simp only [pureK,hc,hl]
    case min=>simp only [pureK,hc,hl,hx,hr]
    case max=>simp only [pureK,hc,hl,hx,hr]
   |_=>simp only [pureK,hc,hl]
theorem readK_congr {ti:TI} {ev ev':Operand→AV} {h0:Heap} {op:Op} {K:AV→Prop} (h:∀x∈op.operands,ev x=ev' x):readK ti ev h0 op K=readK ti ev' h0 op K:=by
 cases op<;>simp only [Op.operands] at h<;>try rfl
 case load t p=>simp only [readK,h p (by simp)]
 case lookup t m ix okf=>simp only [readK,h m (by simp),h ix (by simp)]
theorem allocK_congr {ti:TI} {ev ev':Operand→AV} {id:Id} {h0:Heap} {op:Op} {K:AV→Heap→Prop} (h:∀x∈op.operands,ev x=ev' x):allocK ti ev id h0 op K=allocK ti ev' id h0 op K:=by
 cases op<;>simp only [Op.operands] at h<;>try rfl
 case box t x=>simp only [allocK,h x (by simp)]
 case buildSlice t len parts=>
  have e:(parts.toList.map fun p=>(p.1,ev p.2))=parts.toList.map fun p=>(p.1,ev' p.2):=List.map_congr_left fun p hp=>by
   rw [h p.2 (by simp only [List.mem_toArray,List.mem_map];exact ⟨p,hp,rfl⟩)]
  simp only [allocK,e]
 case makeSlice t l c=>simp only [allocK,h l (by simp),h c (by simp)]
 case makeMap t r=>cases r<;>simp only [allocK]
theorem effK_congr {ti:TI} {ev ev':Operand→AV} {id:Id} {h0:Heap} {op:Op} {K:AV→Heap→Prop} (h:∀x∈op.operands,ev x=ev' x):effK ti ev id h0 op K=effK ti ev' id h0 op K:=by
 cases op<;>simp only [Op.operands] at h<;>try rfl
 case store t p v=>simp only [effK,h p (by simp),h v (by simp)]
 case binOp o t x y t2=>simp only [effK,h x (by simp),h y (by simp)]
 case mapUpdate t m k v=>simp only [effK,h m (by simp),h k (by simp),h v (by simp)]
 case call c=>
  simp only [Call.operands] at h;have ha:∀x∈c.args.toList,ev x=ev' x:=fun x hx=>h x (by simp at hx ⊢;exact .inr hx);cases hl:c.args.toList with
  |nil=>cases hc:c.callee with
   |builtin b=>cases b<;>simp only [effK,hc,hl]
   |_=>simp only [effK,hc,hl]
  |cons x r=>
   rw [hl] at ha;cases r with
   |nil=>
    have hx:=ha x (by simp);cases hc:c.callee with
    |builtin b=>
     cases b<;>try (simp only [effK,hc,hl];done)
     case clear=>simp only [effK,hc,hl,hx]
    |_=>simp only [effK,hc,hl]
   |cons y r=>
    cases r with
    |nil=>
     have hx:=ha x (by simp);have hy:=ha y (by simp);cases hc:c.callee with
     |builtin b=>
      cases b<;>try (simp only [effK,hc,hl];done)
      case append=>simp only [effK,hc,hl,hx,hy]
      case copy=>simp only [effK,hc,hl,hx,hy]
     |_=>simp only [effK,hc,hl]
    |cons _ _=>cases hc:c.callee with
     |builtin b=>cases b<;>simp only [effK,hc,hl]
     |_=>simp only [effK,hc,hl]
theorem fnOf_congr {C:Ctx} {ev ev':Operand→AV} {c:Call} (h:∀x∈c.operands,ev x=ev' x):fnOf C ev c=fnOf C ev' c:=by
 unfold fnOf;simp only [Call.operands] at h;have ha:c.args.toList.map ev=c.args.toList.map ev':=map_congr_ev fun x hx=>h x (by simp at hx ⊢;exact .inr hx);cases hc:c.callee with
 |value fo=>simp only [h fo (by simp [hc]),ha]
 |_=>rfl
theorem yieldK_congr {C:Ctx} {ev ev':Operand→AV} {c:Call} {h0:Heap} {K:AV→Heap→Prop} (h:∀x∈c.operands,ev x=ev' x):yieldK C ev c h0 K=yieldK C ev' c h0 K:=by
 unfold yieldK;simp only [Call.operands] at h;have ha:c.args.toList.map ev=c.args.toList.map ev':=map_congr_ev fun x hx=>h x (by simp at hx ⊢;exact .inr hx);cases hc:c.callee with
 |value fo=>simp only [h fo (by simp [hc]),ha]
 |_=>rfl
theorem appE_congr {ti:TI} {ev ev':Operand→AV} {h0:Heap} {c:Call} {K:AV→Heap→Prop} (h:∀x∈c.operands,ev x=ev' x):appE ti ev h0 c K=appE ti ev' h0 c K:=by
 simp only [Call.operands] at h;have ha:∀x∈c.args.toList,ev x=ev' x:=fun x hx=>h x (by simp at hx ⊢;exact .inr hx);unfold appE
 split
 ·rename_i s x hl;rw [hl] at ha;simp only [ha s (by simp),ha x (by simp)]
 ·rfl
theorem app_ex {ti:TI} {ev:Operand→AV} {h:Heap} {c:Call} {K:AV→Heap→Prop} (hk:appE ti ev h c K):
  ∃(id0:Id) (ep:Nat) (v:Nat→AV) (rows:List (List AV)),h[id0]? =some (.vec ep [])∧(∀ep2,K (v ep2) (h.set id0 (.vec ep2 rows)))∧
   ∀(h':Heap) (K':AV→Heap→Prop),(∀(i:Id) (e:Nat) (r:List (List AV)),h[i]? =some (AObj.vec e r)→h'[i]? =some (AObj.vec e r))→(∀ep2,K' (v ep2) (h'.set id0 (.vec ep2 rows)))→appE ti ev h' c K':=by
 have el:∀{size:Nat} {x:AV} {F:List (List AV)→Prop},elemsOf h size x F→∃new,F new∧∀(h':Heap) (F':List (List AV)→Prop),(∀(i:Id) (e:Nat) (r:List (List AV)),h[i]? =some (AObj.vec e r)→h'[i]? =some (AObj.vec e r))→F' new→elemsOf h' size x F':=by
  intro size x F hx;unfold elemsOf at hx
  split at hx
  ·split at hx
   ·rename_i e
    split at hx
    ·rename_i id ep sz off len lim ep' rows ho;refine ⟨_,hx.2,fun h' F' hs hf=>?_⟩;unfold elemsOf;simp only [if_pos e,hs _ _ _ ho];exact ⟨hx.1,hf⟩
    ·exact hx.elim
   ·exact hx.elim
  ·split at hx
   ·rename_i e;refine ⟨_,hx,fun h' F' hs hf=>?_⟩;unfold elemsOf;simp only [if_pos e];exact hf
   ·exact hx.elim
  ·refine ⟨_,hx,fun h' F' hs hf=>?_⟩;unfold elemsOf;exact hf
  ·exact hx.elim
 unfold appE at hk
 split at hk
 ·rename_i s x hl
  split at hk
  ·rename_i e e2 k1 k2
   split at hk
   ·rename_i d hd
    split at hk
    ·exact hk.elim
    ·rename_i hz;obtain ⟨new,hn,hback⟩:=el hk
     split at hn
     ·rename_i id0 ep sz off len hs
      split at hn
      ·rename_i hsz;obtain ⟨rfl,ho,hb,hk'⟩:=hn;refine ⟨id0,ep,fun ep2=>.oslc id0 ep2 sz 0 new.length false,new,ho,hk',fun h' K' hsame hk2=>?_⟩;unfold appE;simp only [hl,k1,k2,hd,if_neg hz];refine hback h' _ hsame ?_;simp only [hs,if_pos hsz];exact ⟨by first|exact rfl|trivial,hsame _ _ _ ho,hb,hk2⟩
      ·exact hn.elim
     ·exact hn.elim
   ·exact hk.elim
  ·exact hk.elim
 ·exact hk.elim
theorem read_ext {ti:TI} {ev:Operand→AV} {h0 h1:Heap} {op:Op} {K:AV→Prop} (hs:∀(i:Id) (o:AObj),h0[i]? =some o→h1[i]? =some o) (h:readK ti ev h0 op K):readK ti ev h1 op K:=by
 unfold readK at h ⊢
 split at h
 ·split at h
  ·exact h.elim
  ·split at h
   ·rename_i id ep2 sz i off e
    split at h
    ·rename_i ep' rows ho;simp only [hs _ _ ho];exact h
    ·exact h.elim
   ·exact h
   ·exact h.elim
 ·exact lookK_ext (fun i x hx _ _=>hs i x hx) h
 ·exact h.elim
theorem read_app {ti:TI} {ev:Operand→AV} {h0:Heap} {op:Op} {K:AV→Prop} {s:Id} {ep:Nat} {o:AObj} (hs:h0[s]? =some (.vec ep [])) (h:readK ti ev h0 op K):readK ti ev (h0.set s o) op K:=by
 unfold readK at h ⊢
 split at h
 ·split at h
  ·exact h.elim
  ·split at h
   ·rename_i id ep2 sz i off e
    split at h
    ·rename_i ep' rows ho;have hne:s≠id:=by
      rintro rfl;rw [hs] at ho;cases ho;have h2:=h.2;simp [rowK] at h2
     simp only [Heap.getElem?_set_ne hne,ho];exact h
    ·exact h.elim
   ·exact h
   ·exact h.elim
 ·exact lookK_ext (fun i x hx _ hv=>by
   have hne:s≠i:=by rintro rfl;rw [hs] at hx;cases hx;exact hv ep rfl
   rw [Heap.getElem?_set_ne hne];exact hx) h
 ·exact h.elim
theorem invK_congr {C:Ctx} {ev ev':Operand→AV} {c:Call} {K:AV→Prop} (h:∀x∈c.operands,ev x=ev' x):invK C ev c K=invK C ev' c K:=by
 unfold invK;cases hc:c.callee with
 |invoke recv name=>
  have h1:ev recv=ev' recv:=h _ (by simp [Call.operands,hc]);have h2:c.args.toList.map ev=c.args.toList.map ev':=List.map_congr_left fun x hx=>h x (by simp [Call.operands,hc];simp_all);simp only [h1,h2]
 |_=>rfl
theorem nchK_congr {C:Ctx} {ev ev':Operand→AV} {x:Operand} {K:AV→Prop} (h:ev x=ev' x):nchK C ev x K=nchK C ev' x K:=by
 unfold nchK;have:pureK C.ti ev (.nilCheck x) K=pureK C.ti ev' (.nilCheck x) K:=pureK_congr fun y hy=>by
  simp only [Op.operands] at hy;simp at hy;subst hy;exact h
 rw [this,h]
theorem opK_congr {C:Ctx} {ev ev':Operand→AV} {id:Id} {h0:Heap} {op:Op} {K:AV→Heap→Prop} (h:∀x∈op.operands,ev x=ev' x):opK C ev id h0 op K=opK C ev' id h0 op K:=by
 have hc:∀c,op= .call c→fnOf C ev c=fnOf C ev' c:=fun c e=>by
  subst e;exact fnOf_congr h
 have hy:∀c,op= .call c→yieldK C ev c h0 K=yieldK C ev' c h0 K:=fun c e=>by
  subst e;exact yieldK_congr h
 unfold opK;cases clsOf C op with
 |pure=>exact pureK_congr h
 |read=>exact readK_congr h
 |alloc=>exact allocK_congr h
 |eff=>exact effK_congr h
 |app=>
  cases op<;>try rfl
  rename_i c;exact appE_congr h
 |pcall=>
  cases op<;>try rfl
  rename_i c;simp only [hc c rfl,hy c rfl]
 |icall=>
  cases op<;>try rfl
  rename_i c;exact invK_congr h
 |ncheck=>
  cases op<;>try rfl
  rename_i x;exact nchK_congr (h x (by simp [Op.operands]))
 |hcall=>
  cases op<;>try rfl
  rename_i c;simp only [hc c rfl,hy c rfl]
 |xcall=>
  cases op<;>try rfl
  rename_i c;simp only [hc c rfl,hy c rfl]
 |call=>
  cases op<;>try rfl
  rename_i c;simp only [hc c rfl,hy c rfl]
def stepO (C:Ctx) (ops:Array Oper) (slot:Nat→Id) (i:Nat) (fr:List AV) (h:Heap) (K:List AV→Heap→Prop):Prop:=
 match ops[i]? with
 |none=>False
 |some o=>match wantA ops o fr with
  |some true=>opK C (evl fr) (slot i) h o.op fun v h'=>K (putF fr o.dst v) h'
  |some false=>K (putF fr o.dst (.tup [])) h
  |none=>False
theorem runOrd_cons {C:Ctx} {ops:Array Oper} {slot:Nat→Id} {i:Nat} {r:List Nat} {fr:List AV} {h:Heap} {K:List AV→Heap→Prop}:
  runOrd C ops slot (i::r) fr h K=stepO C ops slot i fr h fun fr h=>runOrd C ops slot r fr h K:=rfl
theorem evl_put {fr:List AV} {dst:Option Tmp} {v:AV} {x:Operand} (h:∀d,dst=some d→x≠.tmp d):evl (putF fr dst v) x=evl fr x:=by
 cases dst with
 |none=>rfl
 |some d=>
  cases x with
  |tmp t=>
   have hne:d≠t:=fun e=>h d rfl (e ▸ rfl);simp only [evl,putF,List.getD,List.getElem?_set_ne hne]
  |_=>rfl
theorem putF_comm {fr:List AV} {x y:Option Tmp} {uu v:AV} (h:∀d,x=some d→y≠some d):putF (putF fr x uu) y v=putF (putF fr y v) x uu:=by
 cases x with
 |none=>rfl
 |some d=>
  cases y with
  |none=>rfl
  |some e=>
   have hne:d≠e:=fun he=>h d rfl (he ▸ rfl);simp only [putF,List.set_comm _ _ hne]
theorem wantA_put {ops:Array Oper} {o:Oper} {fr:List AV} {dst:Option Tmp} {v:AV} (h:∀d,dst=some d→d∉o.looksAt ops):wantA ops o (putF fr dst v)=wantA ops o fr:=by
 cases dst with
 |none=>rfl
 |some d=>
  unfold wantA;cases hg:o.guard with
  |none=>rfl
  |some gw=>
   obtain ⟨g,want⟩:=gw;simp only;cases ht:(ops[g]?).bind (·.dst) with
   |none=>rfl
   |some t=>
    have hne:d≠t:=fun e=>h d rfl (by subst e;simp [Oper.looksAt,hg,ht]);simp only [putF,List.getElem?_set_ne hne]
theorem opK_put {C:Ctx} {ops:Array Oper} {o:Oper} {fr:List AV} {dst:Option Tmp} {uu:AV} {id:Id} {h0:Heap} {K:AV→Heap→Prop} (h:∀d,dst=some d→d∉o.looksAt ops):
  opK C (evl (putF fr dst uu)) id h0 o.op K=opK C (evl fr) id h0 o.op K:=
 opK_congr fun x hx=>evl_put fun d hd hxd=>h d hd (by
  subst hxd;exact List.mem_append_left _ (List.mem_filterMap.2 ⟨.tmp d,by simpa using hx,rfl⟩))
end Go.Ab

namespace Go.Ab
section
variable {C:Ctx} {ops:Array Oper} {slot:Nat→Id}
def Cls.still:Cls→Bool
 | .pure| .pcall| .icall| .ncheck=>true
 |_=>false
theorem still_det {op:Op} (hc:(clsOf C op).still=true) {fr:List AV} {id:Id} {h:Heap} {K:AV→Heap→Prop} (hk:opK C (evl fr) id h op K):
  ∃v,K v h∧∀(id2:Id) (h2:Heap) (K':AV→Heap→Prop),K' v h2→opK C (evl fr) id2 h2 op K':=by
 unfold opK at hk;cases hcl:clsOf C op with
 |pure=>
  simp only [hcl] at hk;obtain ⟨v,h1,h2⟩:=pure_det C.ti (evl fr) op _ hk;refine ⟨v,h1,fun id2 h3 K' hk'=>?_⟩;unfold opK;simp only [hcl];exact h2 (fun v=>K' v h3) hk'
 |pcall=>
  simp only [hcl] at hk
  split at hk
  ·rename_i c;have hpf:∃f,c.callee= .value (.func f)∧C.pureFn f=true:=by
    simp only [clsOf] at hcl
    split at hcl
    ·split at hcl<;>cases hcl
    ·cases hcl
    ·cases hcl
    ·cases hcl
    ·cases hcl
    ·rename_i f hf
     split at hcl
     ·rename_i hp;exact ⟨f,hf,hp⟩
     ·split at hcl
      ·cases hcl
      ·split at hcl<;>cases hcl
    ·cases hcl
   obtain ⟨f,hf,hp⟩:=hpf
   split at hk
   ·rename_i g args hfn;have hg:g=f:=by
     unfold fnOf at hfn;simp only [hf] at hfn
     split at hfn
     ·rename_i q first cap e
      split at hfn
      ·simp only [Option.some.injEq,Prod.mk.injEq] at hfn;obtain ⟨rfl,_⟩:=hfn;simp only [evl] at e;cases e;rfl
      ·cases hfn
     ·cases hfn
    subst hg;unfold callK at hk;simp only [hp] at hk;obtain ⟨r,h1,h2⟩:=hk;refine ⟨r,h2,fun id2 h3 K' hk'=>?_⟩;unfold opK;simp only [hcl,hfn];unfold callK;simp only [hp];exact ⟨r,h1,hk'⟩
   ·unfold yieldK at hk;simp only [hf,evl] at hk
  ·exact hk.elim
 |ncheck=>
  simp only [hcl] at hk
  split at hk
  ·rename_i x;unfold nchK at hk
   split at hk
   ·rename_i name t e;refine ⟨_,hk.2,fun id2 h3 K' hk'=>?_⟩;unfold opK;simp only [hcl];unfold nchK;simp only [e];exact ⟨hk.1,hk'⟩
   ·rename_i hne;obtain ⟨v,h1,h2⟩:=pure_det C.ti (evl fr) (.nilCheck x) _ hk;refine ⟨v,h1,fun id2 h3 K' hk'=>?_⟩;unfold opK;simp only [hcl];unfold nchK
    split
    ·rename_i name t e;exact absurd e (hne name t)
    ·exact h2 (fun v=>K' v h3) hk'
  ·exact hk.elim
 |icall=>
  simp only [hcl] at hk
  split at hk
  ·rename_i c;have hk0:=hk;unfold invK at hk
   split at hk
   ·rename_i recv name hcal
    split at hk
    ·rename_i t e;obtain ⟨f,r,hm,hp,hk⟩:=hk;refine ⟨r,hk,fun id2 h3 K' hk'=>?_⟩;unfold opK;simp only [hcl];unfold invK;simp only [hcal,e];exact ⟨f,r,hm,hp,hk'⟩
    ·exact hk.elim
   ·exact hk.elim
  ·exact hk.elim
 |read=>rw [hcl] at hc;cases hc
 |alloc=>rw [hcl] at hc;cases hc
 |eff=>rw [hcl] at hc;cases hc
 |app=>rw [hcl] at hc;cases hc
 |hcall=>rw [hcl] at hc;cases hc
 |xcall=>rw [hcl] at hc;cases hc
 |call=>rw [hcl] at hc;cases hc
def slotF (l:List (Nat×Nat)) (i:Nat):Id:=match l.find? (·.1==i) with|some p=>.s p.2|none=>.s 1000000
def swapOk (cj ci:Cls) (sj si:Id):Bool:=
 cj.still||match cj,ci with
  | .read,.xcall| .read,.hcall| .read,.pure| .read,.pcall| .read,.icall| .read,.ncheck| .read,.read| .read,.alloc| .read,.app| .app,.alloc=>true
  | .alloc,.alloc=>sj !=si
  |_,_=>false
theorem Heap.ext_some {h:Heap} (l:List AObj) (i:Id) (o:AObj) (x:h[i]? =some o):(⟨h.st,h.dy++l⟩:Heap)[i]? =some o:=by
 cases i with
 |s n=>exact x
 |d n=>
  have x:h.dy[n]? =some o:=x;show (h.dy++l)[n]? =some o;rw [List.getElem?_append_left (List.getElem?_eq_some_iff.1 x).1];exact x
theorem hcall_swap {op:Op} {fr:List AV} {id:Id} {h:Heap} {K K':AV→Heap→Prop} (hc:clsOf C op= .hcall) (hk:opK C (evl fr) id h op K) (hm:∀v l,K v ⟨h.st,h.dy++l⟩→K' v ⟨h.st,h.dy++l⟩):opK C (evl fr) id h op K':=by
 unfold opK at hk ⊢;simp only [hc] at hk ⊢
 split at hk
 ·rename_i c;have hpf:∃f,c.callee= .value (.func f)∧C.pureFn f=false∧C.hFn f=true:=by
   simp only [clsOf] at hc
   split at hc
   ·split at hc<;>cases hc
   ·cases hc
   ·cases hc
   ·cases hc
   ·cases hc
   ·rename_i f hf
    split at hc
    ·cases hc
    ·rename_i hp
     split at hc
     ·rename_i hh;exact ⟨f,hf,by simpa using hp,hh⟩
     ·split at hc<;>cases hc
   ·cases hc
  obtain ⟨f,hf,hp,hh⟩:=hpf
  split at hk
  ·rename_i g args hfn;have hg:g=f:=by
    unfold fnOf at hfn;simp only [hf] at hfn
    split at hfn
    ·rename_i q first cap e
     split at hfn
     ·simp only [Option.some.injEq,Prod.mk.injEq] at hfn;obtain ⟨rfl,_⟩:=hfn;simp only [evl] at e;cases e;rfl
     ·cases hfn
    ·cases hfn
   subst hg;unfold callK at hk ⊢;simp only [hp,hh] at hk ⊢
   split at hk
   ·obtain ⟨R,H,h1,h2⟩:=hk;exact ⟨R,H,h1,fun eps=>hm _ _ (h2 eps)⟩
   ·exact hk.elim
  ·unfold yieldK at hk;simp only [hf,evl] at hk
 ·exact hk.elim
theorem xcall_swap {op:Op} {fr:List AV} {id:Id} {h:Heap} {K K':AV→Heap→Prop} (hc:clsOf C op= .xcall) (hk:opK C (evl fr) id h op K) (hm:∀v h',(∀(i:Id) (o:AObj),h[i]? =some o→h'[i]? =some o)→K v h'→K' v h'):opK C (evl fr) id h op K':=by
 unfold opK at hk ⊢;simp only [hc] at hk ⊢
 split at hk
 ·rename_i c;have hpf:∃f,c.callee= .value (.func f)∧C.pureFn f=false∧C.hFn f=false∧C.xFn f=true:=by
   simp only [clsOf] at hc
   split at hc
   ·split at hc<;>cases hc
   ·cases hc
   ·cases hc
   ·cases hc
   ·cases hc
   ·rename_i f hf
    split at hc
    ·cases hc
    ·rename_i hp
     split at hc
     ·cases hc
     ·rename_i hh
      split at hc
      ·rename_i hx;exact ⟨f,hf,by simpa using hp,by simpa using hh,hx⟩
      ·cases hc
   ·cases hc
  obtain ⟨f,hf,hp,hh,hx⟩:=hpf
  split at hk
  ·rename_i g args hfn;have hg:g=f:=by
    unfold fnOf at hfn;simp only [hf] at hfn
    split at hfn
    ·rename_i q first cap e
     split at hfn
     ·simp only [Option.some.injEq,Prod.mk.injEq] at hfn;obtain ⟨rfl,_⟩:=hfn;simp only [evl] at e;cases e;rfl
     ·cases hfn
    ·cases hfn
   subst hg;unfold callK at hk ⊢;simp only [hp,hh,hx] at hk ⊢;exact hk.mono fun r h' q=>⟨q.1,hm _ _ q.1 q.2⟩
  ·unfold yieldK at hk;simp only [hf,evl] at hk
 ·exact hk.elim
theorem swapK {opj opi:Op} {fr:List AV} {sj si:Id} {h:Heap} {F:AV→AV→Heap→Prop} (hs:swapOk (clsOf C opj) (clsOf C opi) sj si=true)
  (hk:opK C (evl fr) sj h opj fun v h'=>opK C (evl fr) si h' opi fun uu h''=>F v uu h''):opK C (evl fr) si h opi fun uu h'=>opK C (evl fr) sj h' opj fun v h''=>F v uu h'':=by
 cases hst:(clsOf C opj).still with
 |true=>
  obtain ⟨v,h1,h2⟩:=still_det hst hk;exact opK_mono (fun uu h' x=>h2 sj h' (fun v h''=>F v uu h'') x) h1
 |false=>
  unfold swapOk at hs;simp only [hst,Bool.false_or] at hs;have rd:clsOf C opj= .read→∃v,(opK C (evl fr) si h opi fun uu h''=>F v uu h'')∧readK C.ti (evl fr) h opj fun x=>x=v:=by
   intro hc;unfold opK at hk;simp only [hc] at hk;obtain ⟨v,h1,h2⟩:=read_det C.ti (evl fr) h opj _ hk;exact ⟨v,h1,h2 (fun x=>x=v) rfl⟩
  have back:∀{v:AV} {h':Heap} {G:AV→Heap→Prop},clsOf C opj= .read→(readK C.ti (evl fr) h' opj fun x=>x=v)→G v h'→opK C (evl fr) sj h' opj G:=by
   intro v h' G hc hr hg;unfold opK;simp only [hc];exact readK_mono (fun x (e:x=v)=>by subst e;exact hg) hr
  split at hs
  ·rename_i hcj hci;obtain ⟨v,h1,h2⟩:=rd hcj;exact xcall_swap hci h1 fun uu h' hx hF=>back hcj (read_ext hx h2) hF
  ·rename_i hcj hci;obtain ⟨v,h1,h2⟩:=rd hcj;exact hcall_swap hci h1 fun uu l hF=>back hcj (read_ext (Heap.ext_some l) h2) hF
  ·rename_i hcj hci;obtain ⟨v,h1,h2⟩:=rd hcj;obtain ⟨uu,h3,h4⟩:=still_det (by rw [hci];rfl) h1;exact h4 si h _ (back hcj h2 h3)
  ·rename_i hcj hci;obtain ⟨v,h1,h2⟩:=rd hcj;obtain ⟨uu,h3,h4⟩:=still_det (by rw [hci];rfl) h1;exact h4 si h _ (back hcj h2 h3)
  ·rename_i hcj hci;obtain ⟨v,h1,h2⟩:=rd hcj;obtain ⟨uu,h3,h4⟩:=still_det (by rw [hci];rfl) h1;exact h4 si h _ (back hcj h2 h3)
  ·rename_i hcj hci;obtain ⟨v,h1,h2⟩:=rd hcj;obtain ⟨uu,h3,h4⟩:=still_det (by rw [hci];rfl) h1;exact h4 si h _ (back hcj h2 h3)
  ·rename_i hcj hci;obtain ⟨v,h1,h2⟩:=rd hcj;unfold opK at h1;simp only [hci] at h1;obtain ⟨uu,h3,h4⟩:=read_det C.ti (evl fr) h opi _ h1;have:=h4 (fun uu=>opK C (evl fr) sj h opj fun v h''=>F v uu h'') (back hcj h2 h3);unfold opK;simp only [hci];exact this
  ·rename_i hcj hci;obtain ⟨v,h1,h2⟩:=rd hcj;unfold opK at h1;simp only [hci] at h1;obtain ⟨mv,mo,hiff⟩:=alloc_ex h1;obtain ⟨hh,h3⟩:=(hiff _ _).1 h1;have:allocK C.ti (evl fr) si h opi fun uu h'=>opK C (evl fr) sj h' opj fun v h''=>F v uu h'':=(hiff _ _).2 ⟨hh,fun ep=>back hcj (read_set hh h2) (h3 ep)⟩;unfold opK;simp only [hci];exact this
  ·rename_i hcj hci;obtain ⟨v,h1,h2⟩:=rd hcj;unfold opK at h1;simp only [hci] at h1
   split at h1
   ·rename_i c;obtain ⟨id0,ep,mv,rows,ho,h3,hback⟩:=app_ex h1;unfold opK;simp only [hci];refine hback h _ (fun _ _ _ x=>x) fun ep2=>?_;exact back hcj (read_app ho h2) (h3 ep2)
   ·exact h1.elim
  ·rename_i hcj hci;unfold opK at hk;simp only [hcj] at hk
   split at hk
   ·rename_i c;obtain ⟨id0,ep,mvj,rows,ho,h1,hback⟩:=app_ex hk;have h1':∀ep2,allocK C.ti (evl fr) si (h.set id0 (.vec ep2 rows)) opi fun uu h''=>F (mvj ep2) uu h'':=by
     intro ep2;have:=h1 ep2;unfold opK at this;simp only [hci] at this;exact this
    obtain ⟨mvi,moi,hiffi⟩:=alloc_ex (h1' 0);have h2:=fun ep2=>(hiffi _ _).1 (h1' ep2);have hne:id0≠si:=by
     rintro rfl;have:=(h2 0).1;rw [Heap.getElem?_set_self',ho] at this;cases this
    have hhi:h[si]? =some .hole:=by have:=(h2 0).1;rwa [Heap.getElem?_set_ne hne] at this
    have:allocK C.ti (evl fr) si h opi fun uu h'=>appE C.ti (evl fr) h' c fun v h''=>F v uu h'':=by
     refine (hiffi _ _).2 ⟨hhi,fun epi=>hback _ _ (fun i e r x=>?_) fun ep2=>?_⟩
     ·rw [Heap.getElem?_set_ne (by rintro rfl;rw [hhi] at x;cases x)];exact x
     ·rw [Heap.set_comm _ _ _ (Ne.symm hne)];exact (h2 ep2).2 epi
    unfold opK;simp only [hcj,hci];exact this
   ·exact hk.elim
  ·rename_i hcj hci;have hne:sj≠si:=by simpa using hs
   have hk':allocK C.ti (evl fr) sj h opj fun v h'=>allocK C.ti (evl fr) si h' opi fun uu h''=>F v uu h'':=by
    unfold opK at hk;simp only [hcj,hci] at hk;exact hk
   obtain ⟨mvj,moj,hiffj⟩:=alloc_ex hk';obtain ⟨hhj,h1⟩:=(hiffj _ _).1 hk';obtain ⟨mvi,moi,hiffi⟩:=alloc_ex (h1 0);have h2:∀epj,(h.set sj (moj epj))[si]? =some .hole∧∀epi,F (mvj epj) (mvi epi) ((h.set sj (moj epj)).set si (moi epi)):=fun epj=>(hiffi _ _).1 (h1 epj);have hhi:h[si]? =some .hole:=by have:=(h2 0).1;rwa [Heap.getElem?_set_ne hne] at this
   have:allocK C.ti (evl fr) si h opi fun uu h'=>allocK C.ti (evl fr) sj h' opj fun v h''=>F v uu h'':=by
    refine (hiffi _ _).2 ⟨hhi,fun epi=>(hiffj _ _).2 ⟨by rw [Heap.getElem?_set_ne (Ne.symm hne)];exact hhj,fun epj=>?_⟩⟩;rw [Heap.set_comm _ _ _ (Ne.symm hne)];exact (h2 epj).2 epi
   unfold opK;simp only [hcj,hci];exact this
  ·cases hs
theorem opK_false {opj:Op} {ci:Cls} {fr:List AV} {sj si:Id} {h:Heap} (hs:swapOk (clsOf C opj) ci sj si=true) (hk:opK C (evl fr) sj h opj fun _ _=>False):False:=by
 cases hst:(clsOf C opj).still with
 |true=>obtain ⟨v,h1,_⟩:=still_det hst hk;exact h1
 |false=>
  unfold swapOk at hs;simp only [hst,Bool.false_or] at hs;unfold opK at hk;cases hc:clsOf C opj with
  |read=>simp only [hc] at hk;obtain ⟨v,h1,_⟩:=read_det C.ti (evl fr) h opj _ hk;exact h1
  |alloc=>simp only [hc] at hk;obtain ⟨mv,mo,hiff⟩:=alloc_ex hk;exact ((hiff _ _).1 hk).2 0
  |app=>
   simp only [hc] at hk
   split at hk
   ·obtain ⟨_,_,_,_,_,h1,_⟩:=app_ex hk;exact h1 0
   ·exact hk.elim
  |_=>simp [hc] at hs
theorem swapO {j i:Nat} {oj oi:Oper} (hj:ops[j]? =some oj) (hi:ops[i]? =some oi) (hap:oj.apart ops oi=true) (hs:swapOk (clsOf C oj.op) (clsOf C oi.op) (slot j) (slot i)=true)
  {fr:List AV} {h:Heap} {K:List AV→Heap→Prop} (hk:stepO C ops slot j fr h fun fr h=>stepO C ops slot i fr h K):stepO C ops slot i fr h fun fr h=>stepO C ops slot j fr h K:=by
 obtain ⟨a1,a2,a3⟩:=Oper.apart_spec hap;have e1:∀(v:AV),wantA ops oi (putF fr oj.dst v)=wantA ops oi fr:=fun v=>wantA_put a1;have e2:∀(uu:AV),wantA ops oj (putF fr oi.dst uu)=wantA ops oj fr:=fun uu=>wantA_put a3;have e3:∀(v uu:AV),putF (putF fr oj.dst v) oi.dst uu=putF (putF fr oi.dst uu) oj.dst v:=fun v uu=>putF_comm a2;unfold stepO at hk ⊢;simp only [hj,hi,e1,e2] at hk ⊢;cases wj:wantA ops oj fr with
 |none=>simp [wj] at hk
 |some bj=>
  cases wi:wantA ops oi fr with
  |none=>
   cases bj with
   |false=>simp [wj,wi] at hk
   |true=>
    simp only [wj,wi] at hk;exact (opK_false hs hk).elim
  |some bi=>
   cases bj with
   |false=>
    cases bi with
    |false=>
     simp only [wj,wi,e3] at hk ⊢;exact hk
    |true=>
     simp only [wj,wi,opK_put a1,e3] at hk ⊢;exact hk
   |true=>
    cases bi with
    |false=>
     simp only [wj,wi,opK_put a3,e3] at hk ⊢;exact hk
    |true=>
     simp only [wj,wi,opK_put a1,opK_put a3,e3] at hk ⊢;exact swapK hs hk
def ordered (ops:Array Oper) (j i:Nat):Bool:=((Region.before ops).getD i 0).testBit j
def pairOk (C:Ctx) (ops:Array Oper) (slot:Nat→Id) (j i:Nat):Bool:=
 ordered ops j i||match ops[j]?,ops[i]? with
  |some oj,some oi=>oj.apart ops oi&&swapOk (clsOf C oj.op) (clsOf C oi.op) (slot j) (slot i)
  |_,_=>false
def pairsOk (C:Ctx) (ops:Array Oper) (slot:Nat→Id):List Nat→Bool
 | []=>true
 |j::r=>r.all (pairOk C ops slot j)&&pairsOk C ops slot r
def predsOk (ops:Array Oper):List Nat→List Nat→Bool
 |_,[]=>true
 |done,i::r=>(match ops[i]? with
  |some o=>o.after.all fun e=>!Region.binds .any e||done.contains e.on
  |none=>false)&& !done.contains i&&predsOk ops (i::done) r
def drawOk (C:Ctx) (ops:Array Oper) (slots:List (Nat×Nat)) (canon:List Nat):Bool:=
 canon.length==ops.size&&(List.range ops.size).all (fun k=>canon.contains k)&&canon.all (· <ops.size)&&Region.noSelect ops&&predsOk ops [] canon&&pairsOk C ops (slotF slots) canon
end
end Go.Ab
