/-
  What is proved here serves the law's text: each part says its own claim and its conditions. No condition is left open.
-/
import Derived.DeepKeys5
import Derived.Test.YtohegnfjdfcebaaGreatDoorKD
set_option maxHeartbeats 32000000
set_option maxRecDepth 100000
set_option linter.unusedSimpArgs false
set_option linter.unusedVariables false

namespace Go.Ab
def lit1:AV→Bool
 | .int .. | .bool _=>true
 |_=>false
def litV:AV→Value
 | .int k n=>.int k n
 | .bool b=>.bool b
 |_=>undef
def keyX (ti:TI):Nat→Nat→List AV→Bool
 |0,_,_=>false
 |m+1,t,cs=>match ti t with
  |none=>false
  |some d=>match d.kind,cs with
   | .bool,[.bool _]=>true
   | .int q,[.int q' n]=>decide (q'=q)&&(Lit.int q n).wf
   | .arr n e,cs=>match ti e with
    |some de=>decide (cs.length=d.size)&&(List.range n).all fun i=>keyX ti m e ((cs.drop (i * de.size)).take de.size)
    |none=>false
   | .struct fs,cs=>decide (cs.length=d.size)&&fs.all fun f=>match ti f.2 with
    |some df=>keyX ti m f.2 ((cs.drop f.1).take df.size)
    |none=>false
   |_,_=>false
def zeroV (d:TD):Option AV:=match d.isAgg with
 |true=>some (.agg d.zero)
 |false=>d.zero[0]?
def findI (kd:IntKind) (n:Int):Nat→List (AV×AV)→(Option (Nat×AV)→Prop)→Prop
 |_,[],K=>K none
 |i,(k,v)::r,K=>match k with
  | .int k a=>k=kd∧(match decide (n=a) with
   |true=>K (some (i,v))
   |false=>findI kd n (i+1) r K)
  |_=>False
def keyRow (ti:TI) (kt:Nat) (p:AV×AV):Bool:=match p.1 with
 | .agg ys=>keyX ti 20 kt ys&&ys.all lit1
 |_=>false
def findA (xs:List AV) (es:List (AV×AV)) (K:Option (Nat×AV)→Prop):Prop:=
 ((∀p∈es,p.1≠.agg xs)∧K none)∨∃i v,es[i]? =some (.agg xs,v)∧(∀(j:Nat) (p:AV×AV),j≠i→es[j]? =some p→p.1≠.agg xs)∧K (some (i,v))
def findPI (kd:IntKind) (key:AV) (es:List (AV×AV)) (K:Option (Nat×AV)→Prop):Prop:=match key with
 | .int k n=>k=kd∧findI kd n 0 es K
 |_=>False
def findPA (ti:TI) (kt:Nat) (dk:TD) (key:AV) (es:List (AV×AV)) (K:Option (Nat×AV)→Prop):Prop:=match key with
 | .agg xs=>(dk.key=true∧keyRow ti kt (.agg xs,.u)=true∧es.all (keyRow ti kt)=true)∧findA xs es K
 |_=>False
def findP (ti:TI) (kt:Nat) (key:AV) (es:List (AV×AV)) (K:Option (Nat×AV)→Prop):Prop:=
 match ti kt with
 |none=>False
 |some dk=>match dk.kind with
  | .int kd=>findPI kd key es K
  | .arr .. =>findPA ti kt dk key es K
  | .struct _=>findPA ti kt dk key es K
  |_=>False
def lookK (ti:TI) (h:Heap) (t:Nat) (m key:AV) (okf:Bool) (K:AV→Prop):Prop:=
 match kindOf ti t with
 |some (.map kt vt)=>match ti vt with
  |some dv=>match zeroV dv with
   |some z=>match m with
    | .nilm=>findP ti kt key [] fun _=>K (bif okf then .tup [z,.bool false] else z)
    | .mp id ep=>(match h[id]? with
     |some (.map ep' es)=>ep'=ep∧findP ti kt key es fun r=>K (match r with
      |some (_,v)=>bif okf then .tup [v,.bool true] else v
      |none=>bif okf then .tup [z,.bool false] else z)
     |_=>False)
    |_=>False
   |none=>False
  |none=>False
 |_=>False
def updK (ti:TI) (h:Heap) (t:Nat) (m key v:AV) (K:AV→Heap→Prop):Prop:=
 match kindOf ti t with
 |some (.map kt _)=>match m with
  | .mp id ep=>(match h[id]? with
   |some (.map ep' es)=>ep'=ep∧findP ti kt key es fun r=>K .u (h.set id (.map ep (match r with
    |some (i,_)=>es.set i (key,v)
    |none=>es++[(key,v)])))
   |_=>False)
  |_=>False
 |_=>False
theorem findI_mono {kd:IntKind} {n:Int} {K K':Option (Nat×AV)→Prop} (hk:∀v,K v→K' v):∀{es:List (AV×AV)} {i:Nat},findI kd n i es K→findI kd n i es K'
 | [],i,h=>hk _ h
 |(k,v)::r,i,h=>by
  unfold findI at h ⊢
  split at h
  ·refine ⟨h.1,?_⟩;have h2:=h.2
   split at h2
   ·exact hk _ h2
   ·exact findI_mono hk h2
  ·exact h.elim
theorem findA_mono {xs:List AV} {es:List (AV×AV)} {K K':Option (Nat×AV)→Prop} (hk:∀v,K v→K' v) (h:findA xs es K):findA xs es K':=by
 rcases h with ⟨a,b⟩|⟨i,v,a,b,c⟩
 ·exact .inl ⟨a,hk _ b⟩
 ·exact .inr ⟨i,v,a,b,hk _ c⟩
theorem findPI_mono {kd:IntKind} {key:AV} {es:List (AV×AV)} {K K':Option (Nat×AV)→Prop} (hk:∀v,K v→K' v) (h:findPI kd key es K):findPI kd key es K':=by
 unfold findPI at h ⊢
 split at h
 ·exact ⟨h.1,findI_mono hk h.2⟩
 ·exact h.elim
theorem findPA_mono {ti:TI} {kt:Nat} {dk:TD} {key:AV} {es:List (AV×AV)} {K K':Option (Nat×AV)→Prop} (hk:∀v,K v→K' v) (h:findPA ti kt dk key es K):findPA ti kt dk key es K':=by
 unfold findPA at h ⊢
 split at h
 ·exact ⟨h.1,findA_mono hk h.2⟩
 ·exact h.elim
theorem findP_mono {ti:TI} {kt:Nat} {key:AV} {es:List (AV×AV)} {K K':Option (Nat×AV)→Prop} (hk:∀v,K v→K' v) (h:findP ti kt key es K):findP ti kt key es K':=by
 unfold findP at h ⊢
 split at h
 ·exact h.elim
 ·split at h
  ·exact findPI_mono hk h
  ·exact findPA_mono hk h
  ·exact findPA_mono hk h
  ·exact h.elim
theorem findI_ex {kd:IntKind} {n:Int} {K:Option (Nat×AV)→Prop}:∀{es:List (AV×AV)} {i:Nat},findI kd n i es K→∃v,K v∧findI kd n i es fun y=>y=v
 | [],i,h=>⟨none,h,rfl⟩
 |(k,v)::r,i,h=>by
  unfold findI at h
  split at h
  ·obtain ⟨h1,h2⟩:=h
   split at h2
   ·rename_i hd;exact ⟨_,h2,by unfold findI;exact ⟨h1,by rw [hd]⟩⟩
   ·rename_i hd;obtain ⟨w,h3,h4⟩:=findI_ex h2;exact ⟨w,h3,by unfold findI;exact ⟨h1,by rw [hd];exact h4⟩⟩
  ·exact h.elim
theorem findA_ex {xs:List AV} {es:List (AV×AV)} {K:Option (Nat×AV)→Prop} (h:findA xs es K):∃v,K v∧findA xs es fun y=>y=v:=by
 rcases h with ⟨a,b⟩|⟨i,v,a,b,c⟩
 ·exact ⟨_,b,.inl ⟨a,rfl⟩⟩
 ·exact ⟨_,c,.inr ⟨i,v,a,b,rfl⟩⟩
theorem findPI_ex {kd:IntKind} {key:AV} {es:List (AV×AV)} {K:Option (Nat×AV)→Prop} (h:findPI kd key es K):∃v,K v∧findPI kd key es fun y=>y=v:=by
 unfold findPI at h ⊢
 split at h
 ·obtain ⟨v,h2,h3⟩:=findI_ex h.2;exact ⟨v,h2,h.1,h3⟩
 ·exact h.elim
theorem findPA_ex {ti:TI} {kt:Nat} {dk:TD} {key:AV} {es:List (AV×AV)} {K:Option (Nat×AV)→Prop} (h:findPA ti kt dk key es K):∃v,K v∧findPA ti kt dk key es fun y=>y=v:=by
 unfold findPA at h ⊢
 split at h
 ·obtain ⟨v,h2,h3⟩:=findA_ex h.2;exact ⟨v,h2,h.1,h3⟩
 ·exact h.elim
theorem findP_ex {ti:TI} {kt:Nat} {key:AV} {es:List (AV×AV)} {K:Option (Nat×AV)→Prop} (h:findP ti kt key es K):∃v,K v∧findP ti kt key es fun y=>y=v:=by
 unfold findP at h ⊢
 split at h
 ·exact h.elim
 ·split at h
  ·exact findPI_ex h
  ·exact findPA_ex h
  ·exact findPA_ex h
  ·exact h.elim
theorem lookK_mono {ti:TI} {h0:Heap} {t:Nat} {m key:AV} {okf:Bool} {K K':AV→Prop} (hk:∀v,K v→K' v) (h:lookK ti h0 t m key okf K):lookK ti h0 t m key okf K':=by
 unfold lookK at h ⊢
 split at h
 ·split at h
  ·split at h
   ·split at h
    ·exact findP_mono (fun _=>hk _) h
    ·split at h
     ·exact ⟨h.1,findP_mono (fun _=>hk _) h.2⟩
     ·exact h.elim
    ·exact h.elim
   ·exact h.elim
  ·exact h.elim
 ·exact h.elim
theorem lookK_ex {ti:TI} {h0:Heap} {t:Nat} {m key:AV} {okf:Bool} {K:AV→Prop} (h:lookK ti h0 t m key okf K):∃v,K v∧lookK ti h0 t m key okf fun y=>y=v:=by
 unfold lookK at h ⊢
 split at h
 ·split at h
  ·split at h
   ·split at h
    ·obtain ⟨v,h1,h2⟩:=findP_ex h;exact ⟨_,h1,findP_mono (fun _ _=>rfl) h2⟩
    ·split at h
     ·obtain ⟨v,h1,h2⟩:=findP_ex h.2;exact ⟨_,h1,h.1,findP_mono (fun _ e=>by rw [e]) h2⟩
     ·exact h.elim
    ·exact h.elim
   ·exact h.elim
  ·exact h.elim
 ·exact h.elim
theorem lookK_ext {ti:TI} {h0 h1:Heap} {t:Nat} {m key:AV} {okf:Bool} {K:AV→Prop} (hs:∀(i:Id) (o:AObj),h0[i]? =some o→o≠.hole→(∀ep,o≠.vec ep [])→h1[i]? =some o) (h:lookK ti h0 t m key okf K):lookK ti h1 t m key okf K:=by
 unfold lookK at h ⊢
 split at h
 ·split at h
  ·split at h
   ·split at h
    ·exact h
    ·split at h
     ·rename_i ho;simp only [hs _ _ ho (by simp) (by simp)];exact h
     ·exact h.elim
    ·exact h.elim
   ·exact h.elim
  ·exact h.elim
 ·exact h.elim
theorem updK_mono {ti:TI} {h0:Heap} {t:Nat} {m key v:AV} {K K':AV→Heap→Prop} (hk:∀v h,K v h→K' v h) (h:updK ti h0 t m key v K):updK ti h0 t m key v K':=by
 unfold updK at h ⊢
 split at h
 ·split at h
  ·split at h
   ·exact ⟨h.1,findP_mono (fun _=>hk _ _) h.2⟩
   ·exact h.elim
  ·exact h.elim
 ·exact h.elim
theorem mapM_some {α β:Type} {f:α→Option β}:∀{l:List α},(∀a∈l,∃b,f a=some b)→∃bs,l.mapM f=some bs
 | [],_=>⟨[],by simp⟩
 |a::l,h=>by
  obtain ⟨b,hb⟩:=h a (List.mem_cons_self ..);obtain ⟨bs,hbs⟩:=mapM_some fun x hx=>h x (List.mem_cons_of_mem _ hx);exact ⟨b::bs,by rw [List.mapM_cons,hb,hbs];rfl⟩
theorem DOk.cellsOf {P:Program} {t:Nat} {d:TD} (h:DOk P t d):P.cellsOf t=d.size:=by
 obtain ⟨i,z,h1,h2,_⟩:=h.info;simp [Program.cellsOf,h1,h2]
theorem lit1_val {σ:Sg} {a:AV} {v:Value} (h:lit1 a=true) (hv:VRel σ a v):v=litV a:=by
 cases a<;>simp only [lit1,Bool.false_eq_true] at h<;>(cases hv;rfl)
theorem litV_inj {a b:AV} (ha:lit1 a=true) (hb:lit1 b=true) (h:litV a=litV b):a=b:=by
 cases a<;>simp only [lit1,Bool.false_eq_true] at ha<;>cases b<;>simp only [lit1,Bool.false_eq_true] at hb<;>simp [litV] at h ⊢ <;>exact h
theorem lits_val {σ:Sg}:∀{as:List AV} {vs:List Value},as.all lit1=true→VRels σ as vs→vs=as.map litV
 | [],[],_,_=>rfl
 | [],_::_,_,h=>by have:=h.1;simp at this
 |_::_,[],_,h=>by have:=h.1;simp at this
 |a::as,v::vs,hl,h=>by
  simp only [List.all_cons,Bool.and_eq_true] at hl;rw [List.map_cons,lit1_val hl.1 (h.2 0 a v rfl rfl)]
  congr 1
  exact lits_val hl.2 ⟨by have:=h.1;simpa using this,fun i b u x y=>h.2 (i+1) b u (by simpa using x) (by simpa using y)⟩
theorem lits_inj:∀{as bs:List AV},as.all lit1=true→bs.all lit1=true→as.map litV=bs.map litV→as=bs
 | [],[],_,_,_=>rfl
 | [],_::_,_,_,h=>by simp at h
 |_::_,[],_,_,h=>by simp at h
 |a::as,b::bs,ha,hb,h=>by
  simp only [List.all_cons,Bool.and_eq_true] at ha hb;rw [List.map_cons,List.map_cons,List.cons.injEq] at h;rw [litV_inj ha.1 hb.1 h.1,lits_inj ha.2 hb.2 h.2]
theorem agg_val {σ:Sg} {xs:List AV} {v:Value} (h:xs.all lit1=true) (hv:VRel σ (.agg xs) v):v= .agg (xs.map litV).toArray:=by
 cases hv with
 | @agg _ _ vs l o w=>
  have:vs.toList=xs.map litV:=lits_val h ⟨by simpa using l,fun i a u x y=>w i a u x (by simpa using y)⟩
  congr 1
  rw [←this]
theorem keyX_lits {P:Program} {ti:TI} (tok:TOk P ti):∀(m D t:Nat) (cs:List AV),P.keyTypeAt D t=true→keyX ti m t cs=true→∃L,P.keyLits D t (cs.map litV)=some L:=by
 intro m
 induction m with
 |zero=>intro D t cs _ h;cases h
 |succ m ih=>
  intro D t cs0 hk h;cases D with
  |zero=>cases hk
  |succ D=>
   unfold keyX at h;unfold Program.keyTypeAt at hk;unfold Program.keyLits
   split at h
   ·cases h
   ·rename_i d hd;have hok:=tok t d hd
    split at h
    ·rename_i b hkd;simp [hok.bool hkd,litV]
    ·rename_i q q' n hkd;simp only [Bool.and_eq_true,decide_eq_true_eq] at h;simp [hok.int hkd,litV,h.1,h.2]
    ·rename_i cs0 _ _ n e hkd
     split at h
     ·rename_i de hde;simp only [Bool.and_eq_true,decide_eq_true_eq,List.all_eq_true,List.mem_range] at h;have hu:=hok.arr hkd;simp only [hu] at hk ⊢;have hz:P.cellsOf t=d.size:=hok.cellsOf;have he:P.cellsOf e=de.size:=(tok e de hde).cellsOf;rw [if_pos (by rw [List.length_map,hz];exact h.1)];have:∃Ls,((List.range n).mapM fun i=>P.keyLits D e (((cs0.map litV).drop (i * P.cellsOf e)).take (P.cellsOf e)))=some Ls:=by
       refine mapM_some fun i hi=>?_;have hi:i<n:=List.mem_range.1 hi;rw [he,←List.map_drop,←List.map_take];exact ih D e _ hk (h.2 i hi)
      obtain ⟨Ls,hL⟩:=this;exact ⟨Ls.flatten,by rw [hL];rfl⟩
     ·cases h
    ·rename_i cs0 _ _ fs hkd;simp only [Bool.and_eq_true,decide_eq_true_eq,List.all_eq_true] at h;obtain ⟨gs,hu,hgs⟩:=hok.struct hkd;simp only [hu,Bool.and_eq_true,Array.all_eq_true_iff_forall_mem,bne_iff_ne,ne_eq] at hk ⊢;have hz:P.cellsOf t=d.size:=hok.cellsOf;rw [if_pos ⟨by rw [List.length_map,hz];exact h.1,fun f hf=>(hk.1.1 f hf).1⟩];have:∃Ls,(gs.toList.mapM fun f=>P.keyLits D f.type (((cs0.map litV).drop f.offset).take (P.cellsOf f.type)))=some Ls:=by
      refine mapM_some fun f hf=>?_;have hm:(f.offset,f.type)∈fs:=by rw [←hgs];exact List.mem_map_of_mem hf
      have h2:=h.2 _ hm;simp only at h2
      split at h2
      ·rename_i df hdf;rw [(tok _ _ hdf).cellsOf,←List.map_drop,←List.map_take];exact ih D f.type _ (hk.1.1 f (Array.mem_toList_iff.1 hf)).2 h2
      ·cases h2
     obtain ⟨Ls,hL⟩:=this;exact ⟨Ls.flatten,by rw [hL];rfl⟩
    ·cases h
section
variable {P:Program} {ti:TI} {σ:Sg}
def Ents (σ:Sg) (es:List (AV×AV)) (ents:List MapEntry):Prop:=
 es.length=ents.length∧∀(i:Nat) (k v:AV) (e:MapEntry),es[i]? =some (k,v)→ents[i]? =some e→VRel σ k e.key∧VRel σ v e.val
def Found (σ:Sg) (ents:List MapEntry) (kv:Value):Option (Nat×AV)→Option (Nat×Value)→Prop
 |none,none=>True
 |some (i,v),some (j,u)=>i=j∧VRel σ v u∧∃e,ents[i]? =some e∧e.val=u∧e.key=kv
 |_,_=>False
theorem findI_sound {kd:IntKind} {n:Int}:∀{es:List (AV×AV)} {ents:List MapEntry} {i:Nat} {K:Option (Nat×AV)→Prop},Ents σ es ents→findI kd n i es K→
  ∃r r',K r∧Instr.findNow (.int kd) (.int kd n) ents i=some r'∧(match r,r' with
   |none,none=>True
   |some (a,v),some (b,u)=>a=b∧i≤a∧VRel σ v u∧∃e,ents[a-i]? =some e∧e.val=u∧e.key= .int kd n
   |_,_=>False)
 | [],[],i,K,_,h=>⟨none,none,h,rfl,trivial⟩
 | [],_::_,_,_,h,_=>by have:=h.1;simp at this
 |_::_,[],_,_,h,_=>by have:=h.1;simp at this
 |(k,v)::es,e::ents,i,K,h,hk=>by
  obtain ⟨r1,r2⟩:=h.2 0 k v e rfl rfl;unfold findI at hk
  split at hk
  ·rename_i k a;obtain ⟨rfl,hk⟩:=hk;generalize hek:e.key=ek at r1;cases r1
   split at hk
   ·rename_i hd;have hd:n=a:=of_decide_eq_true hd;subst hd;refine ⟨some (i,v),some (i,e.val),hk,?_,rfl,Nat.le_refl _,r2,e,by simp,rfl,hek⟩;simp [Instr.findNow,Instr.sameNow,hek]
   ·rename_i hd;have hd:¬n=a:=of_decide_eq_false hd;obtain ⟨r,r',q1,q2,q3⟩:=findI_sound (es:=es) (ents:=ents) (i:=i+1) ⟨by have:=h.1;simpa using this,fun j k v e x y=>h.2 (j+1) k v e (by simpa using x) (by simpa using y)⟩ hk;refine ⟨r,r',q1,?_,?_⟩
    ·have:(n==a)=false:=by simpa using hd
     simp [Instr.findNow,Instr.sameNow,hek,this,q2]
    ·match r,r',q3 with
     |none,none,_=>trivial
     |some (a',v'),some (b',u'),⟨x1,x2,x3,e',x4,x5,x6⟩=>
      refine ⟨x1,by omega,x3,e',?_,x5,x6⟩;have:a'-i=(a'-(i+1))+1:=by omega
      rw [this];simpa using x4
  ·exact hk.elim
theorem row_key (tok:TOk P ti) {kt:Nat} {dk:TD} (hdk:ti kt=some dk) (hky:dk.key=true) {ys:List AV} {x:AV} (h:keyRow ti kt (.agg ys,x)=true):ys.all lit1=true∧∃l,keyOf P kt (.agg (ys.map litV).toArray)=some l:=by
 unfold keyRow at h;simp only [Bool.and_eq_true] at h;obtain ⟨h1,h2⟩:=h;obtain ⟨k1,k2,k3⟩:=(tok kt dk hdk).key hky;refine ⟨h2,?_⟩;obtain ⟨L,hL⟩:=keyX_lits tok 20 (P.types.size+1) kt ys k2 h1;have hlen:ys.length=P.cellsOf kt:=by
  rw [(tok kt dk hdk).cellsOf];unfold keyX at h1;rw [hdk] at h1;simp only at h1
  split at h1
  ·rename_i hkd;have:=(tok kt dk hdk).bool hkd;rw [this] at k3;cases k3
  ·rename_i hkd;have:=(tok kt dk hdk).int hkd;rw [this] at k3;cases k3
  ·split at h1
   ·simp only [Bool.and_eq_true,decide_eq_true_eq] at h1;exact h1.1
   ·cases h1
  ·simp only [Bool.and_eq_true,decide_eq_true_eq] at h1;exact h1.1
  ·cases h1
 have hform:(Value.agg (ys.map litV).toArray).formed P kt=true:=by
  unfold Value.formed;simp only
  split at k3
  ·rename_i hu;simp [hu,hlen]
  ·rename_i hu;simp [hu,hlen]
  ·cases k3
 refine ⟨.string (keyBytes L),?_⟩;unfold keyOf
 split at k3
 ·rename_i hu;simp only [hu,k2,hform,Bool.and_self,if_true,Value.cells];rw [hL];rfl
 ·rename_i hu;simp only [hu,k2,hform,Bool.and_self,if_true,Value.cells];rw [hL];rfl
 ·cases k3
theorem findPA_sound (tok:TOk P ti) {kt:Nat} {dk:TD} (hdk:ti kt=some dk) {key:AV} {kv:Value} {es:List (AV×AV)} {ents:List MapEntry} {K:Option (Nat×AV)→Prop} (he:Ents σ es ents) (hkey:VRel σ key kv) (h:findPA ti kt dk key es K) (w:World):
  ∃r r',K r∧Found σ ents kv r r'∧(Instr.findKey kt kv ents).run P w= .ok r' w∧(∀em,(Instr.checkKey em 10000 kt kv).run P w= .ok () w)∧(Instr.keyThatStays kv kv).run P w= .ok kv w:=by
 unfold findPA at h
 split at h
 ·rename_i xs;obtain ⟨⟨h1,h2,h3⟩,h4⟩:=h;obtain ⟨q1,l,q2⟩:=row_key tok hdk h1 h2;have hkv:=agg_val q1 hkey;subst hkv;have L:=((tok kt dk hdk).key h1).1;have each:∀(i:Nat) (k v:AV) (e:MapEntry),es[i]? =some (k,v)→ents[i]? =some e→∃ys,k=AV.agg ys∧ys.all lit1=true∧e.key=Value.agg (ys.map litV).toArray∧∃l,keyOf P kt e.key=some l:=by
   intro i k v e hi hei;have hr:=List.all_eq_true.1 h3 _ (List.mem_of_getElem? hi);cases k with
   |agg ys=>
    obtain ⟨p1,l,p2⟩:=row_key tok hdk h1 (x:=v) hr;have hv:=agg_val p1 (he.2 i _ v e hi hei).1;exact ⟨ys,rfl,p1,hv,l,by rw [hv];exact p2⟩
   |_=>cases hr
  have hall:∀e∈ents,∃l,keyOf P kt e.key=some l:=by
   intro e hme;obtain ⟨i,hi,rfl⟩:=List.getElem_of_mem hme;have hie:i<es.length:=by rw [he.1];exact hi
   obtain ⟨_,_,_,_,hl⟩:=each i es[i].1 es[i].2 ents[i] (by rw [List.getElem?_eq_getElem hie]) (List.getElem?_eq_getElem hi);exact hl
  have same:∀(i:Nat) (k v:AV) (e:MapEntry),es[i]? =some (k,v)→ents[i]? =some e→e.key=Value.agg (xs.map litV).toArray→k=AV.agg xs:=by
   intro i k v e hi hei hek;obtain ⟨ys,rfl,p1,p2,_⟩:=each i k v e hi hei;rw [p2] at hek;have:ys.map litV=xs.map litV:=by
    have:=Value.agg.inj hek;simpa using congrArg Array.toList this
   rw [lits_inj p1 q1 this]
  have back:∀(j:Nat) (e:MapEntry),ents[j]? =some e→∃p,es[j]? =some p:=fun j e hj=>by
   have hjl:=(List.getElem?_eq_some_iff.1 hj).1;exact ⟨es[j]'(by rw [he.1];exact hjl),List.getElem?_eq_getElem _⟩
  have hfin:∃r r',K r∧Found σ ents (Value.agg (xs.map litV).toArray) r r'∧(Instr.findKey kt (Value.agg (xs.map litV).toArray) ents).run P w= .ok r' w:=by
   rcases h4 with ⟨a1,a2⟩|⟨i,v,a1,a2,a3⟩
   ·rcases L.find w q2 ents hall with ⟨f1,f2⟩|⟨j,e,f1,f2,f3⟩
    ·exact ⟨none,none,a2,trivial,f1⟩
    ·obtain ⟨⟨k,v⟩,hp⟩:=back j e f2;exact absurd (same j k v e hp f2 f3) (a1 _ (List.mem_of_getElem? hp))
   ·have hil:i<ents.length:=by rw [←he.1];exact (List.getElem?_eq_some_iff.1 a1).1
    have hei:ents[i]? =some ents[i]:=List.getElem?_eq_getElem hil;obtain ⟨ys,e1,p1,p2,_⟩:=each i _ v _ a1 hei;cases e1
    rcases L.find w q2 ents hall with ⟨f1,f2⟩|⟨j,e,f1,f2,f3⟩
    ·exact absurd p2 (f2 _ (List.getElem_mem hil))
    ·obtain ⟨⟨k,v'⟩,hp⟩:=back j e f2;have hk:=same j k v' e hp f2 f3;have hji:j=i:=by
      rcases Nat.decEq j i with hne|heq
      ·exact absurd hk (a2 j _ hne hp)
      ·exact heq
     subst hji;rw [hp] at a1;cases a1;exact ⟨some (j,v),some (j,e.val),a3,⟨rfl,(he.2 j _ v e hp f2).2,e,f2,rfl,f3⟩,f1⟩
  obtain ⟨r,r',k1,k2,k3⟩:=hfin;exact ⟨r,r',k1,k2,k3,fun em=>L.check w em q2,L.stays w q2⟩
 ·exact h.elim
theorem findP_sound (tok:TOk P ti) {kt:Nat} {key:AV} {kv:Value} {es:List (AV×AV)} {ents:List MapEntry} {K:Option (Nat×AV)→Prop} (he:Ents σ es ents) (hkey:VRel σ key kv) (h:findP ti kt key es K) (w:World):
  ∃r r',K r∧Found σ ents kv r r'∧(Instr.findKey kt kv ents).run P w= .ok r' w∧(∀em,(Instr.checkKey em 10000 kt kv).run P w= .ok () w)∧(Instr.keyThatStays kv kv).run P w= .ok kv w:=by
 unfold findP at h
 split at h
 ·exact h.elim
 ·rename_i dk hdk
  split at h
  ·rename_i kd hkd;unfold findPI at h
   split at h
   ·rename_i k n;obtain ⟨rfl,h⟩:=h;cases hkey;have hu:=(tok kt dk hdk).int hkd;obtain ⟨r,r',q1,q2,q3⟩:=findI_sound he h;refine ⟨r,r',q1,?_,MapKept.run_findKey hu q2,fun em=>MapKept.run_checkKey hu (by simp [MapKept.IsKey]) em 9999,?_⟩
    ·match r,r',q3 with
     |none,none,_=>trivial
     |some (a,v),some (b,u),⟨x1,_,x3,e,x4,x5,x6⟩=>exact ⟨x1,x3,e,by simpa using x4,x5,x6⟩
    ·simp [Instr.keyThatStays,Instr.sameBits]
   ·exact h.elim
  ·exact findPA_sound tok hdk he hkey h w
  ·exact findPA_sound tok hdk he hkey h w
  ·exact h.elim
theorem zeroV_rel {t:Nat} {d:TD} (h:DOk P t d) {z:AV} (hz:zeroV d=some z) (w:World):∃v,(zeroValue t).run P w= .ok v w∧VRel σ z v:=by
 obtain ⟨v,h1,h2,h3,h4,i,h5,h6,h7,h8⟩:=h.run_zero w;have hs:=h.shape i v h5 h6;refine ⟨v,h1,?_⟩;have cell:∀(j:Nat) (a:AV) (u:Value),d.zero[j]? =some a→v.cells[j]? =some u→VRel σ a u:=fun j a u x y=>by
  obtain ⟨u',e1,e2⟩:=h4 j a x;rw [e1] at y;cases y;exact VRel.ofVal e2
 unfold zeroV at hz
 split at hz
 ·rename_i hag;cases hz;rw [hag] at hs;cases v with
  |agg cs=>
   refine .agg (by simp only [Value.cells] at h2;omega) (fun u hu=>?_) fun j a u x y=>cell j a u x y;obtain ⟨j,hj,rfl⟩:=List.getElem_of_mem hu;have hjs:j<cs.size:=by simpa using hj
   simp only [Value.cells] at h2;obtain ⟨u',e1,e2⟩:=h4 j _ (List.getElem?_eq_getElem (show j<d.zero.length by omega));simp only [Value.cells] at e1;rw [Array.getElem?_eq_getElem hjs] at e1;cases e1;simp only [Array.getElem_toList];exact ofVal_one e2
  |_=>cases hs
 ·rename_i hag;rw [hag] at hs;cases v with
  |agg cs=>cases hs
  |_=>exact cell 0 z _ hz (by simp [Value.cells])
theorem lookK_sound (tok:TOk P ti) {h:Heap} {w:World} (s:Sim σ h w) {t:Nat} {m key:AV} {mv kv:Value} (hm:VRel σ m mv) (hkey:VRel σ key kv) {okf:Bool} {K:AV→Prop} (hk:lookK ti h t m key okf K):
  ∃v r,(Instr.lookup t mv kv okf).run P w= .ok v w∧VRel σ r v∧K r:=by
 unfold lookK at hk
 split at hk
 ·rename_i kt vt hkd;obtain ⟨d,hd,hdk⟩:=kindOf_some hkd;have hu:=(tok t d hd).map hdk
  split at hk
  ·rename_i dv hdv
   split at hk
   ·rename_i z hz;obtain ⟨zv,z1,z2⟩:=zeroV_rel (σ:=σ) (tok vt dv hdv) hz w;have tup:∀{a:AV} {v:Value} {b:Bool},VRel σ a v→VRel σ (bif okf then .tup [a,.bool b] else a) (if okf then .tuple #[v,.bool b] else v):=by
     intro a v b hv;cases okf with
     |false=>exact hv
     |true=>
      refine .tup rfl fun i c u x y=>?_
      match i with
      |0=>simp at x y;subst x;subst y;exact hv
      |1=>simp at x y;subst x;subst y;exact .bool
      |i+2=>simp at x
    split at hk
    ·cases hm;obtain ⟨r,r',k1,k2,k3,k4,k5⟩:=findP_sound tok (es:=[]) (ents:=[]) ⟨rfl,fun i k v e x=>by simp at x⟩ hkey hk w;have hr:r'=none:=by
      match r,r',k2 with
      |none,none,_=>rfl
      |some (i,v),some (j,u),⟨_,_,e,x,_⟩=>simp at x
     subst hr;refine ⟨if okf then .tuple #[zv,.bool false] else zv,_,?_,tup z2,k1⟩;simp [Instr.lookup,run_und hu,k3,k4,z1,Result.andThen]
    ·rename_i id ep
     split at hk
     ·rename_i ep' es ho;obtain ⟨rfl,hk⟩:=hk;cases hm with
      | @mp _ _ _ blk st sz n size hh=>
       obtain ⟨blk',st',sz',n',size',ents,clock,e1,e2,e3,⟨e4,e4b⟩,e5⟩:=s.obj id _ ho;rw [hh] at e1;cases e1;have hE:Ents σ es ents.toList:=⟨by rw [e4];simp,fun i k v e x y=>e5 i k v e x (by simpa using y)⟩;obtain ⟨r,r',k1,k2,k3,k4,k5⟩:=findP_sound tok hE hkey hk w
       match r,r',k2 with
       |none,none,_=>
        refine ⟨if okf then .tuple #[zv,.bool false] else zv,_,?_,tup z2,k1⟩;simp [Instr.lookup,run_und hu,MapKept.run_getObj_map e2,k3,k4,z1,Result.andThen]
       |some (i,v),some (j,u),⟨_,hv,_⟩=>
        refine ⟨if okf then .tuple #[u,.bool true] else u,_,?_,tup hv,k1⟩;simp [Instr.lookup,run_und hu,MapKept.run_getObj_map e2,k3,k4,z1,Result.andThen]
     ·exact hk.elim
    ·exact hk.elim
   ·exact hk.elim
  ·exact hk.elim
 ·exact hk.elim
theorem updK_sound (tok:TOk P ti) {h:Heap} {w:World} (s:Sim σ h w) {t:Nat} {m key v:AV} {mv kv vv:Value} (hm:VRel σ m mv) (hkey:VRel σ key kv) (hv:VRel σ v vv) {K:AV→Heap→Prop} (hk:updK ti h t m key v K):
  ∃h' w',(Instr.mapUpdate t mv kv vv).run P w= .ok () w'∧Mv σ h w σ h' w'∧K .u h':=by
 unfold updK at hk
 split at hk
 ·rename_i kt vt hkd;obtain ⟨d,hd,hdk⟩:=kindOf_some hkd;have hu:=(tok t d hd).map hdk
  split at hk
  ·rename_i id ep
   split at hk
   ·rename_i ep' es ho;obtain ⟨rfl,hk⟩:=hk;cases hm with
    | @mp _ _ _ blk st sz n size hh=>
     obtain ⟨blk',st',sz',n',size',ents,clock,e1,e2,e3,⟨e4,e4b⟩,e5⟩:=s.obj id _ ho;rw [hh] at e1;cases e1;have hE:Ents σ es ents.toList:=⟨by rw [e4];simp,fun i k v e x y=>e5 i k v e x (by simpa using y)⟩;obtain ⟨r,r',k1,k2,k3,k4,k5⟩:=findP_sound tok hE hkey hk w;have hlt:blk<w.heap.size:=(Array.getElem?_eq_some_iff.1 e2).1;have move:∀{es':List (AV×AV)} {ents':Array MapEntry} {clock':Nat},(es'.length=ents'.size∧BornOk ents' clock')→(∀(i:Nat) (k v:AV) (e:MapEntry),es'[i]? =some (k,v)→ents'[i]? =some e→VRel σ k e.key∧VRel σ v e.val)→
       Mv σ h w σ (h.set id (.map ep' es')) { w with heap:=w.heap.setIfInBounds blk (.map ents' clock') }:=by
      intro es' ents' clock' q1 q2;have hs:=MapKept.heap_set (o':=.map ents' clock') e2;refine s.write (blk:=blk) ho (by simp [AObj.blk,hh]) (by simp [AObj.blk,hh]) (fun b hb=>hs.2 b hb) (by simp) ⟨rfl,rfl,rfl⟩ ?_;exact ⟨blk,_,_,_,_,ents',clock',hh,hs.1,e3,q1,q2⟩
     match r,r',k2 with
     |none,none,_=>
      refine ⟨_,_,?_,move (es':=es++[(key,v)]) (ents':=ents.push { key:=kv,val:=vv,born:=clock }) (clock':=clock+1) ⟨by simp [e4],bornOk_push e4b _ _⟩ ?_,k1⟩
      ·simp [Instr.mapUpdate,run_und hu,MapKept.run_getObj_map e2,k3,k4,MapKept.run_setObj_map _ e2,Result.andThen]
      ·intro i k v' e x y;rw [List.getElem?_append] at x
       split at x
       ·rename_i hi;rw [Array.getElem?_push_lt (by omega)] at y;exact e5 i k v' e x (by rw [Array.getElem?_eq_getElem (by omega)];exact y)
       ·rename_i hi;have hil:i=es.length:=by
         have:=(List.getElem?_eq_some_iff.1 x).1;simp at this;omega
        subst hil;simp at x;obtain ⟨rfl,rfl⟩:=x;rw [e4] at y;simp at y;subst y;exact ⟨hkey,hv⟩
     |some (i,v0),some (j,u),⟨hij,hv0,e,x4,x5,x6⟩=>
      subst hij;have x4':ents[i]? =some e:=by simpa using x4
      refine ⟨_,_,?_,move (es':=es.set i (key,v)) (ents':=ents.modify i fun e=>{ e with key:=kv,val:=vv }) (clock':=clock) ⟨by simp [e4],bornOk_modify e4b _ _ _⟩ ?_,k1⟩
      ·simp [Instr.mapUpdate,run_und hu,MapKept.run_getObj_map e2,k3,k4,x4',x6,k5,MapKept.run_setObj_map _ e2,Result.andThen]
      ·intro i' k v' e' x y;rw [Array.getElem?_modify] at y;by_cases hii:i=i'
       ·subst hii;rw [if_pos rfl,x4'] at y;simp at y;subst y;rw [List.getElem?_set_self'] at x;cases hx:es[i]? with
        |none=>rw [hx] at x;cases x
        |some q=>rw [hx] at x;simp at x;obtain ⟨rfl,rfl⟩:=x;exact ⟨hkey,hv⟩
       ·rw [if_neg hii] at y;rw [List.getElem?_set_ne hii] at x;exact e5 i' k v' e' x y
   ·exact hk.elim
  ·exact hk.elim
 ·exact hk.elim
end
end Go.Ab

namespace Go.Ab
def rowK (d:TD) (r:Option (List AV)) (off:Nat) (K:AV→Prop):Prop:=
 match r with
 |some row=>(match aPart d.isAgg d.size off row with|some v=>K v|none=>False)
 |none=>False
def readK (ti:TI) (ev:Operand→AV) (h:Heap) (op:Op) (K:AV→Prop):Prop:=
 match op with
 | .load t p=>
  match ti t with
  |none=>False
  |some d=>match ev p with
   | .optr id ep _ i off=>(match h[id]? with|some (.vec ep' rows)=>ep'=ep∧rowK d rows[i]? off K|_=>False)
   | .lptr _ rows i off=>rowK d rows[i]? off K
   |_=>False
 | .lookup t m ix okf=>lookK ti h t (ev m) (ev ix) okf K
 |_=>False
def chunks (sz n:Nat) (cells:List AV):List (List AV):=(List.range n).map fun i=>(cells.drop (i * sz)).take sz
def allocK (ti:TI) (ev:Operand→AV) (id:Id) (h:Heap) (op:Op) (K:AV→Heap→Prop):Prop:=
 match h[id]? with
 |none|some (.vec ..)|some (.map ..)=>False
 |some .hole=>
 match op with
 | .alloc t=>match ti t with|some d=>∀ep,K (.optr id ep d.size 0 0) (h.set id (.vec ep [d.zero]))|none=>False
 | .box t x=>match ti t,(ev x).cells? with|some d,some cs=>if cs.length=d.size then ∀ep,K (.optr id ep d.size 0 0) (h.set id (.vec ep [cs])) else False|_,_=>False
 | .buildSlice t len parts=>
  match kindOf ti t with
  |some (.slice e)=>match ti e with
   |some d=>if len * d.size>2 ^ 24∨d.size=0 then False else
    fillK (fun i=>some (i * d.size,d.size)) ((List.replicate len d.zero).flatten) (parts.toList.map fun p=>(p.1,ev p.2)) fun cs=>
     ∀ep,K (.oslc id ep d.size 0 len false) (h.set id (.vec ep (chunks d.size len cs)))
   |none=>False
  |_=>False
 | .makeSlice t l c=>
  match kindOf ti t,ev l,ev c with
  |some (.slice e),.int _ n,.int _ m=>match ti e with
   |some d=>(0≤n∧n≤m∧(d.bytes:Int) * m≤281474976710656∧m≤9223372036854775807)∧
     ∀ep,K (.oslc id ep d.size 0 n.toNat false) (h.set id (.vec ep (List.replicate n.toNat d.zero)))
   |none=>False
  |_,_,_=>False
 | .makeMap t none=>∀ep,K (.mp id ep) (h.set id (.map ep []))
 |_=>False
def elemsOf (h:Heap) (size:Nat) (x:AV) (K:List (List AV)→Prop):Prop:=
 match x with
 | .oslc id ep sz off len _=>if sz=size then (match h[id]? with|some (.vec ep' rows)=>ep'=ep∧K ((rows.drop off).take len)|_=>False) else False
 | .lslc sz rows off len _=>if sz=size then K ((rows.drop off).take len) else False
 | .nils=>K []
 |_=>False
def nilEqK:AV→(Bool→Prop)→Prop
 | .nils,K=>K true
 | .lslc _ _ _ n _,K| .oslc _ _ _ _ n _,K=>(n=0→K true)∧K false
 |_,_=>False
def effK (ti:TI) (ev:Operand→AV) (id:Id) (h:Heap) (op:Op) (K:AV→Heap→Prop):Prop:=
 match op with
 | .store t p v=>
  match ti t,(ev v).cells? with
  |some d,some cs=>if cs.length=d.size then (match ev p with
   | .optr id ep _ i off=>(match h[id]? with
    |some (.vec ep' rows)=>ep'=ep∧(match rows[i]? with
     |some row=>if off+d.size≤row.length then forceL (row.take off++cs++row.drop (off+d.size)) fun row'=>K .u (h.set id (.vec ep (rows.set i row'))) else False
     |none=>False)
    |_=>False)
   |_=>False) else False
  |_,_=>False
 | .call c=>
  match c.callee,c.args.toList with
  | .builtin .append,[s,x]=>
   match kindOf0 ti c.argTypes,(c.argTypes[1]?).bind (kindOf ti) with
   |some (.slice e),some (.slice _)=>match ti e with
    |some d=>if d.size=0 then False else elemsOf h d.size (ev x) fun new=>
     match ev s with
     | .oslc id0 ep sz off len false=>if sz=d.size then (match h[id0]? with
      |some (.vec ep' rows)=>ep'=ep∧((len+new.length) * d.bytes≤140737488355328∧len+new.length≤9223372036854775807)∧
        ∀ep2,K (.oslc id0 ep2 sz 0 (len+new.length) false) (h.set id0 (.vec ep2 ((rows.drop off).take len++new)))
      |_=>False) else False
     | .nils| .oslc _ _ _ _ 0 true| .lslc _ _ _ 0 true=>if h.has id=false then False else
       (new.length * d.bytes≤140737488355328∧new.length≤9223372036854775807)∧∀ep2,K (.oslc id ep2 d.size 0 new.length false) (h.set id (.vec ep2 new))
     |_=>False
    |none=>False
   |_,_=>False
  | .builtin .copy,[s,x]=>
   match kindOf0 ti c.argTypes with
   |some (.slice e)=>match ti e with
    |some d=>elemsOf h d.size (ev x) fun new=>
     match ev s with
     | .oslc id0 ep sz off len _=>if sz=d.size then (match h[id0]? with
      |some (.vec ep' rows)=>ep'=ep∧K (.int .i64 ((min new.length len:Nat):Int)) (h.set id0 (.vec ep (rows.take off++new.take len++rows.drop (off+(new.take len).length))))
      |_=>False) else False
     |_=>False
    |none=>False
   |_=>False
  | .builtin .clear,[s]=>
   match kindOf0 ti c.argTypes with
   |some (.slice e)=>match ti e with
    |some d=>match ev s with
     | .oslc id0 ep sz off len _=>if sz=d.size then (match h[id0]? with
      |some (.vec ep' rows)=>ep'=ep∧K (.tup []) (h.set id0 (.vec ep (rows.take off++List.replicate len d.zero++rows.drop (off+len))))
      |_=>False) else False
     |_=>False
    |none=>False
   |_=>False
  |_,_=>False
 | .binOp op t x y _=>
  match ev y,kindOf ti t with
  | .nils,some (.slice _)=>(match op with
   | .eql=>nilEqK (ev x) fun b=>K (.bool b) h
   | .neq=>nilEqK (ev x) fun b=>K (.bool !b) h
   |_=>False)
  |_,_=>False
 | .mapUpdate t m k v=>updK ti h t (ev m) (ev k) (ev v) K
 |_=>False
section
variable {P:Program} {ti:TI} {σ:Sg}
theorem cell?_of {w:World} {blk:Nat} {cs:Array Value} {T:TypeId} {fz:Nat×Nat} (h:w.heap[blk]? =some (.cells cs T fz)) (o:Nat):w.cell? ⟨blk,o,none⟩=cs[o]?:=by
 simp [World.cell?,h]
theorem frozen?_of {w:World} {blk:Nat} {cs:Array Value} {T:TypeId} (h:w.heap[blk]? =some (.cells cs T (0,0))) (o:Nat):w.frozen? ⟨blk,o,none⟩=false:=by
 simp [World.frozen?,h]
theorem add_mk (b o n:Nat):Addr.add ⟨b,o,none⟩ n=⟨b,o+n,none⟩:=by
 unfold Addr.add;split
 ·rename_i h;subst h;rfl
 ·rfl
def RowAt (σ:Sg) (w:World) (b o:Nat) (row:List AV):Prop:=∀(j:Nat) (c:AV),row[j]? =some c→∃v,w.cell? ⟨b,o+j,none⟩=some v∧v.oneCell'=true∧VRel σ c v
theorem rowAt_obj {h:Heap} {w:World} (s:Sim σ h w) {id:Id} {ep i:Nat} {rows:List (List AV)} {row:List AV} (ho:h[id]? =some (.vec ep rows)) (hr:rows[i]? =some row)
  {blk st sz n size:Nat} (hp:σ.ρ id ep=some (.at blk st sz n size)):RowAt σ w blk (st+i * sz) row∧row.length=sz:=by
 rcases s.obj id _ ho with ⟨rfl,_⟩|⟨blk',st',sz',n',size',cs,T,h1,h2,h3,h4,h5,h6,h7,h8⟩
 ·simp at hr
 ·rw [hp] at h1;cases h1;refine ⟨fun j c hc=>?_,h7 i row hr⟩;obtain ⟨v,e1,e2,e3⟩:=h8 i j c (by simp [cellAt,hr,hc]);exact ⟨v,by rw [cell?_of h2];exact e1,e2,e3⟩
theorem rowAt_lit {h:Heap} {w:World} (s:Sim σ h w) {sz blk st i:Nat} {rows:List (List AV)} {row:List AV} {g:Nat→Nat→Value}
  (hc:∀(i j:Nat) (c:AV),cellAt rows i j=some c→∃cs,σ.FM blk=some cs∧cs[st+i * sz+j]? =some (g i j))
  (ho:∀(i j:Nat) (c:AV),cellAt rows i j=some c→(g i j).oneCell'=true)
  (hv:∀(i j:Nat) (c:AV),cellAt rows i j=some c→VRel σ.pure c (g i j)) (hr:rows[i]? =some row):RowAt σ w blk (st+i * sz) row:=by
 intro j c hj;have hcell:cellAt rows i j=some c:=by simp [cellAt,hr,hj]
 obtain ⟨cs,e1,e2⟩:=hc i j c hcell;obtain ⟨T,fz,e3⟩:=s.fm _ _ e1;exact ⟨g i j,by rw [cell?_of e3];exact e2,ho i j c hcell,(hv i j c hcell).mono σ.pure_le⟩
theorem RowAt.vals {w:World} {b o:Nat} {row:List AV} (h:RowAt σ w b o row):∃vs:List Value,CRels σ row vs∧∀(j:Nat) (v:Value),vs[j]? =some v→w.cell? (Addr.add ⟨b,o,none⟩ j)=some v:=by
 refine ⟨(List.range row.length).map fun j=>(w.cell? ⟨b,o+j,none⟩).getD undef,⟨⟨by simp,fun i a v x y=>?_⟩,fun v hv=>?_⟩,fun j v hv=>?_⟩
 ·obtain ⟨v',h1,h2,h3⟩:=h i a x;simp only [List.getElem?_map,Option.map_eq_some_iff] at y;obtain ⟨k,hk,rfl⟩:=y;obtain ⟨hk1,hk2⟩:=List.getElem?_eq_some_iff.1 hk;simp at hk2;subst hk2;rw [h1];exact h3
 ·simp only [List.mem_map,List.mem_range] at hv;obtain ⟨k,hk,rfl⟩:=hv;obtain ⟨v',h1,h2,h3⟩:=h k _ (List.getElem?_eq_getElem hk);rw [h1];exact h2
 ·simp only [List.getElem?_map,Option.map_eq_some_iff] at hv;obtain ⟨k,hk,rfl⟩:=hv;obtain ⟨hk1,hk2⟩:=List.getElem?_eq_some_iff.1 hk;simp at hk1 hk2;subst hk2;obtain ⟨v',h1,h2,h3⟩:=h j _ (List.getElem?_eq_getElem hk1);rw [add_mk,h1];rfl
theorem RowAt.drop {w:World} {b o:Nat} {row:List AV} (h:RowAt σ w b o row) (n:Nat):RowAt σ w b (o+n) (row.drop n):=by
 intro j c hj;rw [List.getElem?_drop] at hj;obtain ⟨v,a,b⟩:=h _ c hj;exact ⟨v,by rw [Nat.add_assoc];exact a,b⟩
theorem RowAt.take {w:World} {b o:Nat} {row:List AV} (h:RowAt σ w b o row) (n:Nat):RowAt σ w b o (row.take n):=by
 intro j c hj;rw [List.getElem?_take] at hj
 split at hj
 ·exact h j c hj
 ·cases hj
theorem load_row (tok:TOk P ti) {t:Nat} {d:TD} (hd:ti t=some d) {w:World} {b o off:Nat} {row:List AV} (h:RowAt σ w b o row) {a:AV} (ha:aPart d.isAgg d.size off row=some a):
  ∃v,(Instr.loadAt t (.pointer (some ⟨b,o+off,none⟩))).run P w= .ok v w∧VRel σ a v:=by
 unfold aPart at ha
 split at ha
 ·rename_i hl;cases hg:d.isAgg with
  |true=>
   simp only [hg,if_true,Option.some.injEq] at ha;subst ha;obtain ⟨vs,h1,h2⟩:=((h.drop off).take d.size).vals;have hlen:vs.length=d.size:=by have:=h1.1.1;simp at this;omega
   refine ⟨.agg vs.toArray,?_,.agg (by have:=h1.1.1;simpa using this) (by simpa using h1.2) (fun i c v x y=>h1.1.2 i c v x (by simpa using y))⟩;have:=run_loadCells_list (P:=P) w ⟨b,o+off,none⟩ vs h2;rw [hlen] at this;simp [Instr.loadAt,Instr.sureAddr,loadVar,(tok _ _ hd).run_isAgg,hg,(tok _ _ hd).run_sizeOf,this]
  |false=>
   simp only [hg,Bool.false_eq_true,if_false] at ha;obtain ⟨v,h1,h2,h3⟩:=h off a ha;exact ⟨v,by simp [Instr.loadAt,Instr.sureAddr,loadVar,(tok _ _ hd).run_isAgg,hg,h1],h3⟩
 ·cases ha
theorem read_sound (tok:TOk P ti) {ev:Operand→AV} {ρ:Operand→Value} (hr:OpRel σ ev ρ) {h:Heap} {w:World} (s:Sim σ h w) (o:Oper) {K:AV→Prop} (hk:readK ti ev h o.op K):
  ∃v r,(execOp ρ o).run P w= .ok (.value v) w∧VRel σ r v∧K r:=by
 obtain ⟨dst,op,type,pos,after,guard⟩:=o;simp only at hk;unfold readK at hk
 split at hk
 ·rename_i t p;have hp:=hr p
  split at hk
  ·exact hk.elim
  ·rename_i d hd;have fin:∀(b st off:Nat) (row:List AV),ρ p= .pointer (some ⟨b,st+off,none⟩)→RowAt σ w b st row→rowK d (some row) off K→
     ∃v r,(execOp ρ ⟨dst,.load t p,type,pos,after,guard⟩).run P w= .ok (.value v) w∧VRel σ r v∧K r:=by
    intro b st off row e1 e2 e3;unfold rowK at e3;simp only at e3
    split at e3
    ·rename_i v hv;obtain ⟨u,h1,h2⟩:=load_row tok hd e2 hv;exact run_v ⟨u,v,by rw [e1];exact h1,h2,e3⟩
    ·exact e3.elim
   split at hk
   ·rename_i id ep sz i off e;rw [e] at hp;generalize hv:ρ p=u at hp fin;cases hp with
    | @optr _ _ _ _ _ _ blk st n size hh=>
     split at hk
     ·rename_i ep' rows ho;obtain ⟨rfl,hk⟩:=hk;cases hrow:rows[i]? with
      |none=>rw [hrow] at hk;exact hk.elim
      |some row=>
       rw [hrow] at hk;exact fin _ _ _ _ rfl (rowAt_obj s ho hrow hh).1 hk
     ·exact hk.elim
   ·rename_i sz rows i off e;rw [e] at hp;generalize hv:ρ p=u at hp fin;cases hp with
    |lptr g hw hc ho hv'=>
     cases hrow:rows[i]? with
     |none=>rw [hrow] at hk;exact hk.elim
     |some row=>
      rw [hrow] at hk;exact fin _ _ _ _ rfl (rowAt_lit s hc ho hv' hrow) hk
   ·exact hk.elim
 ·rename_i t m ix okf;obtain ⟨v,r,h1,h2,h3⟩:=lookK_sound tok s (hr m) (hr ix) hk;exact ⟨v,r,by simp [execOp,h1],h2,h3⟩
 ·exact hk.elim
end
def appE (ti:TI) (ev:Operand→AV) (h:Heap) (c:Call) (K:AV→Heap→Prop):Prop:=
 match c.args.toList with
 | [s,x]=>
  match kindOf0 ti c.argTypes,(c.argTypes[1]?).bind (kindOf ti) with
  |some (.slice e),some (.slice _)=>match ti e with
   |some d=>if d.size=0 then False else elemsOf h d.size (ev x) fun new=>
    match ev s with
    | .oslc id0 ep sz _ len false=>if sz=d.size then len=0∧h[id0]? =some (.vec ep [])∧(new.length * d.bytes≤140737488355328∧new.length≤9223372036854775807)∧
      ∀ep2,K (.oslc id0 ep2 sz 0 new.length false) (h.set id0 (.vec ep2 new)) else False
    |_=>False
   |none=>False
  |_,_=>False
 |_=>False
end Go.Ab
