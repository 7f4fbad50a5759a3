/-
  What is proved here serves the law's text: each part says its own claim and its conditions. No condition is left open.
-/
import Derived.Test.YtohegnfjdfcebaaGreatDoorKH
set_option maxHeartbeats 32000000
set_option maxRecDepth 100000
set_option linter.unusedSimpArgs false
set_option linter.unusedVariables false

namespace Go.Ab
def AObj.reEp (e:Nat):AObj→AObj
 | .vec _ rows=>.vec e rows
 | .map _ es=>.map e es
 | .hole=>.hole
def AObj.ep?:AObj→Option Nat
 | .vec e _| .map e _=>some e
 | .hole=>none
theorem VRel.reid {σ σ':Sg} {id id2:Id} {ep ep2:Nat} (le:Sg.Le0 σ σ') (hρ:∀pl,σ.ρ id ep=some pl→σ'.ρ id2 ep2=some pl) {v:Value}:
  (∀{sz off len lim},VRel σ (.oslc id ep sz off len lim) v→VRel σ' (.oslc id2 ep2 sz off len lim) v)∧(∀{sz i off},VRel σ (.optr id ep sz i off) v→VRel σ' (.optr id2 ep2 sz i off) v)∧
  (VRel σ (.mp id ep) v→VRel σ' (.mp id2 ep2) v):=by
 refine ⟨fun h=>?_,fun h=>?_,fun h=>?_⟩
 ·cases h with
  |oslc h h1 h2 h3 h4 h5=>exact .oslc (hρ _ h) h1 h2 h3 h4 h5
  |onil h=>exact .onil (hρ _ h)
  |onilz h=>exact .onilz (hρ _ h)
  |oz h h1 h2=>exact .oz (hρ _ h) h1 h2
 ·cases h with
  |optr h=>exact .optr (hρ _ h)
 ·cases h with
  |mp h=>exact .mp (hρ _ h)
theorem Sim.move {σ:Sg} {h:Heap} {w:World} (s:Sim σ h w) {n ep:Nat} {o:AObj} (ho:h[Id.s n]? =some o) (he:o.ep?=some ep):
  ∃ep2 σ',Mv σ h w σ' ⟨h.st.set n .hole,h.dy++[o.reEp ep2]⟩ w∧∀pl,σ.ρ (.s n) ep=some pl→σ'.ρ (.d h.dy.length) ep2=some pl:=by
 obtain ⟨E,hE⟩:=s.fresh
 let σ':Sg:={ ρ:=fun i e=>if i= .d h.dy.length∧e=E then σ.ρ (.s n) ep else σ.ρ i e,FM:=σ.FM,RM:=σ.RM }
 have hnew:σ'.ρ (.d h.dy.length) E=σ.ρ (.s n) ep:=by show (if Id.d h.dy.length= .d h.dy.length∧E=E then _ else _)=_;simp
 have hle:Sg.Le σ σ':=by
  refine ⟨fun i e pl x=>?_,fun _ _ x=>x,fun _ _ x=>x⟩;show (if i= .d h.dy.length∧e=E then σ.ρ (.s n) ep else σ.ρ i e)=some pl;rw [if_neg]
  ·exact x
  ·rintro ⟨rfl,rfl⟩;rw [hE _ _ (Nat.le_refl _)] at x;cases x
 have hok:=s.obj _ _ ho;have hblk:(o.reEp E).blk σ' (.d h.dy.length)=o.blk σ (.s n):=by
  cases o with
  |hole=>rfl
  |vec e r=>simp only [AObj.ep?,Option.some.injEq] at he;subst he;simp [AObj.blk,AObj.reEp,hnew]
  |map e r=>simp only [AObj.ep?,Option.some.injEq] at he;subst he;simp [AObj.blk,AObj.reEp,hnew]
 have obj:∀(i:Id) (x:AObj),(⟨h.st.set n .hole,h.dy++[o.reEp E]⟩:Heap)[i]? =some x→x= .hole∨(i≠.s n∧h[i]? =some x)∨(i= .d h.dy.length∧x=o.reEp E):=by
  intro i x hx;cases i with
  |s m=>
   have hx:(h.st.set n .hole)[m]? =some x:=hx;by_cases e:m=n
   ·subst e;rw [List.getElem?_set_self'] at hx;cases hh:h.st[m]? with
    |none=>simp [hh] at hx
    |some y=>simp [hh] at hx;exact .inl hx.symm
   ·rw [List.getElem?_set_ne (Ne.symm e)] at hx;exact .inr (.inl ⟨fun e'=>e (Id.s.inj e'),hx⟩)
  |d m=>
   have hx:(h.dy++[o.reEp E])[m]? =some x:=hx;by_cases e:m<h.dy.length
   ·rw [List.getElem?_append_left e] at hx;exact .inr (.inl ⟨(fun e'=>by cases e'),hx⟩)
   ·rw [List.getElem?_append_right (by omega)] at hx;have hm:=(List.getElem?_eq_some_iff.1 hx).1;have hm:m=h.dy.length:=by simp at hm;omega
    subst hm;simp at hx;exact .inr (.inr ⟨rfl,hx.symm⟩)
 have blk_old:∀(i:Id) (x:AObj),h[i]? =some x→x.blk σ' i=x.blk σ i:=fun i x hx=>blk_le (s.obj i x hx) hle;refine ⟨E,σ',⟨hle,⟨s.fm,fun i x hx=>?_,fun i j oi oj b hi hj bi bj=>?_,⟨E+1,fun i e hee=>?_⟩,s.rm,fun p hp=>hle.FM _ _ (s.gl p hp)⟩,rfl,rfl,rfl,Nat.le_refl _,fun _ _ _=>rfl,fun b hb=>?_,fun _ x=>.inl x⟩,fun pl x=>by rw [hnew];exact x⟩
 ·rcases obj i x hx with rfl|⟨hi,h1⟩|⟨rfl,rfl⟩
  ·trivial
  ·exact (s.obj i x h1).keep hle fun b hb=>⟨rfl,Live.noFM s ⟨i,x,h1,hb⟩⟩
  ·cases o with
   |hole=>trivial
   |vec e rows=>
    simp only [AObj.ep?,Option.some.injEq] at he;subst he
    rcases hok with ⟨h1,h2⟩|⟨blk,st,sz,m,size,cs,T,h1,h2,h3,h4,h5,h6,h7,h8⟩
    ·exact .inl ⟨h1,by rw [hnew];exact h2⟩
    ·exact .inr ⟨blk,st,sz,m,size,cs,T,by rw [hnew];exact h1,h2,h3,h4,h5,h6,h7,fun i j c x=>let ⟨v,a,b,c⟩:=h8 i j c x;⟨v,a,b,c.mono hle⟩⟩
   |map e es=>
    simp only [AObj.ep?,Option.some.injEq] at he;subst he;obtain ⟨blk,st,sz,m,size,ents,clock,h1,h2,h3,h4,h5⟩:=hok;exact ⟨blk,st,sz,m,size,ents,clock,by rw [hnew];exact h1,h2,h3,h4,fun i k v e x y=>let ⟨a,b⟩:=h5 i k v e x y;⟨a.mono hle,b.mono hle⟩⟩
 ·rcases obj i oi hi with rfl|⟨ni,h1⟩|⟨rfl,rfl⟩
  ·simp [AObj.blk] at bi
  ·rcases obj j oj hj with rfl|⟨nj,h2⟩|⟨rfl,rfl⟩
   ·simp [AObj.blk] at bj
   ·rw [blk_old i oi h1] at bi;rw [blk_old j oj h2] at bj;exact s.apart i j oi oj b h1 h2 bi bj
   ·rw [blk_old i oi h1] at bi;rw [hblk] at bj;exact absurd (s.apart i _ oi o b h1 ho bi bj) ni
  ·rcases obj j oj hj with rfl|⟨nj,h2⟩|⟨rfl,rfl⟩
   ·simp [AObj.blk] at bj
   ·rw [blk_old j oj h2] at bj;rw [hblk] at bi;exact absurd (s.apart j _ oj o b h2 ho bj bi) nj
   ·rfl
 ·show (if i= .d h.dy.length∧e=E then σ.ρ (.s n) ep else σ.ρ i e)=none;rw [if_neg (fun x=>absurd x.2 (by omega))];exact hE _ _ (by omega)
 ·obtain ⟨i,x,hx,hbx⟩:=hb
  rcases obj i x hx with rfl|⟨ni,h1⟩|⟨rfl,rfl⟩
  ·simp [AObj.blk] at hbx
  ·rw [blk_old i x h1] at hbx;exact .inl ⟨i,x,h1,hbx⟩
  ·rw [hblk] at hbx;exact .inl ⟨_,o,ho,hbx⟩
def mov1 (h:Heap) (a:AV) (K:AV→Heap→Prop):Prop:=
 match a with
 | .oslc (.s n) ep sz off len lim=>match h[Id.s n]? with
  |some (.vec ep' rows)=>ep'=ep∧∀ep2,K (.oslc (.d h.dy.length) ep2 sz off len lim) ⟨h.st.set n .hole,h.dy++[.vec ep2 rows]⟩
  |_=>False
 | .optr (.s n) ep sz i off=>match h[Id.s n]? with
  |some (.vec ep' rows)=>ep'=ep∧∀ep2,K (.optr (.d h.dy.length) ep2 sz i off) ⟨h.st.set n .hole,h.dy++[.vec ep2 rows]⟩
  |_=>False
 | .mp (.s n) ep=>match h[Id.s n]? with
  |some (.map ep' es)=>ep'=ep∧∀ep2,K (.mp (.d h.dy.length) ep2) ⟨h.st.set n .hole,h.dy++[.map ep2 es]⟩
  |_=>False
 |a=>K a h
def movCells (h:Heap):List AV→(List AV→Heap→Prop)→Prop
 | [],K=>K [] h
 |a::r,K=>mov1 h a fun a' h'=>movCells h' r fun r' h''=>K (a'::r') h''
def movA (h:Heap) (a:AV) (K:AV→Heap→Prop):Prop:=
 match a with
 | .agg cs=>movCells h cs fun cs' h'=>K (.agg cs') h'
 | .fn f first cap=>movCells h cap fun cap' h'=>K (.fn f first cap') h'
 |a=>mov1 h a K
def movAs (h:Heap):List AV→(List AV→Heap→Prop)→Prop
 | [],K=>K [] h
 |a::r,K=>movA h a fun a' h'=>movAs h' r fun r' h''=>K (a'::r') h''
def movK (h:Heap) (a:AV) (K:AV→Heap→Prop):Prop:=
 match a with
 | .tup cs=>movAs h cs fun cs' h'=>K (.tup cs') h'
 |a=>movA h a K
theorem mov1_sound {σ:Sg} {h:Heap} {w:World} (s:Sim σ h w) {a:AV} {v:Value} (hv:VRel σ a v) {K:AV→Heap→Prop} (hk:mov1 h a K):
  ∃σ' h' a',Mv σ h w σ' h' w∧VRel σ' a' v∧K a' h':=by
 unfold mov1 at hk
 split at hk
 ·split at hk
  ·rename_i ep' rows ho;obtain ⟨rfl,hk⟩:=hk;obtain ⟨ep2,σ',m,hp⟩:=s.move ho rfl;exact ⟨σ',_,_,m,(VRel.reid m.le.le0 hp).1 hv,hk ep2⟩
  ·exact hk.elim
 ·split at hk
  ·rename_i ep' rows ho;obtain ⟨rfl,hk⟩:=hk;obtain ⟨ep2,σ',m,hp⟩:=s.move ho rfl;exact ⟨σ',_,_,m,(VRel.reid m.le.le0 hp).2.1 hv,hk ep2⟩
  ·exact hk.elim
 ·split at hk
  ·rename_i ep' rows ho;obtain ⟨rfl,hk⟩:=hk;obtain ⟨ep2,σ',m,hp⟩:=s.move ho rfl;exact ⟨σ',_,_,m,(VRel.reid m.le.le0 hp).2.2 hv,hk ep2⟩
  ·exact hk.elim
 ·exact ⟨σ,h,a,.refl s,hv,hk⟩
theorem movCells_sound:∀{cs:List AV} {vs:List Value} {σ:Sg} {h:Heap} {w:World},Sim σ h w→VRels σ cs vs→∀{K:List AV→Heap→Prop},movCells h cs K→
  ∃σ' h' cs',Mv σ h w σ' h' w∧VRels σ' cs' vs∧K cs' h':=by
 intro cs
 induction cs with
 |nil=>intro vs σ h w s hv K hk;exact ⟨σ,h,[],.refl s,hv,hk⟩
 |cons c cs ih=>
  intro vs σ h w s hv K hk
  match vs,hv with
  | [],hv=>cases hv.1
  |v::vs,hv=>
   obtain ⟨σ1,h1,c',m1,r1,k1⟩:=mov1_sound s (hv.2 0 c v rfl rfl) hk;have htl:VRels σ cs vs:=⟨by have:=hv.1;simpa using this,fun i a v x y=>hv.2 (i+1) a v (by simpa using x) (by simpa using y)⟩;obtain ⟨σ2,h2,cs',m2,r2,k2⟩:=ih m1.sim (htl.mono m1.le) k1;exact ⟨σ2,h2,c'::cs',m1.trans m2,VRels.cons (r1.mono m2.le) r2,k2⟩
theorem movA_sound {σ:Sg} {h:Heap} {w:World} (s:Sim σ h w) {a:AV} {v:Value} (hv:VRel σ a v) {K:AV→Heap→Prop} (hk:movA h a K):
  ∃σ' h' a',Mv σ h w σ' h' w∧VRel σ' a' v∧K a' h':=by
 unfold movA at hk
 split at hk
 ·rename_i cs;cases hv with
  | @agg _ _ vs l o hh=>
   obtain ⟨σ',h',cs',m,r,k⟩:=movCells_sound s (vs:=vs.toList) ⟨by simpa using l,fun i a v x y=>hh i a v x (by simpa using y)⟩ hk;exact ⟨σ',h',_,m,.agg (by have:=r.1;simpa using this) o (fun i a v x y=>r.2 i a v x (by simpa using y)),k⟩
 ·rename_i f first cap
  cases hv with
  | @fn _ _ _ _ first' cap' l1 l2 v1 v2=>
   obtain ⟨σ',h',cs',m,r,k⟩:=movCells_sound s (vs:=cap'.toList) ⟨by simpa using l2,fun i a v x y=>v2 i a v x (by simpa using y)⟩ hk;exact ⟨σ',h',_,m,.fn l1 (by have:=r.1;simpa using this) (fun i a v x y=>(v1 i a v x y).mono m.le) (fun i a v x y=>r.2 i a v x (by simpa using y)),k⟩
 ·exact mov1_sound s hv hk
theorem movAs_sound:∀{cs:List AV} {vs:List Value} {σ:Sg} {h:Heap} {w:World},Sim σ h w→VRels σ cs vs→∀{K:List AV→Heap→Prop},movAs h cs K→
  ∃σ' h' cs',Mv σ h w σ' h' w∧VRels σ' cs' vs∧K cs' h':=by
 intro cs
 induction cs with
 |nil=>intro vs σ h w s hv K hk;exact ⟨σ,h,[],.refl s,hv,hk⟩
 |cons c cs ih=>
  intro vs σ h w s hv K hk
  match vs,hv with
  | [],hv=>cases hv.1
  |v::vs,hv=>
   obtain ⟨σ1,h1,c',m1,r1,k1⟩:=movA_sound s (hv.2 0 c v rfl rfl) hk;have htl:VRels σ cs vs:=⟨by have:=hv.1;simpa using this,fun i a v x y=>hv.2 (i+1) a v (by simpa using x) (by simpa using y)⟩;obtain ⟨σ2,h2,cs',m2,r2,k2⟩:=ih m1.sim (htl.mono m1.le) k1;exact ⟨σ2,h2,c'::cs',m1.trans m2,VRels.cons (r1.mono m2.le) r2,k2⟩
theorem movK_sound {σ:Sg} {h:Heap} {w:World} (s:Sim σ h w) {a:AV} {v:Value} (hv:VRel σ a v) {K:AV→Heap→Prop} (hk:movK h a K):
  ∃σ' h' a',Mv σ h w σ' h' w∧VRel σ' a' v∧K a' h':=by
 unfold movK at hk
 split at hk
 ·rename_i cs;cases hv with
  | @tup _ _ vs l hh=>
   obtain ⟨σ',h',cs',m,r,k⟩:=movAs_sound s (vs:=vs.toList) ⟨by simpa using l,fun i a v x y=>hh i a v x (by simpa using y)⟩ hk;exact ⟨σ',h',_,m,.tup (by have:=r.1;simpa using this) (fun i a v x y=>r.2 i a v x (by simpa using y)),k⟩
 ·exact movA_sound s hv hk
def pureObj:AObj→Prop
 | .vec _ rows=>pureRows rows
 | .map _ _=>False
 | .hole=>True
def fzC (dy:List AObj):AV→AV
 | .oslc (.d k) ep sz off len lim=>match dy[k]? with
  |some (.vec ep' rows)=>if ep'=ep then .lslc sz rows off len lim else .u
  |_=>.u
 |a=>a
def AObj.fz (dy:List AObj):AObj→AObj
 | .vec ep rows=>.vec ep (rows.map fun r=>r.map (fzC dy))
 | .map ep es=>.map ep (es.map fun p=>(fzC dy p.1,fzC dy p.2))
 | .hole=>.hole
def fzV (dy:List AObj):AV→AV
 | .agg cs=>.agg (cs.map (fzC dy))
 | .tup cs=>.tup (cs.map fun a=>match a with| .agg cs=>.agg (cs.map (fzC dy))|a=>fzC dy a)
 |a=>fzC dy a
def frzD (h:Heap) (a:AV) (K:AV→Heap→Prop):Prop:=(∀o∈h.dy,pureObj o)∧K (fzV h.dy a) ⟨h.st.map (AObj.fz h.dy),[]⟩
theorem frzD_sound {σ:Sg} {h:Heap} {w:World} (s:Sim σ h w) {a:AV} {v:Value} (hv:VRel σ a v) {K:AV→Heap→Prop} (hk:frzD h a K):
  ∃σ' h' a',Mv σ h w σ' h' w∧VRel σ' a' v∧K a' h':=by
 classical
 obtain ⟨hp,hk⟩:=hk
 let D:Nat→Prop:=fun b=>∃(k:Nat) (o:AObj),h.dy[k]? =some o∧o.blk σ (.d k)=some b
 let σ':Sg:={ ρ:=σ.ρ,FM:=fun b=>if D b then (match w.heap[b]? with|some (.cells cs _ _)=>some cs|_=>none) else σ.FM b,RM:=σ.RM }
 have hDl:∀b,D b→Live σ h b:=fun b ⟨k,o,h1,h2⟩=>⟨.d k,o,h1,h2⟩;have hle:Sg.Le σ σ':=by
  refine ⟨fun _ _ _ x=>x,fun b cs x=>?_,fun _ _ x=>x⟩;show (if D b then _ else σ.FM b)=some cs;rw [if_neg]
  ·exact x
  ·intro hd;rw [Live.noFM s (hDl b hd)] at x;cases x
 have cell:∀{c:AV} {u:Value},VRel σ c u→VRel σ' (fzC h.dy c) u:=by
  intro c u hc;unfold fzC
  split
  ·rename_i k ep sz off len lim
   split
   ·rename_i ep' rows ho
    split
    ·rename_i e;subst e;have hpr:pureRows rows:=hp _ (List.mem_of_getElem? ho);cases hc with
     | @oslc _ _ _ _ _ _ _ blk st n size cap hh h1 h2 h3 h4 h5=>
      rcases s.obj (.d k) _ ho with ⟨_,x⟩|⟨blk',st',sz',n',size',cells,T,e1,e2,e3,e4,e5,e6,e7,e8⟩
      ·rw [hh] at x;cases x
      rw [hh] at e1;cases e1;have hfm:σ'.FM blk=some cells:=by
       show (if D blk then (match w.heap[blk]? with|some (.cells cs _ _)=>some cs|_=>none) else σ.FM blk)=some cells;rw [if_pos ⟨k,_,ho,by simp [AObj.blk,hh]⟩,e2]
      refine .lslc (blk:=blk) (st:=st) (fun i j=>cells.getD (st+i * sz+j) undef) e7 (fun i j c hc=>?_) (fun i j c hc=>?_) (fun i j c hc=>?_) (by omega) h3 h5
      ·obtain ⟨v,f1,f2,f3⟩:=e8 i j c hc;exact ⟨cells,hfm,by rw [f1];simp [f1]⟩
      ·obtain ⟨v,f1,f2,f3⟩:=e8 i j c hc;simp [f1,f2]
      ·obtain ⟨v,f1,f2,f3⟩:=e8 i j c hc;obtain ⟨row,hr,hj⟩:=cellAt_get hc;have hpc:=hpr row (List.mem_of_getElem? hr) c (List.mem_of_getElem? hj);have:=(f3.mono hle).pure1 hpc;simpa [f1] using this
     |onil hh=>exact .lnil
     |onilz hh=>exact .lz
     |oz hh h1 h2=>exact .lz
    ·exact .u
   ·exact .u
  ·exact hc.mono hle
 have cells:∀{cs:List AV} {us:List Value},(∀(i:Nat) (c:AV) (u:Value),cs[i]? =some c→us[i]? =some u→VRel σ c u)→∀(i:Nat) (c:AV) (u:Value),(cs.map (fzC h.dy))[i]? =some c→us[i]? =some u→VRel σ' c u:=by
  intro cs us hh i c u x y;rw [List.getElem?_map,Option.map_eq_some_iff] at x;obtain ⟨c',x,rfl⟩:=x;exact cell (hh i c' u x y)
 have aggs:∀{x:AV} {u:Value},VRel σ x u→VRel σ' (match x with| .agg cs=>.agg (cs.map (fzC h.dy))|a=>fzC h.dy a) u:=by
  intro x u hx
  split
  ·cases hx with
   | @agg _ _ vs l o hh=>exact .agg (by simpa using l) o fun i c v x y=>cells (us:=vs.toList) (fun i c v x y=>hh i c v x (by simpa using y)) i c v x (by simpa using y)
  ·exact cell hx
 have obj:∀(i:Id) (x:AObj),(⟨h.st.map (AObj.fz h.dy),[]⟩:Heap)[i]? =some x→∃n o,i= .s n∧h[i]? =some o∧x=o.fz h.dy:=by
  intro i x hx;cases i with
  |s n=>
   have hx:(h.st.map (AObj.fz h.dy))[n]? =some x:=hx;rw [List.getElem?_map,Option.map_eq_some_iff] at hx;obtain ⟨o,h1,rfl⟩:=hx;exact ⟨n,o,rfl,h1,rfl⟩
  |d n=>have hx:([]:List AObj)[n]? =some x:=hx;simp at hx
 have blk_fz:∀(i:Id) (o:AObj),(o.fz h.dy).blk σ' i=o.blk σ i:=fun i o=>by cases o<;>rfl
 have nD:∀(n:Nat) (o:AObj) (b:Nat),h[Id.s n]? =some o→o.blk σ (.s n)=some b→¬D b:=by
  rintro n o b ho hb ⟨k,o2,h1,h2⟩;have:=s.apart (.s n) (.d k) o o2 b ho h1 hb h2;cases this
 refine ⟨σ',_,_,⟨hle,⟨fun b cs x=>?_,fun i x hx=>?_,fun i j oi oj b hi hj bi bj=>?_,s.fresh,s.rm,fun p hp=>hle.FM _ _ (s.gl p hp)⟩,rfl,rfl,rfl,Nat.le_refl _,fun _ _ _=>rfl,fun b hb=>?_,fun b hb=>?_⟩,?_,hk⟩
 ·have x:(if D b then (match w.heap[b]? with|some (.cells cs _ _)=>some cs|_=>none) else σ.FM b)=some cs:=x
  split at x
  ·split at x
   ·rename_i cs' T fz e;cases x;exact ⟨T,fz,e⟩
   ·cases x
  ·exact s.fm b cs x
 ·obtain ⟨n,o,rfl,ho,rfl⟩:=obj i x hx;have hok:=s.obj _ _ ho;have nfm:∀b,o.blk σ (.s n)=some b→σ'.FM b=none:=fun b hb=>by
   show (if D b then _ else σ.FM b)=none;rw [if_neg (nD n o b ho hb)];exact Live.noFM s ⟨_,o,ho,hb⟩
  cases o with
  |hole=>trivial
  |vec ep rows=>
   rcases hok with ⟨h1,h2⟩|⟨blk,st,sz,m,size,cs,T,h1,h2,h3,h4,h5,h6,h7,h8⟩
   ·exact .inl ⟨by rw [h1];rfl,h2⟩
   ·refine .inr ⟨blk,st,sz,m,size,cs,T,h1,h2,h3,by simpa using h4,h5,nfm blk (by simp [AObj.blk,h1]),fun i row hr=>?_,fun i j c x=>?_⟩
    ·rw [List.getElem?_map,Option.map_eq_some_iff] at hr;obtain ⟨r,hr,rfl⟩:=hr;simpa using h7 i r hr
    ·obtain ⟨c',x',rfl⟩:=cellAt_map x;obtain ⟨v,a,b,d⟩:=h8 i j c' x';exact ⟨v,a,b,cell d⟩
  |map ep es=>
   obtain ⟨blk,st,sz,m,size,ents,clock,h1,h2,h3,h4,h5⟩:=hok;refine ⟨blk,st,sz,m,size,ents,clock,h1,h2,nfm blk (by simp [AObj.blk,h1]),by simpa using h4,fun i k v e x y=>?_⟩;rw [List.getElem?_map,Option.map_eq_some_iff] at x;obtain ⟨⟨k',v'⟩,x,e1⟩:=x;cases e1;obtain ⟨a,b⟩:=h5 i k' v' e x y;exact ⟨cell a,cell b⟩
 ·obtain ⟨n,o,rfl,ho,rfl⟩:=obj i oi hi;obtain ⟨n',o',rfl,ho',rfl⟩:=obj j oj hj;rw [blk_fz] at bi bj;exact s.apart _ _ o o' b ho ho' bi bj
 ·obtain ⟨i,x,hx,hbx⟩:=hb;obtain ⟨n,o,rfl,ho,rfl⟩:=obj i x hx;rw [blk_fz] at hbx;exact .inl ⟨_,o,ho,hbx⟩
 ·have hb:(if D b then (match w.heap[b]? with|some (.cells cs _ _)=>some cs|_=>none) else σ.FM b)≠none:=hb
  split at hb
  ·rename_i hd;exact .inr (.inl (hDl b hd))
  ·exact .inl hb
 ·unfold fzV
  split
  ·rename_i cs;cases hv with
   | @agg _ _ vs l o hh=>exact .agg (by simpa using l) o fun i c v x y=>cells (us:=vs.toList) (fun i c v x y=>hh i c v x (by simpa using y)) i c v x (by simpa using y)
  ·rename_i cs;cases hv with
   | @tup _ _ vs l hh=>
    refine .tup (by simpa using l) fun i c v x y=>?_;rw [List.getElem?_map,Option.map_eq_some_iff] at x;obtain ⟨c',x,rfl⟩:=x;exact aggs (hh i c' v x y)
  ·exact cell hv

def fcS (n:Nat) (rows:List (List AV)):AV→AV
 | .oslc (.s k) ep sz off len lim=>match Nat.beq k n with
  |true=>.lslc sz rows off len lim
  |false=>.oslc (.s k) ep sz off len lim
 |a=>a
def AObj.fcO (n:Nat) (rows:List (List AV)):AObj→AObj
 | .vec ep rs=>.vec ep (rs.map fun r=>r.map (fcS n rows))
 | .map ep es=>.map ep (es.map fun p=>(fcS n rows p.1,fcS n rows p.2))
 | .hole=>.hole
def fcV (n:Nat) (rows:List (List AV)):AV→AV
 | .agg cs=>.agg (cs.map (fcS n rows))
 | .tup cs=>.tup (cs.map fun a=>match a with| .agg cs=>.agg (cs.map (fcS n rows))|a=>fcS n rows a)
 |a=>fcS n rows a
def celV:AV→List AV
 | .agg cs=>cs
 | .tup cs=>cs.flatMap fun a=>match a with| .agg cs=>cs|a=>[a]
 |a=>[a]
def celO:AObj→List AV
 | .vec _ rows=>rows.flatten
 | .map _ es=>es.flatMap fun p=>[p.1,p.2]
 | .hole=>[]
def eqsP (n ep:Nat):List AV→Prop
 | []=>True
 |a::r=>match a with
  | .oslc (.s k) ep' _ _ _ _=>(match Nat.beq k n with
   |true=>ep'=ep∧eqsP n ep r
   |false=>eqsP n ep r)
  |_=>eqsP n ep r
def okS (n ep:Nat):AV→Prop
 | .oslc (.s k) ep' _ _ _ _=>k=n→ep'=ep
 |_=>True
theorem eqsP_all {n ep:Nat}:∀{l:List AV},eqsP n ep l→∀a∈l,okS n ep a:=by
 intro l
 induction l with
 |nil=>intro _ a h;cases h
 |cons b r ih=>
  intro h a ha;unfold eqsP at h
  split at h
  ·rename_i k ep' sz off len lim
   split at h
   ·rcases List.mem_cons.1 ha with rfl|ha
    ·intro _;exact h.1
    ·exact ih h.2 a ha
   ·rename_i hb
    rcases List.mem_cons.1 ha with rfl|ha
    ·intro e;subst e;simp at hb
    ·exact ih h a ha
  ·rename_i hn
   rcases List.mem_cons.1 ha with rfl|ha
   ·unfold okS
    split
    ·rename_i k ep' _ _ _ _;exact (hn k ep' _ _ _ _ rfl).elim
    ·trivial
   ·exact ih h a ha
def allO (n ep:Nat):List AObj→Prop
 | []=>True
 |o::r=>eqsP n ep (celO o)∧allO n ep r
theorem allO_get {n ep:Nat}:∀{l:List AObj},allO n ep l→∀o∈l,eqsP n ep (celO o)
 | [],_,_,h=>by cases h
 |o::r,h,x,hx=>by
  rcases List.mem_cons.1 hx with rfl|hx
  ·exact h.1
  ·exact allO_get h.2 x hx
def fzSK (n:Nat) (fr:List AV) (h:Heap) (K:List AV→Heap→Prop):Prop:=
 match h.st[n]? with
 |some (.vec ep rows)=>pureRows rows∧eqsP n ep (fr.flatMap celV)∧allO n ep (h.st.set n .hole)∧allO n ep h.dy∧
   K (fr.map (fcV n rows)) ⟨(h.st.set n .hole).map (AObj.fcO n rows),h.dy.map (AObj.fcO n rows)⟩
 |_=>match Nat.ble 1000 n with
  |true=>K (fr.set (n-1000) .u) h
  |false=>K fr h
theorem fzSK_sound {n:Nat} {σ:Sg} {fr:List AV} {h:Heap} {w:World} {vs:List Value} {K:List AV→Heap→Prop} (hf:VRels σ fr vs) (s:Sim σ h w) (hk:fzSK n fr h K):
  ∃σ' fr' h',K fr' h'∧Mv σ h w σ' h' w∧VRels σ' fr' vs:=by
 classical
 unfold fzSK at hk
 split at hk
 case h_2=>
  split at hk
  ·refine ⟨σ,_,h,hk,.refl s,⟨by simpa using hf.1,fun i a v x y=>?_⟩⟩;rw [List.getElem?_set] at x
   split at x
   ·split at x
    ·cases x;exact .u
    ·cases x
   ·exact hf.2 i a v x y
  ·exact ⟨σ,fr,h,hk,.refl s,hf⟩
 rename_i ep rows hn;have hn:h[Id.s n]? =some (.vec ep rows):=hn;obtain ⟨hpr,q1,q2,q3,hk⟩:=hk
 let D:Nat→Prop:=fun b=>(AObj.vec ep rows).blk σ (.s n)=some b
 let σ':Sg:={ ρ:=σ.ρ,FM:=fun b=>if D b then (match w.heap[b]? with|some (.cells cs _ _)=>some cs|_=>none) else σ.FM b,RM:=σ.RM }
 have hDl:∀b,D b→Live σ h b:=fun b hb=>⟨.s n,_,hn,hb⟩;have hle:Sg.Le σ σ':=by
  refine ⟨fun _ _ _ x=>x,fun b cs x=>?_,fun _ _ x=>x⟩;show (if D b then _ else σ.FM b)=some cs;rw [if_neg]
  ·exact x
  ·intro hd;rw [Live.noFM s (hDl b hd)] at x;cases x
 have cell:∀{c:AV} {u:Value},okS n ep c→VRel σ c u→VRel σ' (fcS n rows c) u:=by
  intro c u hc0 hc;unfold fcS
  split
  ·rename_i k ep' sz off len lim
   split
   ·rename_i e;have e:k=n:=by simpa using e
    subst e;have e2:ep'=ep:=hc0 rfl;subst e2;cases hc with
    | @oslc _ _ _ _ _ _ _ blk st n size cap hh h1 h2 h3 h4 h5=>
     rcases s.obj _ _ hn with ⟨_,x⟩|⟨blk',st',sz',n',size',cells,T,e1,e2,e3,e4,e5,e6,e7,e8⟩
     ·rw [hh] at x;cases x
     rw [hh] at e1;cases e1;have hfm:σ'.FM blk=some cells:=by
      show (if D blk then (match w.heap[blk]? with|some (.cells cs _ _)=>some cs|_=>none) else σ.FM blk)=some cells;rw [if_pos (by show (AObj.vec _ _).blk σ _=some blk;simp [AObj.blk,hh]),e2]
     refine .lslc (blk:=blk) (st:=st) (fun i j=>cells.getD (st+i * sz+j) undef) e7 (fun i j c hc=>?_) (fun i j c hc=>?_) (fun i j c hc=>?_) (by omega) h3 h5
     ·obtain ⟨v,f1,f2,f3⟩:=e8 i j c hc;exact ⟨cells,hfm,by rw [f1];simp [f1]⟩
     ·obtain ⟨v,f1,f2,f3⟩:=e8 i j c hc;simp [f1,f2]
     ·obtain ⟨v,f1,f2,f3⟩:=e8 i j c hc;obtain ⟨row,hr,hj⟩:=cellAt_get hc;have hpc:=hpr row (List.mem_of_getElem? hr) c (List.mem_of_getElem? hj);have:=(f3.mono hle).pure1 hpc;simpa [f1] using this
    |onil hh=>exact .lnil
    |onilz hh=>exact .lz
    |oz hh h1 h2=>exact .lz
   ·exact hc.mono hle
  ·exact hc.mono hle
 have cells:∀{cs:List AV} {us:List Value},(∀a∈cs,okS n ep a)→(∀(i:Nat) (c:AV) (u:Value),cs[i]? =some c→us[i]? =some u→VRel σ c u)→∀(i:Nat) (c:AV) (u:Value),(cs.map (fcS n rows))[i]? =some c→us[i]? =some u→VRel σ' c u:=by
  intro cs us hq hh i c u x y;rw [List.getElem?_map,Option.map_eq_some_iff] at x;obtain ⟨c',x,rfl⟩:=x;exact cell (hq _ (List.mem_of_getElem? x)) (hh i c' u x y)
 have aggs:∀{x:AV} {u:Value},(∀a∈(match x with| .agg cs=>cs|a=>[a]),okS n ep a)→VRel σ x u→VRel σ' (match x with| .agg cs=>.agg (cs.map (fcS n rows))|a=>fcS n rows a) u:=by
  intro x u hq hx
  split at hq
  ·cases hx with
   | @agg _ _ vs l o hh=>exact .agg (by simpa using l) o fun i c v x y=>cells (us:=vs.toList) hq (fun i c v x y=>hh i c v x (by simpa using y)) i c v x (by simpa using y)
  ·exact cell (hq _ (List.mem_singleton.2 rfl)) hx
 have vals:∀{a:AV} {v:Value},(∀x∈celV a,okS n ep x)→VRel σ a v→VRel σ' (fcV n rows a) v:=by
  intro a v hq hv;unfold celV at hq;unfold fcV
  split at hq
  ·rename_i cs;cases hv with
   | @agg _ _ vs l o hh=>exact .agg (by simpa using l) o fun i c v x y=>cells (us:=vs.toList) hq (fun i c v x y=>hh i c v x (by simpa using y)) i c v x (by simpa using y)
  ·rename_i cs;cases hv with
   | @tup _ _ vs l hh=>
    refine .tup (by simpa using l) fun i c v x y=>?_;rw [List.getElem?_map,Option.map_eq_some_iff] at x;obtain ⟨c',x,rfl⟩:=x;exact aggs (fun a ha=>hq a (List.mem_flatMap.2 ⟨c',List.mem_of_getElem? x,ha⟩)) (hh i c' v x y)
  ·exact cell (hq _ (List.mem_singleton.2 rfl)) hv
 have a1:=eqsP_all q1;have obQ:∀(i:Id) (o:AObj),i≠.s n→h[i]? =some o→∀a∈celO o,okS n ep a:=by
  intro i o hi ho a ha;cases i with
  |s k=>
   have ho:h.st[k]? =some o:=ho;exact eqsP_all (allO_get q2 o (List.mem_of_getElem? (show (h.st.set n .hole)[k]? =some o by rw [List.getElem?_set_ne (fun e=>hi (congrArg Id.s e.symm))];exact ho))) a ha
  |d k=>exact eqsP_all (allO_get q3 o (List.mem_of_getElem? (show h.dy[k]? =some o from ho))) a ha
 have obj:∀(i:Id) (x:AObj),(⟨(h.st.set n .hole).map (AObj.fcO n rows),h.dy.map (AObj.fcO n rows)⟩:Heap)[i]? =some x→x= .hole∨(i≠.s n∧∃o,h[i]? =some o∧x=o.fcO n rows):=by
  intro i x hx;cases i with
  |s m=>
   have hx:((h.st.set n .hole).map (AObj.fcO n rows))[m]? =some x:=hx;rw [List.getElem?_map,Option.map_eq_some_iff] at hx;obtain ⟨o,h1,rfl⟩:=hx;by_cases e:m=n
   ·subst e;rw [List.getElem?_set_self'] at h1;cases hh:h.st[m]? with
    |none=>simp [hh] at h1
    |some y=>simp [hh] at h1;subst h1;exact .inl rfl
   ·rw [List.getElem?_set_ne (Ne.symm e)] at h1;exact .inr ⟨fun e'=>e (Id.s.inj e'),o,h1,rfl⟩
  |d m=>
   have hx:(h.dy.map (AObj.fcO n rows))[m]? =some x:=hx;rw [List.getElem?_map,Option.map_eq_some_iff] at hx;obtain ⟨o,h1,rfl⟩:=hx;exact .inr ⟨(fun e'=>by cases e'),o,h1,rfl⟩
 have blk_fz:∀(i:Id) (o:AObj),(o.fcO n rows).blk σ' i=o.blk σ i:=fun i o=>by cases o<;>rfl
 have nD:∀(i:Id) (o:AObj) (b:Nat),i≠.s n→h[i]? =some o→o.blk σ i=some b→¬D b:=by
  rintro i o b hi ho hb hd;exact hi (s.apart i (.s n) o _ b ho hn hb hd)
 refine ⟨σ',_,_,hk,⟨hle,⟨fun b cs x=>?_,fun i x hx=>?_,fun i j oi oj b hi hj bi bj=>?_,s.fresh,s.rm,fun p hp=>hle.FM _ _ (s.gl p hp)⟩,rfl,rfl,rfl,Nat.le_refl _,fun _ _ _=>rfl,fun b hb=>?_,fun b hb=>?_⟩,?_⟩
 ·have x:(if D b then (match w.heap[b]? with|some (.cells cs _ _)=>some cs|_=>none) else σ.FM b)=some cs:=x
  split at x
  ·split at x
   ·rename_i cs' T fz e;cases x;exact ⟨T,fz,e⟩
   ·cases x
  ·exact s.fm b cs x
 ·rcases obj i x hx with rfl|⟨hi,o,ho,rfl⟩
  ·trivial
  have hok:=s.obj _ _ ho;have hq:=obQ i o hi ho;have nfm:∀b,o.blk σ i=some b→σ'.FM b=none:=fun b hb=>by
   show (if D b then _ else σ.FM b)=none;rw [if_neg (nD i o b hi ho hb)];exact Live.noFM s ⟨_,o,ho,hb⟩
  cases o with
  |hole=>trivial
  |vec ep' rs=>
   rcases hok with ⟨h1,h2⟩|⟨blk,st,sz,m,size,cs,T,h1,h2,h3,h4,h5,h6,h7,h8⟩
   ·exact .inl ⟨by rw [h1];rfl,h2⟩
   ·refine .inr ⟨blk,st,sz,m,size,cs,T,h1,h2,h3,by simpa using h4,h5,nfm blk (by simp [AObj.blk,h1]),fun i row hr=>?_,fun i j c x=>?_⟩
    ·rw [List.getElem?_map,Option.map_eq_some_iff] at hr;obtain ⟨r,hr,rfl⟩:=hr;simpa using h7 i r hr
    ·obtain ⟨c',x',rfl⟩:=cellAt_map x;obtain ⟨v,a,b,d⟩:=h8 i j c' x';obtain ⟨row,hr,hj⟩:=cellAt_get x';exact ⟨v,a,b,cell (hq c' (List.mem_flatten.2 ⟨row,List.mem_of_getElem? hr,List.mem_of_getElem? hj⟩)) d⟩
  |map ep' es=>
   obtain ⟨blk,st,sz,m,size,ents,clock,h1,h2,h3,h4,h5⟩:=hok;refine ⟨blk,st,sz,m,size,ents,clock,h1,h2,nfm blk (by simp [AObj.blk,h1]),by simpa using h4,fun i k v e x y=>?_⟩;rw [List.getElem?_map,Option.map_eq_some_iff] at x;obtain ⟨⟨k',v'⟩,x,e1⟩:=x;cases e1;obtain ⟨a,b⟩:=h5 i k' v' e x y;have hm:=List.mem_of_getElem? x;exact ⟨cell (hq _ (List.mem_flatMap.2 ⟨_,hm,by simp⟩)) a,cell (hq _ (List.mem_flatMap.2 ⟨_,hm,by simp⟩)) b⟩
 ·rcases obj i oi hi with rfl|⟨ni,o,ho,rfl⟩
  ·cases bi
  rcases obj j oj hj with rfl|⟨nj,o',ho',rfl⟩
  ·cases bj
  rw [blk_fz] at bi bj;exact s.apart _ _ o o' b ho ho' bi bj
 ·obtain ⟨i,x,hx,hbx⟩:=hb
  rcases obj i x hx with rfl|⟨ni,o,ho,rfl⟩
  ·cases hbx
  rw [blk_fz] at hbx;exact .inl ⟨_,o,ho,hbx⟩
 ·have hb:(if D b then (match w.heap[b]? with|some (.cells cs _ _)=>some cs|_=>none) else σ.FM b)≠none:=hb
  split at hb
  ·rename_i hd;exact .inr (.inl (hDl b hd))
  ·exact .inl hb
 ·refine ⟨by simpa using hf.1,fun i a v x y=>?_⟩;rw [List.getElem?_map,Option.map_eq_some_iff] at x;obtain ⟨a',x,rfl⟩:=x;exact vals (fun c hc=>a1 c (List.mem_flatMap.2 ⟨a',List.mem_of_getElem? x,hc⟩)) (hf.2 i a' v x y)
end Go.Ab
