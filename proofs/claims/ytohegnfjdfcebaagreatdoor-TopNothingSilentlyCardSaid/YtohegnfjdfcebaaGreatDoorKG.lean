/-
  What is proved here serves the law's text: each part says its own claim and its conditions. No condition is left open.
-/
import Derived.Test.YtohegnfjdfcebaaGreatDoorKF
set_option maxHeartbeats 32000000
set_option maxRecDepth 100000
set_option linter.unusedSimpArgs false
set_option linter.unusedVariables false

namespace Go.Ab
section
variable {P:Program} {ti:TI} {σ:Sg}
theorem append_new {h:Heap} {w:World} (s:Sim σ h w) (id:Id) {argTypes:Array TypeId} {ty t t2 e e2:Nat} {d:TD} (h0:argTypes[0]? =some t) (h1:argTypes[1]? =some t2) (hu:P.underlying t=some (.slice e)) (hu2:P.underlying t2=some (.slice e2))
  (hd:DOk P e d) (hs0:d.size≠0) {old new:List (List AV)} {v u:Value} (ho:Elems σ w d.size v old) (hn:Elems σ w d.size u new) (hb:(old.length+new.length) * d.bytes≤140737488355328) (h63:old.length+new.length≤9223372036854775807)
  {a:Option Addr} {cap:Nat} (hv:v= .slice a old.length cap) (hg:cap<old.length+new.length):
  ∃r ep σ' w',(Builtin.append_ argTypes ty #[v,u]).run P w= .ok r w'∧Mv σ h w σ' (h.set id (.vec ep (old++new))) w'∧VRel σ' (.oslc id ep d.size 0 (old.length+new.length) false) r:=by
 obtain ⟨a1,cap1,olds,hv1,_,_,ho1,ho2,ho3,ho4⟩:=ho.first (P:=P) (w':=w) rfl;obtain ⟨a2,cap2,news,hu1,_,_,hn1,hn2,hn3,hn4⟩:=hn.first (P:=P) (w':=w) rfl;rw [hv] at hv1;cases hv1;have ho':∀w':World,w'.heap=w.heap→(Builtin.firstCells d.size old.length (.slice a old.length cap)).run P w'= .ok olds.toArray w':=fun w' hw'=>by
  obtain ⟨a1,cap1,olds',hv1,_,_,c1,c2,c3,c4⟩:=ho.first (P:=P) hw';rw [←hv];rw [c3];rw [c4] at ho4;cases ho4;rfl
 have hn':∀w':World,w'.heap=w.heap→(Builtin.firstCells d.size new.length (.slice a2 new.length cap2)).run P w'= .ok news.toArray w':=fun w' hw'=>by
  obtain ⟨a1,cap1,news',hv1,_,_,c1,c2,c3,c4⟩:=hn.first (P:=P) hw';rw [←hu1];rw [c3];rw [c4] at hn4;cases hn4;rfl
 obtain ⟨w',newCap,rest,hrun,hw,hso,hcap,hrest⟩:=run_append_realloc (ty:=ty) h0 h1 hu hu2 hd olds news ho' hn' hg hb h63;have hrow:∀(i:Nat) (row:List AV),(old++new)[i]? =some row→row.length=d.size:=by
  intro i row hr;rw [List.getElem?_append] at hr
  split at hr
  ·exact ho.1 i row hr
  ·exact hn.1 _ row hr
 have hcr:CRels σ (old++new).flatten (olds++news):=by
  rw [List.flatten_append];exact ⟨ho1.1.append hn1.1,fun v hv=>(List.mem_append.1 hv).elim (ho1.2 v) (hn1.2 v)⟩
 have hlen:(olds++news).length=(old.length+new.length) * d.size:=by simp [ho2,hn2,Nat.add_mul]
 obtain ⟨ep,σ',m,hp⟩:=s.allocRows id (old++new) d.size (olds.toArray++news.toArray++rest) e hrow (by simp;rw [Nat.add_mul];omega) (fun i j c hc=>by
  obtain ⟨v,e1,e2⟩:=rows_in hs0 hrow hcr i j c hc;refine ⟨v,?_,e2⟩;have hlt:=(List.getElem?_eq_some_iff.1 e1).1;rw [Array.getElem?_append_left (by simpa using hlt)];rw [←e1];simp [←List.getElem?_toArray]) hw hso
 refine ⟨_,ep,σ',w',by rw [hv,hu1];exact hrun,m,?_⟩;have hsz:(olds.toArray++news.toArray++rest).size=newCap * d.size:=by
  have:newCap * d.size=(old.length+new.length) * d.size+(newCap-(old.length+new.length)) * d.size:=by rw [←Nat.add_mul];congr 1;omega
  simp only [Array.size_append,hrest,List.size_toArray];rw [this,←hlen];simp
 have:=VRel.oslc (σ:=σ') (lim:=false) (off:=0) (len:=old.length+new.length) (cap:=newCap) hp (by simp) (fun _=>by simp;omega) (fun x=>by cases x) (by rw [hsz];simp) hcap;simpa using this
theorem run_append_zero {argTypes:Array TypeId} {ty t t2 e e2:Nat} {d:TD} (w:World) (h0:argTypes[0]? =some t) (h1:argTypes[1]? =some t2) (hu:P.underlying t=some (.slice e)) (hu2:P.underlying t2=some (.slice e2))
  (hd:DOk P e d) {a:Option Addr} {sLen cap n c:Nat} {xa:Option Addr} (news:List Value) (hn:(Builtin.firstCells d.size n (.slice xa n c)).run P w= .ok news.toArray w) (hg:sLen+n≤cap) {w':World}
  (hst:∀b,a=some b→(storeCells (b.add (sLen * d.size)) news).run P w= .ok () w') (hnone:a=none→w'=w):
  (Builtin.append_ argTypes ty #[.slice a sLen cap,.slice xa n c]).run P w= .ok (.slice a (sLen+n) cap) w':=by
 cases a with
 |none=>
  rw [hnone rfl];simp [Builtin.append_,h0,h1,run_und hu,run_und hu2,hd.run_sizeOf,Builtin.lenOf,hg,hn]
 |some b=>
  have:=hst b rfl;simp [Builtin.append_,h0,h1,run_und hu,run_und hu2,hd.run_sizeOf,Builtin.lenOf,hg,hn,this]
theorem append_obj {h:Heap} {w:World} (s:Sim σ h w) {argTypes:Array TypeId} {ty t t2 e e2:Nat} {d:TD} (h0:argTypes[0]? =some t) (h1:argTypes[1]? =some t2) (hu:P.underlying t=some (.slice e)) (hu2:P.underlying t2=some (.slice e2))
  (hd:DOk P e d) (hs0:d.size≠0) {id:Id} {ep off len:Nat} {rows:List (List AV)} {v u:Value} (hx:VRel σ (.oslc id ep d.size off len false) v) (hob:h[id]? =some (.vec ep rows)) {new:List (List AV)} (hn:Elems σ w d.size u new)
  (hb:(len+new.length) * d.bytes≤140737488355328) (h63:len+new.length≤9223372036854775807):
  ∃r ep2 σ' w',(Builtin.append_ argTypes ty #[v,u]).run P w= .ok r w'∧Mv σ h w σ' (h.set id (.vec ep2 ((rows.drop off).take len++new))) w'∧VRel σ' (.oslc id ep2 d.size 0 (len+new.length) false) r:=by
 have ho:=elems_obj s hx hob;obtain ⟨a1,cap1,olds,hv1,hv2,hv3,ho1,ho2,ho3,ho4⟩:=ho.first (P:=P) (w':=w) rfl;obtain ⟨a2,cap2,news,hu1,hu3,hu4,hn1,hn2,hn3,hn4⟩:=hn.first (P:=P) (w':=w) rfl;have hlen:((rows.drop off).take len).length=len:=by
  cases hx<;>(first|(cases hv1;rfl)|(injection hv1 with _ e _;rw [←e]))
 by_cases hg:cap1<len+new.length
 ·have:=append_new (ty:=ty) s id h0 h1 hu hu2 hd hs0 ho hn (by rw [hlen];exact hb) (by rw [hlen];exact h63) hv1 (by rw [hlen];exact hg);rw [hlen] at this;exact this
 ·rw [hlen] at hv1;have nilish:∀a,v= .slice a 0 0→off=0∨True→len=0→cap1=0→
    ∃r ep2 σ' w',(Builtin.append_ argTypes ty #[v,u]).run P w= .ok r w'∧Mv σ h w σ' (h.set id (.vec ep2 ((rows.drop off).take len++new))) w'∧VRel σ' (.oslc id ep2 d.size 0 (len+new.length) false) r:=by
   intro a hva _ hl0 hc0;subst hl0;have hnl:new.length=0:=by omega
   have hn0:new=[]:=List.eq_nil_of_length_eq_zero hnl;subst hn0;have hnews:news=[]:=List.eq_nil_of_length_eq_zero (by simpa using hn2);subst hnews;obtain ⟨ep2,σ',m,hp⟩:=s.allocNil id;refine ⟨.slice a 0 0,ep2,σ',w,?_,by simpa using m,?_⟩
   ·rw [hva,hu1];exact run_append_zero (ty:=ty) w h0 h1 hu hu2 hd (sLen:=0) (n:=0) [] (by rw [hu1] at hn3;exact hn3) (by simp) (fun b _=>by simp [storeCells]) (fun _=>rfl)
   ·cases a with
    |none=>exact .onil hp
    |some a=>exact .onilz hp
  cases hx with
  | @oslc _ _ _ _ _ _ _ blk st n size cap hh k1 k2 k3 k4 k5=>
   cases hv1
   rcases s.obj id _ hob with ⟨_,x⟩|⟨blk',st',sz',n',size',cells,T,e1,e2,e3,e4,e5,e6,e7,e8⟩
   ·rw [hh] at x;cases x
   rw [hh] at e1;cases e1;have hmul:(off+(len+new.length)) * d.size≤(off+cap1) * d.size:=Nat.mul_le_mul_right _ (by omega);have hsplit:(off+(len+new.length)) * d.size=off * d.size+(len * d.size+new.length * d.size):=by rw [Nat.add_mul,Nat.add_mul]
   have hsplit2:(len+new.length) * d.size=len * d.size+new.length * d.size:=by rw [Nat.add_mul]
   have hnewsl:news.length=new.length * d.size:=hn2;have hroom:st+off * d.size+len * d.size+0+news.length≤cells.size:=by
    rw [e3,hnewsl];rw [hsplit] at hmul;omega
   obtain ⟨w',r1,r2,r3,r4,r5⟩:=run_storeCells' (P:=P) blk T news 0 (st+off * d.size+len * d.size) cells w e2 (by omega) hn1.2;obtain ⟨ep2,σ',l1,l2,l3,l4,l5⟩:=s.renew (blk:=blk) hob (by simp [AObj.blk,hh]) (st+off * d.size) d.size (len+new.length) size;have hblk:(AObj.vec ep rows).blk σ' id=some blk:=by simp [AObj.blk,l1.ρ _ _ _ hh]
   have hrow:∀(i:Nat) (row:List AV),((rows.drop off).take len++new)[i]? =some row→row.length=d.size:=by
    intro i row hr;rw [List.getElem?_append] at hr
    split at hr
    ·exact ho.1 i row hr
    ·exact hn.1 _ row hr
   have m2:Mv σ' h w σ' (h.set id (.vec ep2 ((rows.drop off).take len++new))) w':=by
    refine l4.write (blk:=blk) hob hblk (by simp [AObj.blk,l2]) r4 r3 r2 ?_;refine ObjOk.over (h:=h) (w:=w) (rows:=rows) _ l2 (by rw [l3];exact e6) r5 (by rw [over_size (by omega)];exact e3) (by simp [hlen]) (by rw [hsplit] at hmul;rw [hsplit2];omega) hrow ?_;intro i j c hc;obtain ⟨row,hi,hj⟩:=cellAt_get hc;have hjl:j<d.size:=by have:=hrow i row hi;have:=(List.getElem?_eq_some_iff.1 hj).1;omega
    have hover:=over_get (off:=st+off * d.size+len * d.size+0) (vs:=news) (cs:=cells) hroom;rw [hover];rw [List.getElem?_append,hlen] at hi
    split at hi
    ·rename_i hil;obtain ⟨a1,a2⟩:=get_drop_take hi;have:=pos_lt hjl hil;rw [if_pos (by omega)];obtain ⟨v,f1,f2,f3⟩:=e8 (off+i) j c (by simp [cellAt,a2,hj]);rw [Nat.add_mul,←Nat.add_assoc st] at f1;exact ⟨v,f1,f2,f3.mono l1⟩
    ·rename_i hil;have hile:len * d.size≤i * d.size:=Nat.mul_le_mul_right _ (by omega);have hik:(i-len) * d.size=i * d.size-len * d.size:=by rw [Nat.sub_mul]
     have hin:i-len<new.length:=(List.getElem?_eq_some_iff.1 hi).1;have:=pos_lt hjl hin;rw [if_neg (by omega),if_pos (by omega)];obtain ⟨v,f1,f2,f3⟩:=rows_in hs0 hn.1 hn1 (i-len) j c (by simp [cellAt,hi,hj]);refine ⟨v,?_,f2,f3.mono l1⟩;rw [←f1]
     congr 1
     omega
   have m1:Mv σ h w σ' h w:=⟨l1,l4,rfl,rfl,rfl,Nat.le_refl _,fun _ _ _=>rfl,fun b hb=>.inl ((l5 b).1 hb),fun b x=>.inl (by rwa [l3] at x)⟩;refine ⟨_,ep2,σ',w',?_,m1.trans m2,VRel.oslc (lim:=false) (off:=0) (cap:=cap1) l2 (by omega) (fun _=>by omega) (fun x=>by cases x) ?_ (by omega)⟩
   ·rw [hu1];have e0:(⟨blk,st+off * d.size,none⟩:Addr)=⟨blk,st+off * d.size+0 * d.size,none⟩:=by simp
    rw [←e0];refine run_append_zero (ty:=ty) w h0 h1 hu hu2 hd news (by rw [hu1] at hn3;exact hn3) (by omega) (fun b hb=>?_) (fun x=>by cases x);cases hb;rw [add_mk];exact r1
   ·rw [Nat.zero_add,Nat.add_assoc,←Nat.add_mul];exact k4
  |onil hh=>cases hv1;exact nilish _ rfl (.inl rfl) rfl rfl
  |onilz hh=>cases hv1;exact nilish _ rfl (.inl rfl) rfl rfl
  |oz hh k1 k2=>cases hv1;exact nilish _ rfl (.inr trivial) rfl rfl
end
end Go.Ab

namespace Go.Ab
section
variable {P:Program} {ti:TI} {σ:Sg}
theorem set_self {α:Type} {l:List α} {i:Nat} {x:α} (h:l[i]? =some x):l.set i x=l:=by
 obtain ⟨h1,h2⟩:=List.getElem?_eq_some_iff.1 h;subst h2;exact List.set_getElem_self h1
theorem copy_obj {h:Heap} {w:World} (s:Sim σ h w) {argTypes:Array TypeId} {ty t e:Nat} {d:TD} (h0:argTypes[0]? =some t) (hu:P.underlying t=some (.slice e))
  (hd:DOk P e d) {id:Id} {ep off len:Nat} {lim:Bool} {rows:List (List AV)} {v u:Value} (hx:VRel σ (.oslc id ep d.size off len lim) v) (hob:h[id]? =some (.vec ep rows)) {new:List (List AV)} (hn:Elems σ w d.size u new):
  ∃w',(Builtin.copy_ argTypes ty #[v,u]).run P w= .ok (.int .i64 ((min new.length len:Nat):Int)) w'∧Mv σ h w σ (h.set id (.vec ep (rows.take off++new.take len++rows.drop (off+(new.take len).length)))) w':=by
 obtain ⟨hnr,a2,cap2,hu1,hu2,hu3,vs,hv1,hv2,hv3⟩:=hn;obtain ⟨a1,cap1,hva⟩:∃a cap,v= .slice a len cap:=by cases hx<;>exact ⟨_,_,rfl⟩
 have hm:Nat.min new.length len=min new.length len:=rfl;by_cases hz:min new.length len=0
 ·have hnt:new.take len=[]:=by
   apply List.eq_nil_of_length_eq_zero
   rw [List.length_take];omega
  refine ⟨w,?_,?_⟩
  ·have hf:(Builtin.firstCells d.size 0 u).run P w= .ok #[] w:=by
    rw [hu1];cases a2 with
    |none=>exact run_firstCells_none _ _ _ _ _
    |some b=>exact run_firstCells_some _ _ _ b _ _ [] (by simp) (fun j v hv=>by simp at hv)
   rw [hu1] at hf ⊢;rw [hva];cases a1 with
   |none=>simp [Builtin.copy_,h0,run_und hu,hd.run_sizeOf,Builtin.lenOf,hm,hz,hf,goInt]
   |some b=>simp [Builtin.copy_,h0,run_und hu,hd.run_sizeOf,Builtin.lenOf,hm,hz,hf,goInt,storeCells]
  ·rw [hnt];simp only [List.append_nil,List.length_nil,Nat.add_zero,List.take_append_drop];rw [Heap.set_self hob];exact .refl s
 ·cases hx with
  | @oslc _ _ _ _ _ _ _ blk st n size cap hh k1 k2 k3 k4 k5=>
   cases hva
   rcases s.obj id _ hob with ⟨_,x⟩|⟨blk',st',sz',n',size',cells,T,e1,e2,e3,e4,e5,e6,e7,e8⟩
   ·rw [hh] at x;cases x
   rw [hh] at e1;cases e1;have hml:(new.take len).length=min len new.length:=by simp
   have hmle:min len new.length≤len:=Nat.min_le_left _ _;have hmle2:min len new.length≤new.length:=Nat.min_le_right _ _
   let m:=min len new.length
   have hmm:m=min new.length len:=Nat.min_comm _ _;have hvl:(vs.take (m * d.size)).length=m * d.size:=by
    rw [List.length_take,hv2];exact Nat.min_eq_left (Nat.mul_le_mul_right _ hmle2)
   have hfirst:(Builtin.firstCells d.size m u).run P w= .ok (vs.take (m * d.size)).toArray w:=by
    rw [hu1];cases a2 with
    |none=>
     have:=(hu3 rfl).1;subst this;simp at hz
    |some b=>
     refine run_firstCells_some _ _ _ b _ _ _ hvl ?_;intro j v hv;rw [List.getElem?_take] at hv
     split at hv
     ·exact hv3 b rfl j v hv
     ·cases hv
   have hend:(off+m) * d.size≤n * d.size:=Nat.mul_le_mul_right _ (by omega);have hsplit:(off+m) * d.size=off * d.size+m * d.size:=by rw [Nat.add_mul]
   have hroom:st+off * d.size+0+(vs.take (m * d.size)).length≤cells.size:=by rw [hvl,e3];omega
   obtain ⟨w',r1,r2,r3,r4,r5⟩:=run_storeCells' (P:=P) blk T (vs.take (m * d.size)) 0 (st+off * d.size) cells w e2 hroom (fun v hv=>hv1.2 v (List.mem_of_mem_take hv));refine ⟨w',?_,?_⟩
   ·rw [hu1] at hfirst ⊢;simp only [hmm] at hfirst r1;simp [Builtin.copy_,h0,run_und hu,hd.run_sizeOf,Builtin.lenOf,hm,hfirst,goInt,r1]
   ·refine s.write (blk:=blk) hob (by simp [AObj.blk,hh]) (by simp [AObj.blk,hh]) r4 r3 r2 ?_;have hlen':(rows.take off++new.take len++rows.drop (off+(new.take len).length)).length=rows.length:=by simp;omega
    have hto:(rows.take off).length=off:=by simp;omega
    have hrow:∀(i:Nat) (row:List AV),(rows.take off++new.take len++rows.drop (off+(new.take len).length))[i]? =some row→
      row.length=d.size∧((i<off∧rows[i]? =some row)∨(off≤i∧i<off+m∧new[i-off]? =some row)∨(off+m≤i∧rows[i]? =some row)):=by
     intro i row hi;rw [List.append_assoc,List.getElem?_append,hto] at hi
     split at hi
     ·rename_i c1;rw [List.getElem?_take,if_pos c1] at hi;exact ⟨e7 i row hi,.inl ⟨c1,hi⟩⟩
     ·rename_i c1;rw [List.getElem?_append,hml] at hi
      split at hi
      ·rename_i c2;rw [List.getElem?_take,if_pos (by omega)] at hi;exact ⟨hnr _ row hi,.inr (.inl ⟨by omega,by show i<off+min len new.length;omega,hi⟩)⟩
      ·rename_i c2;rw [List.getElem?_drop] at hi;rw [show off+min len new.length+(i-off-min len new.length)=i from by omega] at hi;exact ⟨e7 i row hi,.inr (.inr ⟨by show off+min len new.length≤i;omega,hi⟩)⟩
    refine ObjOk.over (h:=h) (w:=w) (rows:=rows) _ hh e6 r5 (by rw [over_size hroom];exact e3) (by rw [hlen'];exact e4) e5 (fun i row hi=>(hrow i row hi).1) ?_;intro i j c hc;obtain ⟨row,hi,hj⟩:=cellAt_get hc;obtain ⟨b1,b2⟩:=hrow i row hi;have hjl:j<d.size:=by have:=(List.getElem?_eq_some_iff.1 hj).1;omega
    have hover:=over_get (off:=st+off * d.size+0) (vs:=vs.take (m * d.size)) (cs:=cells) hroom;rw [hover,hvl]
    rcases b2 with ⟨c1,c2⟩|⟨c1,c2,c3⟩|⟨c1,c2⟩
    ·have:=pos_lt hjl c1;rw [if_pos (by omega)];exact e8 i j c (by simp [cellAt,c2,hj])
    ·have q1:off * d.size≤i * d.size:=Nat.mul_le_mul_right _ c1;have q2:=pos_lt hjl c2;have q3:(i-off) * d.size=i * d.size-off * d.size:=by rw [Nat.sub_mul]
     rw [if_neg (by omega),if_pos (by omega)];have hs0:d.size≠0:=by omega
     obtain ⟨v,f1,f2,f3⟩:=rows_in hs0 hnr hv1 (i-off) j c (by simp [cellAt,c3,hj]);refine ⟨v,?_,f2,f3⟩;rw [List.getElem?_take,if_pos (by omega),←f1]
     congr 1
     omega
    ·have q1:(off+m) * d.size≤i * d.size:=Nat.mul_le_mul_right _ c1;rw [if_neg (by omega),if_neg (by omega)];exact e8 i j c (by simp [cellAt,c2,hj])
  |onil hh=>simp at hz
  |onilz hh=>simp at hz
  |oz hh k1 k2=>simp at hz
theorem zeroCells_get {z:Array Value} {n i:Nat} (h:i<n * z.size):(Builtin.zeroCells z n).toList[i]? =some (z[i % z.size]!):=by
 unfold Builtin.zeroCells;rw [Array.getElem?_toList,Array.getElem?_map,Array.getElem?_range,if_pos h];rfl
theorem zeroCells_len {z:Array Value} {n:Nat}:(Builtin.zeroCells z n).toList.length=n * z.size:=by
 simp [Builtin.zeroCells]
theorem clear_obj {h:Heap} {w:World} (s:Sim σ h w) {argTypes:Array TypeId} {ty t e:Nat} {d:TD} (h0:argTypes[0]? =some t) (hu:P.underlying t=some (.slice e))
  (hd:DOk P e d) {id:Id} {ep off len:Nat} {lim:Bool} {rows:List (List AV)} {v:Value} (hx:VRel σ (.oslc id ep d.size off len lim) v) (hob:h[id]? =some (.vec ep rows)):
  ∃w',(Builtin.clear_ argTypes ty #[v]).run P w= .ok (.tuple #[]) w'∧Mv σ h w σ (h.set id (.vec ep (rows.take off++List.replicate len d.zero++rows.drop (off+len)))) w':=by
 obtain ⟨z,hz1,hz2,hz3⟩:=zero_rel (σ:=σ) hd w;have hzl:d.zero.length=d.size:=by have:=hz3.1.1;simp at this;omega
 by_cases hz:len=0
 ·subst hz;refine ⟨w,?_,?_⟩
  ·obtain ⟨a1,cap1,hva⟩:∃a cap,v= .slice a 0 cap:=by cases hx<;>exact ⟨_,_,rfl⟩
   rw [hva];cases a1 with
   |none=>simp [Builtin.clear_,h0,run_und hu]
   |some b=>simp [Builtin.clear_,h0,run_und hu]
  ·simp only [List.replicate_zero,List.append_nil,Nat.add_zero,List.take_append_drop];rw [Heap.set_self hob];exact .refl s
 ·cases hx with
  | @oslc _ _ _ _ _ _ _ blk st n size cap hh k1 k2 k3 k4 k5=>
   rcases s.obj id _ hob with ⟨_,x⟩|⟨blk',st',sz',n',size',cells,T,e1,e2,e3,e4,e5,e6,e7,e8⟩
   ·rw [hh] at x;cases x
   rw [hh] at e1;cases e1;have hvl:(Builtin.zeroCells z.cells len).toList.length=len * d.size:=by rw [zeroCells_len,hz2]
   have hend:(off+len) * d.size≤n * d.size:=Nat.mul_le_mul_right _ (by omega);have hsplit:(off+len) * d.size=off * d.size+len * d.size:=by rw [Nat.add_mul]
   have hroom:st+off * d.size+0+(Builtin.zeroCells z.cells len).toList.length≤cells.size:=by rw [hvl,e3];omega
   have hone:∀v∈(Builtin.zeroCells z.cells len).toList,v.oneCell'=true:=by
    intro v hv;obtain ⟨i,hi⟩:=List.getElem?_of_mem hv;have hlt:i<len * z.cells.size:=by rw [←zeroCells_len (z:=z.cells)];exact (List.getElem?_eq_some_iff.1 hi).1
    rw [zeroCells_get hlt] at hi;cases hi;have hp:0<z.cells.size:=Nat.pos_of_ne_zero fun x=>by rw [x] at hlt;simp at hlt
    have hm:=Nat.mod_lt i hp;rw [getElem!_pos z.cells _ hm];exact hz3.2 _ (by simp)
   obtain ⟨w',r1,r2,r3,r4,r5⟩:=run_storeCells' (P:=P) blk T (Builtin.zeroCells z.cells len).toList 0 (st+off * d.size) cells w e2 hroom hone;refine ⟨w',?_,?_⟩
   ·obtain ⟨m,rfl⟩:∃m,len=m+1:=⟨len-1,by omega⟩;simp [Builtin.clear_,h0,run_und hu,hz1,r1]
   ·refine s.write (blk:=blk) hob (by simp [AObj.blk,hh]) (by simp [AObj.blk,hh]) r4 r3 r2 ?_;have hlen':(rows.take off++List.replicate len d.zero++rows.drop (off+len)).length=rows.length:=by simp;omega
    have hto:(rows.take off).length=off:=by simp;omega
    have hrow:∀(i:Nat) (row:List AV),(rows.take off++List.replicate len d.zero++rows.drop (off+len))[i]? =some row→
      row.length=d.size∧((i<off∧rows[i]? =some row)∨(off≤i∧i<off+len∧row=d.zero)∨(off+len≤i∧rows[i]? =some row)):=by
     intro i row hi;rw [List.append_assoc,List.getElem?_append,hto] at hi
     split at hi
     ·rename_i c1;rw [List.getElem?_take,if_pos c1] at hi;exact ⟨e7 i row hi,.inl ⟨c1,hi⟩⟩
     ·rename_i c1;rw [List.getElem?_append,List.length_replicate] at hi
      split at hi
      ·rename_i c2;have hr:=(List.mem_replicate.1 (List.mem_of_getElem? hi)).2;exact ⟨by rw [hr];exact hzl,.inr (.inl ⟨by omega,by omega,hr⟩)⟩
      ·rename_i c2;rw [List.getElem?_drop] at hi;rw [show off+len+(i-off-len)=i from by omega] at hi;exact ⟨e7 i row hi,.inr (.inr ⟨by omega,hi⟩)⟩
    refine ObjOk.over (h:=h) (w:=w) (rows:=rows) _ hh e6 r5 (by rw [over_size hroom];exact e3) (by rw [hlen'];exact e4) e5 (fun i row hi=>(hrow i row hi).1) ?_;intro i j c hc;obtain ⟨row,hi,hj⟩:=cellAt_get hc;obtain ⟨b1,b2⟩:=hrow i row hi;have hjl:j<d.size:=by have:=(List.getElem?_eq_some_iff.1 hj).1;omega
    have hover:=over_get (off:=st+off * d.size+0) (vs:=(Builtin.zeroCells z.cells len).toList) (cs:=cells) hroom;rw [hover,hvl]
    rcases b2 with ⟨c1,c2⟩|⟨c1,c2,c3⟩|⟨c1,c2⟩
    ·have:=pos_lt hjl c1;rw [if_pos (by omega)];exact e8 i j c (by simp [cellAt,c2,hj])
    ·have q1:off * d.size≤i * d.size:=Nat.mul_le_mul_right _ c1;have q2:=pos_lt hjl c2;have q3:(i-off) * d.size=i * d.size-off * d.size:=by rw [Nat.sub_mul]
     rw [if_neg (by omega),if_pos (by omega)];subst c3;have hjz:j<z.cells.size:=by omega
     refine ⟨z.cells[j],?_,hz3.2 _ (by simp),hz3.1.2 j c _ hj (by simp)⟩;have hidx:st+i * d.size+j-(st+off * d.size+0)=(i-off) * d.size+j:=by omega
     have hlt:(i-off) * d.size+j<len * z.cells.size:=by
      rw [hz2];have:=pos_lt (sz:=d.size) (j:=j) (i:=i-off) (i':=len) hjl (by omega);omega
     rw [hidx,zeroCells_get hlt,hz2,Nat.mul_comm,Nat.mul_add_mod,Nat.mod_eq_of_lt hjl,getElem!_pos z.cells j hjz]
    ·have q1:(off+len) * d.size≤i * d.size:=Nat.mul_le_mul_right _ c1;rw [if_neg (by omega),if_neg (by omega)];exact e8 i j c (by simp [cellAt,c2,hj])
  |onil hh=>simp at hz
  |onilz hh=>simp at hz
  |oz hh k1 k2=>simp at hz
theorem eff_sound (tok:TOk P ti) {ev:Operand→AV} {ρ:Operand→Value} (hr:OpRel σ ev ρ) {h:Heap} {w:World} (s:Sim σ h w) (id:Id) (o:Oper) {K:AV→Heap→Prop}
  (hk:effK ti ev id h o.op K):
  ∃n v r σ' h' w',(execOp ρ o).run P w= .ok n w'∧(n= .value v∨(n= .skip∧v=undef))∧Mv σ h w σ' h' w'∧VRel σ' r v∧K r h':=by
 obtain ⟨dst,op,type,pos,after,guard⟩:=o;simp only at hk;unfold effK at hk
 split at hk
 ·
  rename_i t p v
  split at hk
  ·rename_i d cs hd hcs
   split at hk
   ·rename_i hl
    split at hk
    ·rename_i id' ep sz i off hp
     split at hk
     ·rename_i ep' rows ho;obtain ⟨rfl,hk⟩:=hk
      split at hk
      ·rename_i row hrow
       split at hk
       ·rename_i hle;rw [forceL_eq] at hk;obtain ⟨w',h1,h2⟩:=store_sound tok hr s t p v hd hcs hl hp ho hrow hle;exact ⟨.skip,undef,.u,σ,_,w',by simp [execOp,h1],.inr ⟨rfl,rfl⟩,h2,.u,hk⟩
       ·exact hk.elim
      ·exact hk.elim
     ·exact hk.elim
    ·exact hk.elim
   ·exact hk.elim
  ·exact hk.elim
 ·
  rename_i c;obtain ⟨callee,args,argTypes⟩:=c;simp only at hk
  split at hk
  ·
   rename_i a x e2;have hargs:args.map ρ= #[ρ a,ρ x]:=by
    have:args= #[a,x]:=by apply Array.ext';simpa using e2
    simp [this]
   split at hk
   ·rename_i e e' k1 k2;unfold kindOf0 at k1;cases h0:argTypes[0]? with
    |none=>simp [h0] at k1
    |some t=>
     simp only [h0] at k1;cases h1:argTypes[1]? with
     |none=>simp [h1] at k2
     |some t2=>
      simp only [h1,Option.bind_some] at k2;obtain ⟨dt,hdt,hkt⟩:=kindOf_some k1;obtain ⟨dt2,hdt2,hkt2⟩:=kindOf_some k2;have hu:=(tok _ _ hdt).slice hkt;have hu2:=(tok _ _ hdt2).slice hkt2
      split at hk
      ·rename_i d hd
       split at hk
       ·exact hk.elim
       ·rename_i hs0;obtain ⟨new,hk,hel⟩:=elems_of s (hr x) hk;have hfin:∀{r:AV} {σ':Sg} {h':Heap} {w':World} {v:Value},(Builtin.append_ argTypes type #[ρ a,ρ x]).run P w= .ok v w'→Mv σ h w σ' h' w'→VRel σ' r v→K r h'→
          ∃n v r σ' h' w',(execOp ρ ⟨dst,.call ⟨.builtin .append,args,argTypes⟩,type,pos,after,guard⟩).run P w= .ok n w'∧(n= .value v∨(n= .skip∧v=undef))∧Mv σ h w σ' h' w'∧VRel σ' r v∧K r h':=by
         intro r σ' h' w' v q1 q2 q3 q4;exact ⟨.value v,v,r,σ',h',w',by simp [execOp,resolve,invoke,builtin,hargs,q1],.inl rfl,q2,q3,q4⟩
        have newcase:(∃q,VRel σ q (ρ a)∧(q= .nils∨(∃i j k l,q= .oslc i j k l 0 true)∨∃i j k,q= .lslc i j k 0 true))→
          (if h.has id=false then False else
           (new.length * d.bytes≤140737488355328∧new.length≤9223372036854775807)∧∀ep2,K (.oslc id ep2 d.size 0 new.length false) (h.set id (.vec ep2 new)))→
          ∃n v r σ' h' w',(execOp ρ ⟨dst,.call ⟨.builtin .append,args,argTypes⟩,type,pos,after,guard⟩).run P w= .ok n w'∧(n= .value v∨(n= .skip∧v=undef))∧Mv σ h w σ' h' w'∧VRel σ' r v∧K r h':=by
         rintro ⟨q,hq,hqs⟩ hk
         split at hk
         ·exact hk.elim
         ·obtain ⟨⟨b1,b2⟩,hk⟩:=hk;obtain ⟨b,hb⟩:∃b,ρ a= .slice b 0 0:=by
           generalize ρ a=u at hq
           rcases hqs with rfl|⟨i,j,k,l,rfl⟩|⟨i,j,k,rfl⟩
           ·cases hq;exact ⟨_,rfl⟩
           ·cases hq with
            |oslc _ _ _ h3 _ _=>rw [h3 rfl];exact ⟨_,rfl⟩
            |onil=>exact ⟨_,rfl⟩
            |onilz=>exact ⟨_,rfl⟩
            |oz=>exact ⟨_,rfl⟩
           ·cases hq with
            |lslc _ _ _ _ _ _ h3 _=>rw [h3 rfl];exact ⟨_,rfl⟩
            |lnil=>exact ⟨_,rfl⟩
            |lz=>exact ⟨_,rfl⟩
          by_cases hn0:new.length=0
          ·have:new=[]:=List.eq_nil_of_length_eq_zero hn0;subst this;obtain ⟨ep2,σ',m,hp⟩:=s.allocNil id;obtain ⟨a2,cap2,vs,hu1,_,_,_,hvs,hf,_⟩:=hel.first (P:=P) (w':=w) rfl;have hvs0:vs=[]:=List.eq_nil_of_length_eq_zero (by simpa using hvs);subst hvs0;have hrun:(Builtin.append_ argTypes type #[ρ a,ρ x]).run P w= .ok (.slice b 0 0) w:=by
            rw [hb,hu1];exact run_append_zero (ty:=type) w h0 h1 hu hu2 (tok _ _ hd) (sLen:=0) (n:=0) [] (by rw [hu1] at hf;exact hf) (by simp) (fun b _=>by simp [storeCells]) (fun _=>rfl)
           refine hfin hrun m ?_ (hk ep2);cases b with
           |none=>exact .onil hp
           |some b=>exact .onilz hp
          ·have hold:Elems σ w d.size (ρ a) []:=by
            refine ⟨fun i row hr=>by simp at hr,b,0,by rw [hb];rfl,by simp,fun _=>⟨rfl,rfl⟩,[],⟨⟨by simp,fun i a v x=>by simp at x⟩,by simp⟩,by simp,fun b e j v hv=>by simp at hv⟩
           obtain ⟨r,ep,σ',w',q1,q2,q3⟩:=append_new (ty:=type) s id h0 h1 hu hu2 (tok _ _ hd) hs0 hold hel (by simpa using b1) (by simpa using b2) (cap:=0) (a:=b) (by rw [hb];rfl) (by simp;omega);exact hfin q1 (by simpa using q2) (by simpa using q3) (hk ep)
        split at hk
        ·rename_i id0 ep sz off len ea
         split at hk
         ·rename_i hsz;subst hsz
          split at hk
          ·rename_i ep' rows ho;obtain ⟨rfl,⟨b1,b2⟩,hk⟩:=hk;have hx:=hr a;rw [ea] at hx;obtain ⟨r,ep2,σ',w',q1,q2,q3⟩:=append_obj (ty:=type) s h0 h1 hu hu2 (tok _ _ hd) hs0 hx ho hel b1 b2;exact hfin q1 q2 q3 (hk ep2)
          ·exact hk.elim
         ·exact hk.elim
        ·rename_i ea;exact newcase ⟨_,ea ▸ hr a,.inl rfl⟩ hk
        ·rename_i i j k l ea;exact newcase ⟨_,ea ▸ hr a,.inr (.inl ⟨_,_,_,_,rfl⟩)⟩ hk
        ·rename_i i j k ea;exact newcase ⟨_,ea ▸ hr a,.inr (.inr ⟨_,_,_,rfl⟩)⟩ hk
        ·exact hk.elim
      ·exact hk.elim
   ·exact hk.elim
  ·
   rename_i a x e2;have hargs:args.map ρ= #[ρ a,ρ x]:=by
    have:args= #[a,x]:=by apply Array.ext';simpa using e2
    simp [this]
   split at hk
   ·rename_i e k1;unfold kindOf0 at k1;cases h0:argTypes[0]? with
    |none=>simp [h0] at k1
    |some t=>
     simp only [h0] at k1;obtain ⟨dt,hdt,hkt⟩:=kindOf_some k1;have hu:=(tok _ _ hdt).slice hkt
     split at hk
     ·rename_i d hd;obtain ⟨new,hk,hel⟩:=elems_of s (hr x) hk
      split at hk
      ·rename_i id0 ep sz off len lim ea
       split at hk
       ·rename_i hsz;subst hsz
        split at hk
        ·rename_i ep' rows ho;obtain ⟨rfl,hk⟩:=hk;have hx:=hr a;rw [ea] at hx;obtain ⟨w',q1,q2⟩:=copy_obj (ty:=type) s h0 hu (tok _ _ hd) hx ho hel;exact ⟨.value _,_,_,σ,_,w',by simp [execOp,resolve,invoke,builtin,hargs,q1],.inl rfl,q2,.int,hk⟩
        ·exact hk.elim
       ·exact hk.elim
      ·exact hk.elim
     ·exact hk.elim
   ·exact hk.elim
  ·
   rename_i a e2;have hargs:args.map ρ= #[ρ a]:=by
    have:args= #[a]:=by apply Array.ext';simpa using e2
    simp [this]
   split at hk
   ·rename_i e k1;unfold kindOf0 at k1;cases h0:argTypes[0]? with
    |none=>simp [h0] at k1
    |some t=>
     simp only [h0] at k1;obtain ⟨dt,hdt,hkt⟩:=kindOf_some k1;have hu:=(tok _ _ hdt).slice hkt
     split at hk
     ·rename_i d hd
      split at hk
      ·rename_i id0 ep sz off len lim ea
       split at hk
       ·rename_i hsz;subst hsz
        split at hk
        ·rename_i ep' rows ho;obtain ⟨rfl,hk⟩:=hk;have hx:=hr a;rw [ea] at hx;obtain ⟨w',q1,q2⟩:=clear_obj (ty:=type) s h0 hu (tok _ _ hd) hx ho;exact ⟨.value (.tuple #[]),.tuple #[],.tup [],σ,_,w',by simp [execOp,resolve,invoke,builtin,hargs,q1],.inl rfl,q2,.tup rfl (fun i c v x=>by simp at x),hk⟩
        ·exact hk.elim
       ·exact hk.elim
      ·exact hk.elim
     ·exact hk.elim
   ·exact hk.elim
  ·exact hk.elim
 ·
  rename_i op t x y t'
  split at hk
  ·rename_i e1 e hy hkd;obtain ⟨d,hd,hk0⟩:=kindOf_some hkd;have hu:=(tok _ _ hd).slice hk0;have hy':=hr y;rw [hy] at hy';have hyv:ρ y= .slice none 0 0:=by generalize ρ y=v at hy';cases hy';rfl
   have fin:∀b,(Op.equalIn (9999+1) t (ρ x) (.slice none 0 0)).run P w= .ok b w→(∀cs,ρ x≠.agg cs)∧ρ x≠.nilIface→((∀k n,ρ x≠.int k n)∧(∀s,ρ x≠.string s)∧(∀k n,ρ x≠.float k n)∧∀k a b,ρ x≠.complex k a b)→
     (op= .eql→(execOp ρ { dst:=dst,op:=.binOp op t x y t',type:=type,pos:=pos,after:=after,guard:=guard }).run P w= .ok (.value (.bool b)) w)∧
     (op= .neq→(execOp ρ { dst:=dst,op:=.binOp op t x y t',type:=type,pos:=pos,after:=after,guard:=guard }).run P w= .ok (.value (.bool !b)) w):=by
    intro b hb hg hx;have hr2:=run_eql w hb hx;refine ⟨?_,?_⟩<;>rintro rfl
    ·simp [execOp,hyv,eqGuard_plain w hg,hr2.1]
    ·simp [execOp,hyv,eqGuard_plain w hg,hr2.2]
   have mv:Mv σ h w σ h w:=.refl s;have hx:=hr x;have use:∀(F:Bool→Prop),nilEqK (ev x) F→∃b,F b∧(Op.equalIn (9999+1) t (ρ x) (.slice none 0 0)).run P w= .ok b w∧((∀cs,ρ x≠.agg cs)∧ρ x≠.nilIface)∧((∀k n,ρ x≠.int k n)∧(∀s,ρ x≠.string s)∧(∀k n,ρ x≠.float k n)∧∀k a b,ρ x≠.complex k a b):=by
    intro F hF;have sl:∀(a:Option Addr) n c,ρ x= .slice a n c→((Op.equalIn (9999+1) t (ρ x) (.slice none 0 0)).run P w= .ok a.isNone w∧((∀cs,ρ x≠.agg cs)∧ρ x≠.nilIface)∧((∀k n,ρ x≠.int k n)∧(∀s,ρ x≠.string s)∧(∀k n,ρ x≠.float k n)∧∀k a b,ρ x≠.complex k a b)):=by
     intro a n c e;rw [e];exact ⟨eqIn_slice_nil 9999 hu a n c w,by simp⟩
    have e:∀v,VRel σ (ev x) v→∃a n c,v= .slice a n c∧F a.isNone:=by
     intro v hx;unfold nilEqK at hF
     split at hF
     ·rename_i ex;rw [ex] at hx;cases hx;exact ⟨_,_,_,rfl,hF⟩
     ·rename_i ex;rw [ex] at hx;cases hx with
      |lslc=>exact ⟨_,_,_,rfl,hF.2⟩
      |lnil=>exact ⟨_,_,_,rfl,hF.1 rfl⟩
      |lz=>exact ⟨_,_,_,rfl,hF.2⟩
     ·rename_i ex;rw [ex] at hx;cases hx with
      |oslc=>exact ⟨_,_,_,rfl,hF.2⟩
      |onil=>exact ⟨_,_,_,rfl,hF.1 rfl⟩
      |onilz=>exact ⟨_,_,_,rfl,hF.2⟩
      |oz=>exact ⟨_,_,_,rfl,hF.2⟩
     ·exact hF.elim
    obtain ⟨a,n,c,ea,hF'⟩:=e _ hx;exact ⟨_,hF',sl _ _ _ ea⟩
   split at hk
   ·obtain ⟨b,hb,r1,r2,r3⟩:=use _ hk;exact ⟨_,_,.bool b,σ,h,w,(fin b r1 r2 r3).1 rfl,.inl rfl,mv,.bool,hb⟩
   ·obtain ⟨b,hb,r1,r2,r3⟩:=use _ hk;exact ⟨_,_,.bool !b,σ,h,w,(fin b r1 r2 r3).2 rfl,.inl rfl,mv,.bool,hb⟩
   ·exact hk.elim
  ·exact hk.elim
 ·rename_i t m k v;obtain ⟨h',w',h1,h2,h3⟩:=updK_sound tok s (hr m) (hr k) (hr v) hk;exact ⟨.skip,undef,.u,σ,h',w',by simp [execOp,h1],.inr ⟨rfl,rfl⟩,h2,.u,h3⟩
 ·exact hk.elim
end
end Go.Ab
