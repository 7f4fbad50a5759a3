/-
  What is proved here serves the law's text: each part says its own claim and its conditions. No condition is left open.
-/
import Derived.Shelf.SlSortCmp.NoneTotal
import Derived.Test.YtohegnfjdfcebaaGreatDoorKT
set_option maxHeartbeats 32000000
set_option maxRecDepth 100000
set_option linter.unusedSimpArgs false
set_option linter.unusedVariables false

namespace Go.Ab
open Go.Sort Go.Proofs
theorem divmod_lt {n k t:Nat} (h:t<n * k):t / k<n∧t % k<k∧t / k * k+t % k=t:=by
 have k0:0<k:=by
            rcases Nat.eq_zero_or_pos k with e|e;· subst e;simp at h
            ·exact e
 refine ⟨Nat.div_lt_of_lt_mul (by rwa [Nat.mul_comm] at h),Nat.mod_lt _ k0,?_⟩;rw [Nat.mul_comm];exact Nat.div_add_mod t k
theorem get!_of {α:Type} [Inhabited α] {l:List α} {j:Nat} {v:α} (h:l[j]? =some v):l[j]! =v:=by
 rw [List.getElem!_eq_getElem?_getD,h];rfl
theorem sortF_acalls {P:Program} {f g:FuncId} {α:Type} [Inhabited α] {R:α→List AV} {E:α→List Value} {k:Nat} {srt:List α→List α} (hlen:∀zs,(srt zs).length=zs.length) (hRk:∀x,(R x).length=k)
  (hrel:∀(σ:Sg) (x:α) (j:Nat) (c:AV) (v:Value),(R x)[j]? =some c→VRel σ c v→(E x)[j]? =some v)
  (hmk:∀(σ:Sg) (x:α) (j:Nat) (c:AV),(R x)[j]? =some c→∃v,(E x)[j]? =some v∧v.oneCell'=true∧VRel σ c v)
  (hS:∀(blk off cap:Nat) (zs:List α) (w:World),HoldsK E k w blk off zs.toArray→blk<w.heap.size→zs.length<4611686018427387904→
   Calls P f #[.slice (some ⟨blk,off,none⟩) zs.length cap,.func (.func g) #[] #[]] w fun e w'=>e= .returned (.tuple #[])∧∃n os,w'=sortWorldK E k w blk off n (srt zs).toArray os)
  (hN:∀(p:Option Addr) (cap:Nat) (w:World),Calls P f #[.slice p 0 cap,.func (.func g) #[] #[]] w fun e w'=>e= .returned (.tuple #[])∧w'=w) {h:Heap} {id:Id} {ep:Nat} {zs:List α} (ho:h[id]? =some (.vec ep (zs.map R))) (hl:zs.length<4611686018427387904):
  ACalls P f [.oslc id ep k 0 zs.length false,.fn (.func g) [] []] h fun r h'=>r= .tup []∧h'=h.set id (.vec ep ((srt zs).map R)):=by
 refine ⟨fun σ w vs s hv=>?_⟩;have hsz:vs.size=2:=by have:=hv.1;simpa using this.symm
 obtain ⟨v,u,rfl⟩:∃v u,vs= #[v,u]:=by
  match vs,hsz with
  | ⟨[v,u]⟩,_=>exact ⟨v,u,rfl⟩
 have hv0:VRel σ (.oslc id ep k 0 zs.length false) v:=hv.2 0 _ _ rfl rfl;have hv1:VRel σ (.fn (.func g) [] []) u:=hv.2 1 _ _ rfl rfl;obtain rfl:u= .func (.func g) #[] #[]:=by
  cases hv1 with
  | @fn _ _ _ _ a b l1 l2 _ _=>
   have ha:a= #[]:=by apply Array.eq_empty_of_size_eq_zero;simpa using l1.symm
   have hb:b= #[]:=by apply Array.eq_empty_of_size_eq_zero;simpa using l2.symm
   subst ha hb;rfl
 have none0:zs=[]→(∃p cap,v= .slice p 0 cap)→Calls P f #[v,.func (.func g) #[] #[]] w fun e w'=>∃v,e= .returned v∧∃σ' h' r,(r=AV.tup []∧h'=h.set id (.vec ep ((srt zs).map R)))∧Mv σ h w σ' h' w'∧VRel σ' r v:=by
  rintro rfl ⟨p,cap,rfl⟩;refine (hN p cap w).mono ?_;rintro e w' ⟨rfl,rfl⟩;refine ⟨_,rfl,σ,h,.tup [],⟨rfl,?_⟩,.refl s,.tup rfl fun i c u x=>by simp at x⟩;rw [show srt []=[] from List.length_eq_zero_iff.1 (hlen [])];exact (Heap.set_self ho).symm
 generalize hn:zs.length=n0 at hv0;cases hv0 with
 |onil hρ=>exact none0 (List.length_eq_zero_iff.1 hn) ⟨_,_,rfl⟩
 |onilz hρ=>exact none0 (List.length_eq_zero_iff.1 hn) ⟨_,_,rfl⟩
 |oz hρ h1 h2=>exact none0 (List.length_eq_zero_iff.1 hn) ⟨_,_,rfl⟩
 |oslc hρ h1 h2 h3 h4 h5=>
  rename_i blk st n size cap
  rcases s.obj _ _ ho with ⟨_,x⟩|⟨blk2,st2,sz2,n2,size2,cs,T,g1,g2,g3,g4,g5,g6,g7,g8⟩
  ·rw [hρ] at x;cases x
  rw [hρ] at g1;cases g1;have hlt:blk<w.heap.size:=(Array.getElem?_eq_some_iff.1 g2).1;have hrow:∀i (hi:i<zs.length),(zs.map R)[i]? =some (R zs[i]):=fun i hi=>by simp [hi]
  have hcell:∀i j (hi:i<zs.length),j<k→∃v,cs[st+i * k+j]? =some v∧(E zs[i])[j]? =some v:=fun i j hi hj=>by
   obtain ⟨c,hc⟩:∃c,(R zs[i])[j]? =some c:=⟨_,List.getElem?_eq_getElem (l:=R zs[i]) (i:=j) (by rw [hRk];exact hj)⟩;obtain ⟨v,a1,a2,a3⟩:=g8 i j c (by unfold cellAt;rw [hrow i hi];exact hc);exact ⟨v,a1,hrel σ _ j c v hc a3⟩
  have hH:HoldsK E k w blk (st+0 * k) zs.toArray:=fun t ht=>by
   have ht:t<zs.length * k:=by simpa using ht
   obtain ⟨d1,d2,d3⟩:=divmod_lt ht;refine ⟨?_,by simp [World.frozen?,g2]⟩;obtain ⟨v,a1,a2⟩:=hcell (t / k) (t % k) d1 d2;simp only [World.cell?,g2,Option.isSome_none,Bool.false_eq_true,if_false];rw [show st+0 * k+t=st+t / k * k+t % k by rw [Nat.zero_mul,Nat.add_zero,Nat.add_assoc,d3],a1];rw [get_flatK _ _ _ _ (by simpa using ht)];have e1:zs.toArray[t / k]! =zs[t / k]:=by simp [d1]
   rw [e1,get!_of a2];rfl
  subst hn;refine (hS blk (st+0 * k) cap zs w hH hlt hl).mono ?_;rintro e w' ⟨rfl,q,os,rfl⟩;have hsl:=hlen zs;refine ⟨_,rfl,σ,_,.tup [],⟨rfl,rfl⟩,?_,.tup rfl fun i c u x=>by simp at x⟩;have hheap:(sortWorldK E k w blk (st+0 * k) q (srt zs).toArray os).heap=(w.heap.setIfInBounds blk (.cells (putCells (_root_.id :Value→Value) (st+0 * k) (flatK E k (srt zs).toArray) cs) T (0,0)))++os:=by
   show (w.heap.modify blk (onCells _))++os=_
   congr 1
   refine Array.ext_getElem? fun i=>?_;rw [Array.getElem?_modify,Array.getElem?_setIfInBounds];by_cases e:blk=i
   ·subst e;rw [if_pos rfl,if_pos rfl,g2];simp [onCells,hlt]
   ·rw [if_neg e,if_neg e]
  refine s.rewrite ho hρ g2 (cs':=putCells (_root_.id :Value→Value) (st+0 * k) (flatK E k (srt zs).toArray) cs) (os:=os) hheap ⟨rfl,rfl,rfl⟩ (by simp [putCells]) (by simp [hsl]) (fun i row x=>?_) (fun i j c x=>?_)
  ·rw [List.getElem?_map,Option.map_eq_some_iff] at x;obtain ⟨a,_,rfl⟩:=x;exact hRk a
  ·obtain ⟨row,hr,hj⟩:=cellAt_get x;rw [List.getElem?_map,Option.map_eq_some_iff] at hr;obtain ⟨a,ha,rfl⟩:=hr;have hi:i<(srt zs).length:=(List.getElem?_eq_some_iff.1 ha).1;have hjk:j<k:=by rw [←hRk a];exact (List.getElem?_eq_some_iff.1 hj).1
   obtain ⟨v,b1,b2,b3⟩:=hmk σ a j c hj;refine ⟨v,?_,b2,b3⟩;have hlen2:(zs.map R).length=zs.length:=by simp
   have hin:i * k+j<(srt zs).length * k:=by
    have:i * k+j<(i+1) * k:=by rw [Nat.add_mul,Nat.one_mul];omega
    exact Nat.lt_of_lt_of_le this (Nat.mul_le_mul_right k hi)
   have hkc:st+i * k+j<cs.size:=by
    have:(srt zs).length * k≤n * k:=by rw [hsl];exact Nat.mul_le_mul_right k (by rw [g4];simp)
    omega
   have e2:(i * k+j) / k=i:=by
    rw [Nat.mul_comm,Nat.mul_add_div (by omega),Nat.div_eq_of_lt hjk,Nat.add_zero]
   have e3:(i * k+j) % k=j:=by
    rw [Nat.mul_comm,Nat.mul_add_mod,Nat.mod_eq_of_lt hjk]
   have e4:(flatK E k (srt zs).toArray)[i * k+j]! =v:=by
    rw [get_flatK _ _ _ _ (by simpa using hin),e2,e3];have e1:(srt zs).toArray[i]! =a:=by
     have:(srt zs)[i]! =a:=get!_of ha;simpa using this
    rw [e1];exact get!_of b1
   unfold putCells;rw [Array.getElem?_mapIdx,Array.getElem?_eq_getElem hkc];simp only [Option.map_some];rw [if_pos (by rw [size_flatK];simp only [List.size_toArray];omega)];rw [show st+i * k+j-(st+0 * k)=i * k+j by omega,e4];(try rfl)
end Go.Ab
