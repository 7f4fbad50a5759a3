/-
  What is proved here serves the law's text: each part says its own claim and its conditions. No condition is left open.
-/
import Derived.StillTailTactics
import Derived.Shelf.SlSortCmp.NoneTotal
import Derived.Test.YtohegnfjdfcebaaGreatDoorJD
import Derived.Test.YtohegnfjdfcebaaGreatDoorJA
import Derived.Test.YtohegnfjdfcebaaGreatDoorKW
import Derived.Test.YtohegnfjdfcebaaGreatDoorJC
import Derived.Test.YtohegnfjdfcebaaGreatDoorKU
import Derived.Test.YtohegnfjdfcebaaGreatDoorKV
import Derived.Test.YtohegnfjdfcebaaGreatDoorKZ
import Derived.Test.YtohegnfjdfcebaaGreatDoorKP
import Derived.Test.YtohegnfjdfcebaaGreatDoorKT
set_option maxHeartbeats 32000000
set_option maxRecDepth 100000
set_option linter.unusedSimpArgs false
set_option linter.unusedVariables false

namespace Go.Proofs
open Go.Shelf Go.RowKit Go.Lib Go.Sort
theorem order108 (x y:Go.Ab.V.Stp) (W:World):Calls Tryz.prog 108 #[.agg #[.int .i64 x.c,.int .i64 x.f,.int .i64 x.r,.int .i64 x.g,.int .i64 x.h],.agg #[.int .i64 y.c,.int .i64 y.f,.int .i64 y.r,.int .i64 y.g,.int .i64 y.h]] W
  fun e w'=>e= .returned (.int .i64 (compareInt x.c y.c))∧∃q os',w'=grow (W.drewN q) os':=by
 obtain ⟨x1,x2,x3,x4,x5⟩:=x;obtain ⟨y1,y2,y3,y4,y5⟩:=y;have hcon:=fun a b W'=>AnyG.cmp_Compare_int Tryz.laysCmp a b W';change ∀a b W',Calls Tryz.prog 109 _ _ _ at hcon
 go_enter Tryz.func108,Tryz.ntmps108
 go_wp2_with (go_at_call 109;refine (hcon _ _ _).mono ?_;rintro e w' ⟨rfl,rfl⟩)
 all_goals go_ret
 refine ⟨rfl,0,#[.cells #[.int .i64 x1,.int .i64 x2,.int .i64 x3,.int .i64 x4,.int .i64 x5] 47,.cells #[.int .i64 y1,.int .i64 y2,.int .i64 y3,.int .i64 y4,.int .i64 y5] 47],?_⟩;simp only [alloc_eq_grow,grow_grow];rfl
end Go.Proofs
namespace Go.Ab.V
open Go.Proofs Go.Sort
abbrev InL (L:List Stp):={ s:Stp // s∈L }
def cmpS {L:List Stp} (x y:InL L):Int:=Lib.compareInt x.1.c y.1.c
def encS {L:List Stp} (x:InL L):List Value:=[.int .i64 x.1.c,.int .i64 x.1.f,.int .i64 x.1.r,.int .i64 x.1.g,.int .i64 x.1.h]
theorem cmpS_lt {L:List Stp} (x y:InL L):ltOf cmpS x y=decide (x.1.c<y.1.c):=by
 show decide (Lib.compareInt x.1.c y.1.c<0)=_;unfold Lib.compareInt
 congr 1
 apply propext
 split
 ·simp;omega
 ·split<;>simp<;>omega
theorem cmpS_swo {L:List Stp}:SWO (ltOf (cmpS (L:=L))):=by
 refine ⟨fun x=>?_,fun x y z h1 h2=>?_,fun x y z h1 h2=>?_⟩
 ·rw [cmpS_lt];simp
 ·rw [cmpS_lt,decide_eq_true_eq] at *;omega
 ·rw [cmpS_lt,decide_eq_false_iff_not] at *;omega
theorem asc_eq {L:List Stp} (hp:L.Pairwise fun a b=>a.c<b.c):∀x∈L,∀y∈L,x.c=y.c→x=y:=by
 induction L with
 |nil=>intro x hx;cases hx
 |cons a r ih=>
  rw [List.pairwise_cons] at hp;intro x hx y hy e
  rcases List.mem_cons.1 hx with h1|h1<;>rcases List.mem_cons.1 hy with h2|h2
  ·rw [h1,h2]
  ·have:=hp.1 y h2;rw [h1] at e;omega
  ·have:=hp.1 x h1;rw [h2] at e;omega
  ·exact ih hp.2 x h1 y h2 e
theorem sort_id {L:List Stp} (hp:L.Pairwise fun a b=>a.c<b.c):(L.attach.mergeSort fun x y=>!(ltOf cmpS) y x)=L.attach:=by
 refine List.mergeSort_of_pairwise ?_;have h:(L.attach.map (·.1)).Pairwise fun a b=>a.c<b.c:=by rw [List.attach_map_subtype_val];exact hp
 rw [List.pairwise_map] at h;refine h.imp fun {x y} hxy=>?_;rw [cmpS_lt];simp;omega
theorem sort107g {h:Heap} {id:Id} {ep:Nat} {L:List Stp} (hp:L.Pairwise fun a b=>a.c<b.c) (hne:L≠[]) (zs:List (InL L)) (ho:h[id]? =some (.vec ep (zs.map fun x=>stR x.1))) (hl:zs.length<4611686018427387904):
  ACalls C.P 107 [.oslc id ep 5 0 zs.length false,.fn (.func 108) [] []] h fun r h'=>r= .tup []∧h'=h.set id (.vec ep ((zs.mergeSort fun x y=>!(ltOf cmpS) y x).map fun x=>stR x.1)):=by
 haveI:Inhabited (InL L):=⟨⟨L.head hne,List.head_mem hne⟩⟩
 refine sortF_acalls (P:=Tryz.prog) (f:=107) (g:=108) (α:=InL L) (R:=fun x=>stR x.1) (E:=encS) (k:=5) (srt:=fun zs=>zs.mergeSort fun x y=>!(ltOf cmpS) y x) (fun zs=>List.length_mergeSort _) (fun _=>rfl) (fun σ x j c v hc hv=>?_) (fun σ x j c hc=>?_) (fun blk off cap zs w hH hb hz=>?_) (fun p cap w=>?_) ho hl
 ·obtain ⟨⟨a,b,d,e,f⟩,hx⟩:=x
  match j,hc with
  |0,hc=>cases hc;cases hv;rfl
  |1,hc=>cases hc;cases hv;rfl
  |2,hc=>cases hc;cases hv;rfl
  |3,hc=>cases hc;cases hv;rfl
  |4,hc=>cases hc;cases hv;rfl
  |j+5,hc=>simp [stR] at hc
 ·obtain ⟨⟨a,b,d,e,f⟩,hx⟩:=x
  match j,hc with
  |0,hc=>cases hc;exact ⟨_,rfl,rfl,.int⟩
  |1,hc=>cases hc;exact ⟨_,rfl,rfl,.int⟩
  |2,hc=>cases hc;exact ⟨_,rfl,rfl,.int⟩
  |3,hc=>cases hc;exact ⟨_,rfl,rfl,.int⟩
  |4,hc=>cases hc;exact ⟨_,rfl,rfl,.int⟩
  |j+5,hc=>simp [stR] at hc
 ·have eg:∀args w,(callFunc 108 args).run Tryz.prog w= .ok (.enter 108 args) w:=enters_of Tryz.func108 (by kernel_rfl) rfl;have hcon:=AnyQ.slices_SortFunc_total Tryz.laysSortF 5 Tryz.isAgg47 Tryz.sizeOf47 (encS (L:=L)) (fun _=>rfl) (fun x v hv=>by simp [encS] at hv;rcases hv with rfl|rfl|rfl|rfl|rfl<;>rfl) cmpS cmpS_swo 108 #[] blk off cap zs.toArray w eg
   (fun m os dk _ x y=>order108 x.1 y.1 _) hH hb (by simpa using hz) (fun x y h1 h2=>by
    rw [cmpS_lt,decide_eq_false_iff_not] at h1 h2;exact Subtype.ext (asc_eq hp x.1 x.2 y.1 y.2 (by omega)))
  change Calls Tryz.prog 107 _ _ _ at hcon;refine (show Calls Tryz.prog 107 #[.slice (some ⟨blk,off,none⟩) zs.length cap,.func (.func 108) #[] #[]] w _ from hcon).mono ?_;rintro e w' ⟨rfl,n,os,rfl⟩;exact ⟨rfl,n,os,rfl⟩
 ·have hcon:=AnyF.slices_SortFunc_none Tryz.laysSortF p cap (.func (.func 108) #[] #[]) w;exact hcon
theorem sort107 {h:Heap} {id:Id} {ep:Nat} {L:List Stp} (hp:L.Pairwise fun a b=>a.c<b.c) (ho:h[id]? =some (.vec ep (L.map stR))) (hl:L.length<4611686018427387904):
  ACalls C.P 107 [.oslc id ep 5 0 L.length false,.fn (.func 108) [] []] h fun r h'=>r= .tup []∧h'=h.set id (.vec ep (L.map stR)):=by
 by_cases hne:L=[]
 ·subst hne;have key:=sort107g (h:=h) (id:=id) (ep:=ep) (L:=[⟨1,0,0,0,0⟩]) (by simp) (by simp) [] ho (by simp);rw [List.mergeSort_nil] at key;exact key
 ·have hmap:L.attach.map (fun x:InL L=>stR x.1)=L.map stR:=by
   conv=>rhs;rw [←List.attach_map_subtype_val L]
   rw [List.map_map];rfl
  have key:=sort107g (h:=h) (id:=id) (ep:=ep) hp hne L.attach (by rw [hmap];exact ho) (by simpa using hl);rw [sort_id hp,hmap,List.length_attach] at key;exact key
end Go.Ab.V

namespace Go.Ab.V
open Go.Proofs
def lostB (y:Sy) (s:Stp):Bool:=(symbolS y s.c s.f).2 !=0
def pl6 (y:Sy) (s:Stp):List AV:=[.int .i64 s.c,.int .i64 s.f,.int .i64 s.r,.int .i64 s.g,.int .i64 s.h,.bool (lostB y s)]
def A36:Ann:=fun r=>match r with
 |4=>{ slots:=[(2,0)] }
 |6=>{ slots:=[(5,1),(6,2)] }
 |_=>{}
theorem p36 (y:Sy) (l:List Stp) (hl:l.length≤1000) (hn:l≠[]):PRet C.P 36 [stsA l,.lptr 1 [[.int .u8 y.n]] 0 0] (.lslc 6 (l.map (pl6 y)) 0 l.length false):=by
 refine pret_of ok mixed (A:=A36) 3 Tryz.func36 rfl ?_
 (repeat' (first|exact rfl|((conv=>whnf);first|exact rfl|exact ⟨rfl,rfl⟩|refine go1 ?_|(intro ep)|fail)))
 (conv=>whnf);refine wk_lift 4 2 6 rfl fun e2=>?_;refine loopY ok mixed (A:=A36) [1,4,9,10,11] [2] (S:={ x:Nat×Nat // x.1≤l.length })
  (fr:=fun s=>frOf 0 34 [(1,.lptr 1 [[.int .u8 y.n]] 0 0),(4,.oslc (.s 2) s.1.2 6 0 s.1.1 false),(9,stsA l),(10,.int .i64 l.length),(11,.int .i64 (s.1.1:Int))])
  (h:=fun s=>⟨[.hole,.hole,.vec s.1.2 ((l.take s.1.1).map (pl6 y))],[]⟩) (μ:=fun s=>l.length-s.1.1) ⟨(0,e2),by simp⟩ ?_ ?_
  [4] [2] (S':=Nat) (X:=fun _=>0) (frX:=fun s=>frOf 0 34 [(4,.oslc (.s 2) s 6 0 l.length false)]) (hX:=fun s=>⟨[.hole,.hole,.vec s (l.map (pl6 y))],[]⟩)
  [] [] (S2:={ x:Nat // False }) (frR:=fun s=>frOf 0 34 []) (hR:=fun s=>⟨[],[]⟩) ?_ ?_ ?_
 ·exact rfl
 ·exact rfl
 ·rintro ⟨⟨k,e2⟩,hk⟩;dsimp only at hk;show aexR _ _ _ (frOf 0 34 [(1,.lptr 1 [[.int .u8 y.n]] 0 0),(4,.oslc (.s 2) e2 6 0 k false),(9,stsA l),(10,.int .i64 l.length),(11,.int .i64 (k:Int))]) ⟨[.hole,.hole,.vec e2 ((l.take k).map (pl6 y))],[]⟩ _;(conv=>whnf);refine ifB (fun g1=>?_) (fun g1=>?_)
  ·simp only [decide_eq_true_eq] at g1;have hkl:k<l.length:=by omega
   have hm:=mapR (f:=stR) hkl;have hap:(l.take (k+1)).map (pl6 y)=List.take k (List.drop 0 ((l.take k).map (pl6 y)))++[pl6 y l[k]]:=by
    have e1:List.take k ((l.take k).map (pl6 y))=(l.take k).map (pl6 y):=List.take_of_length_le (by rw [List.length_map,List.length_take];omega);rw [List.drop_zero,e1,List.take_succ_eq_append_getElem hkl,List.map_append];rfl
   obtain ⟨s,hs⟩:∃s,s=l[k]:=⟨_,rfl⟩;rw [←hs] at hm hap;have hsy:=symbol_spec y s.c s.f
   (repeat' (first|exact rfl|((conv=>whnf);first|(refine optS hm ?_)|(refine ⟨_,hsy,?_⟩)|exact rfl|exact ⟨rfl,rfl⟩|refine go1 ?_|(intro ep)|(refine ifB ?_ ?_<;>intro hb<;>(try simp only [qs] at hb)<;>(try simp (disch:=omega) only [wrapI] at hb)<;>(try (exfalso;omega)))|fail)))
   all_goals (conv=>whnf)
   all_goals exact back_of ⟨(k+1,ep),hkl⟩ ⟨by (first|exact rfl|(simp (disch:=omega) only [wrapI];exact rfl)),by dsimp only;rw [hap];exact rfl,by dsimp only;omega⟩
  ·simp only [decide_eq_false_iff_not] at g1;obtain rfl:k=l.length:=by omega
   rw [List.take_length]
   (repeat' (first|exact rfl|((conv=>whnf);first|exact rfl|exact ⟨rfl,rfl⟩|refine go1 ?_|(intro ep)|(refine ifB ?_ ?_<;>intro hb<;>(try simp only [qs] at hb)<;>(try simp (disch:=omega) only [wrapI] at hb)<;>(try (exfalso;omega)))|fail)))
   all_goals (conv=>whnf)
   all_goals exact back_of e2 ⟨rfl,rfl,rfl⟩
 ·rintro ⟨_,h⟩;exact h.elim
 ·intro e2
  (repeat' (first|exact rfl|((conv=>whnf);first|(refine ⟨rfl,pure_map l fun x=>rfl,?_⟩)|exact ⟨rfl,rfl⟩|exact rfl|exact ⟨rfl,rfl⟩|refine go1 ?_|(intro ep)|fail)))
def A79:Ann:=fun r=>match r with
 |0=>{ slots:=[(0,0)] }
 |_=>{}
theorem p79 (s:Stp) (a b w:Int):PRet C.P 79 [.agg (stR s),.lptr 3 [[.int .i64 a,.int .i64 b,.int .i64 w]] 0 0] (.bool (s.c==b)):=by
 refine pret_of ok mixed (A:=A79) 1 Tryz.func79 rfl ?_
 (repeat' (first|exact rfl|((conv=>whnf);first|exact rfl|exact ⟨rfl,rfl⟩|refine go1 ?_|(intro ep)|(refine ifB ?_ ?_<;>intro hb<;>(try simp only [qs] at hb)<;>(try simp (disch:=omega) only [wrapI] at hb)<;>(try (exfalso;omega)))|fail)))
theorem p110 (s q:Stp) (a b:Int) (x:AV):PRet C.P 110 [.agg (stR s),.lptr 8 [stR q++[.int .i64 a,.int .i64 b,x]] 0 0] (.bool (s.c==q.c)):=by
 refine pret_of ok mixed (A:=A79) 1 Tryz.func110 rfl ?_
 (repeat' (first|exact rfl|((conv=>whnf);first|exact rfl|exact ⟨rfl,rfl⟩|refine go1 ?_|(intro ep)|(refine ifB ?_ ?_<;>intro hb<;>(try simp only [qs] at hb)<;>(try simp (disch:=omega) only [wrapI] at hb)<;>(try (exfalso;omega)))|fail)))
def idxC (c:Int):List Stp→Int→Int
 | [],_=>-1
 |s::r,k=>if (s.c==c)=true then k else idxC c r (k+1)
theorem p78a (l:List Stp) (hl:l.length≤1000000) (a c w:Int):PRet C.P 78 [stsA l,.fn (.func 79) [] [.lptr 3 [[.int .i64 a,.int .i64 c,.int .i64 w]] 0 0]] (.int .i64 (idxC c l 0)):=by
 obtain ⟨R,hR⟩:∃R,R=idxC c l 0:=⟨_,rfl⟩;rw [←hR];refine pret_of ok mixed (A:=fun _=>{}) 0 Tryz.func78 rfl ?_
 (repeat' (first|exact rfl|((conv=>whnf);first|exact rfl|exact ⟨rfl,rfl⟩|refine go1 ?_|(intro ep)|fail)))
 (conv=>whnf);refine loopM ok mixed (A:=fun _=>{}) [0,1,7,8] [] (S:={ k:Nat // k≤l.length∧idxC c (l.drop k) k=R })
  (fr:=fun s=>frOf 0 19 [(0,stsA l),(1,.fn (.func 79) [] [.lptr 3 [[.int .i64 a,.int .i64 c,.int .i64 w]] 0 0]),(7,.int .i64 l.length),(8,.int .i64 (s.1:Int))])
  (h:=fun s=>⟨[],[]⟩) (μ:=fun s=>l.length-s.1) ⟨0,by omega,hR.symm⟩ rfl rfl ?_
 rintro ⟨k,hk,hu⟩;show aexR _ _ _ (frOf 0 19 [(0,stsA l),(1,.fn (.func 79) [] [.lptr 3 [[.int .i64 a,.int .i64 c,.int .i64 w]] 0 0]),(7,.int .i64 l.length),(8,.int .i64 (k:Int))]) ⟨[],[]⟩ _;(conv=>whnf);refine ifB (fun g1=>?_) (fun g1=>?_)
 ·simp only [decide_eq_true_eq] at g1;have hkl:k<l.length:=by omega
  have hm:=mapR (f:=stR) hkl;rw [drop_at hkl,idxC] at hu;obtain ⟨s,hs⟩:∃s,s=l[k]:=⟨_,rfl⟩;rw [←hs] at hm hu;have hc:=p79 s a c w;have hw:IntKind.i64.wrap ((k:Int)+1)=((k+1:Nat):Int):=by simp (disch:=omega) only [wrapI];omega
  cases hq:(s.c==c) with
  |true=>
   rw [hq,if_pos rfl] at hu;rw [hq] at hc
   (repeat' (first|exact rfl|exact congrArg (AV.int .i64) hu|((conv=>whnf);first|(refine optS hm ?_)|(refine PRet.calls hc ?_)|(rw [hw])|exact rfl|exact ⟨rfl,rfl⟩|refine go1 ?_|(intro ep)|(refine ifB ?_ ?_<;>intro hb<;>(try simp only [qs] at hb)<;>(try simp (disch:=omega) only [wrapI] at hb)<;>(try (exfalso;omega)))|fail)))
  |false=>
   rw [hq,if_neg (by simp)] at hu;rw [hq] at hc
   (repeat' (first|exact rfl|((conv=>whnf);first|(refine optS hm ?_)|(refine PRet.calls hc ?_)|(rw [hw])|exact rfl|exact ⟨rfl,rfl⟩|refine go1 ?_|(intro ep)|(refine ifB ?_ ?_<;>intro hb<;>(try simp only [qs] at hb)<;>(try simp (disch:=omega) only [wrapI] at hb)<;>(try (exfalso;omega)))|fail)))
   all_goals (conv=>whnf)
   all_goals exact back_of ⟨k+1,hkl,by rw [←hu];rfl⟩ ⟨rfl,rfl,by dsimp only;omega⟩
 ·simp only [decide_eq_false_iff_not] at g1;obtain rfl:k=l.length:=by omega
  rw [List.drop_length,idxC] at hu
  (repeat' (first|exact rfl|exact congrArg (AV.int .i64) hu|((conv=>whnf);first|exact rfl|exact ⟨rfl,rfl⟩|refine go1 ?_|(intro ep)|(refine ifB ?_ ?_<;>intro hb<;>(try simp only [qs] at hb)<;>(try simp (disch:=omega) only [wrapI] at hb)<;>(try (exfalso;omega)))|fail)))
theorem p78b (l:List Stp) (hl:l.length≤1000000) (q:Stp) (a b:Int) (x:AV):PRet C.P 78 [stsA l,.fn (.func 110) [] [.lptr 8 [stR q++[.int .i64 a,.int .i64 b,x]] 0 0]] (.int .i64 (idxC q.c l 0)):=by
 obtain ⟨R,hR⟩:∃R,R=idxC q.c l 0:=⟨_,rfl⟩;rw [←hR];refine pret_of ok mixed (A:=fun _=>{}) 0 Tryz.func78 rfl ?_
 (repeat' (first|exact rfl|((conv=>whnf);first|exact rfl|exact ⟨rfl,rfl⟩|refine go1 ?_|(intro ep)|fail)))
 (conv=>whnf);refine loopM ok mixed (A:=fun _=>{}) [0,1,7,8] [] (S:={ k:Nat // k≤l.length∧idxC q.c (l.drop k) k=R })
  (fr:=fun s=>frOf 0 19 [(0,stsA l),(1,.fn (.func 110) [] [.lptr 8 [stR q++[.int .i64 a,.int .i64 b,x]] 0 0]),(7,.int .i64 l.length),(8,.int .i64 (s.1:Int))])
  (h:=fun s=>⟨[],[]⟩) (μ:=fun s=>l.length-s.1) ⟨0,by omega,hR.symm⟩ rfl rfl ?_
 rintro ⟨k,hk,hu⟩;show aexR _ _ _ (frOf 0 19 [(0,stsA l),(1,.fn (.func 110) [] [.lptr 8 [stR q++[.int .i64 a,.int .i64 b,x]] 0 0]),(7,.int .i64 l.length),(8,.int .i64 (k:Int))]) ⟨[],[]⟩ _;(conv=>whnf);refine ifB (fun g1=>?_) (fun g1=>?_)
 ·simp only [decide_eq_true_eq] at g1;have hkl:k<l.length:=by omega
  have hm:=mapR (f:=stR) hkl;rw [drop_at hkl,idxC] at hu;obtain ⟨s,hs⟩:∃s,s=l[k]:=⟨_,rfl⟩;rw [←hs] at hm hu;have hc:=p110 s q a b x;have hw:IntKind.i64.wrap ((k:Int)+1)=((k+1:Nat):Int):=by simp (disch:=omega) only [wrapI];omega
  cases hq:(s.c==q.c) with
  |true=>
   rw [hq,if_pos rfl] at hu;rw [hq] at hc
   (repeat' (first|exact rfl|exact congrArg (AV.int .i64) hu|((conv=>whnf);first|(refine optS hm ?_)|(refine PRet.calls hc ?_)|(rw [hw])|exact rfl|exact ⟨rfl,rfl⟩|refine go1 ?_|(intro ep)|(refine ifB ?_ ?_<;>intro hb<;>(try simp only [qs] at hb)<;>(try simp (disch:=omega) only [wrapI] at hb)<;>(try (exfalso;omega)))|fail)))
  |false=>
   rw [hq,if_neg (by simp)] at hu;rw [hq] at hc
   (repeat' (first|exact rfl|((conv=>whnf);first|(refine optS hm ?_)|(refine PRet.calls hc ?_)|(rw [hw])|exact rfl|exact ⟨rfl,rfl⟩|refine go1 ?_|(intro ep)|(refine ifB ?_ ?_<;>intro hb<;>(try simp only [qs] at hb)<;>(try simp (disch:=omega) only [wrapI] at hb)<;>(try (exfalso;omega)))|fail)))
   all_goals (conv=>whnf)
   all_goals exact back_of ⟨k+1,hkl,by rw [←hu];rfl⟩ ⟨rfl,rfl,by dsimp only;omega⟩
 ·simp only [decide_eq_false_iff_not] at g1;obtain rfl:k=l.length:=by omega
  rw [List.drop_length,idxC] at hu
  (repeat' (first|exact rfl|exact congrArg (AV.int .i64) hu|((conv=>whnf);first|exact rfl|exact ⟨rfl,rfl⟩|refine go1 ?_|(intro ep)|(refine ifB ?_ ?_<;>intro hb<;>(try simp only [qs] at hb)<;>(try simp (disch:=omega) only [wrapI] at hb)<;>(try (exfalso;omega)))|fail)))

def tieE (ties rests tie:Bool):Int×Bool:=if tie=true then (if ties=false then (7,false) else (0,true)) else (if rests=false then (8,true) else (0,false))
def A38:Ann:=fun _=>{}
theorem p38b (ties rests tie:Bool) {b v d th x:AV} {e:Nat} {K:AV→Heap→Prop}
  (hK:K (.int .i64 (tieE ties rests tie).1) ⟨[.vec e [[b,v,d,th,.bool (tieE ties rests tie).2,x]]],[]⟩):
  ACalls C.P 38 [.optr (.s 0) e 6 0 0,.lptr 1 [[.bool ties]] 0 0,.lptr 1 [[.bool rests]] 0 0] ⟨[.vec e [[b,v,d,th,.bool tie,x]]],[]⟩ K:=by
 refine fn_of ok mixed (A:=A38) 0 Tryz.func38 rfl ?_;cases ties<;>cases rests<;>cases tie
 all_goals (repeat' (first|exact hK|exact rfl|((conv=>whnf);first|exact rfl|exact ⟨rfl,rfl⟩|refine go1 ?_|(intro ep)|(refine ifB ?_ ?_<;>intro hb<;>(try simp only [qs] at hb)<;>(try simp (disch:=omega) only [wrapI] at hb)<;>(try (exfalso;omega)))|fail)))
theorem p38 (ties rests tie:Bool) {b v d th x:AV} {e:Nat} {tl dy:List AObj} {K:AV→Heap→Prop}
  (hK:K (.int .i64 (tieE ties rests tie).1) ⟨.vec e [[b,v,d,th,.bool (tieE ties rests tie).2,x]]::tl,dy⟩):
  ACalls C.P 38 [.optr (.s 0) e 6 0 0,.lptr 1 [[.bool ties]] 0 0,.lptr 1 [[.bool rests]] 0 0] ⟨.vec e [[b,v,d,th,.bool tie,x]]::tl,dy⟩ K:=
 ACalls.tail (tl:=tl) (K0:=fun r h=>r= .int .i64 (tieE ties rests tie).1∧h=⟨[.vec e [[b,v,d,th,.bool (tieE ties rests tie).2,x]]],dy⟩)
  (ACalls.frameD (K0:=fun r h=>r= .int .i64 (tieE ties rests tie).1∧h=⟨[.vec e [[b,v,d,th,.bool (tieE ties rests tie).2,x]]],[]⟩) (p38b ties rests tie ⟨rfl,rfl⟩) fun r h1 ⟨e1,e2⟩=>⟨e1,by rw [e2]⟩)
  fun r h1 ⟨e1,e2⟩=>by subst e1 e2;exact hK
def hr0 (y:Sy) (s:Stp):Bool:=(cellE y ⟨s.c,s.f,s.r,0,0⟩).2 !=0
def hg0 (y:Sy) (s:Stp):Bool:=(cellE y ⟨s.c,s.f,0,s.g,0⟩).2 !=0
def hndL (y:Sy) (s:Stp):List Int:=(if hr0 y s=true then [2] else [])++(if hg0 y s=true then [3] else [])
def hndS (y:Sy) (s:Stp):Stp:=⟨s.c,s.f,if hr0 y s=true then 0 else s.r,if hg0 y s=true then 0 else s.g,s.h⟩
def intsA0 (l:List Int):AV:=match l with
 | []=>.nils
 |a::r=>intsA (a::r)
def A39:Ann:=fun r=>match r with
 |4=>{ slots:=[(2,2),(3,3)] }
 |7=>{ slots:=[(2,4),(3,5)] }
 |8=>{ frz:=[3] }
 |_=>{}
theorem p39b (y:Sy) (s:Stp) (hs:s.In) {a b x:AV} {q:AObj} {e:Nat} {K:AV→Heap→Prop}
  (hK:∀rest,K (intsA0 (hndL y s)) ⟨q:: .vec e [stR (hndS y s)++[a,b,x]]::rest,[]⟩):
  ACalls C.P 39 [.optr (.s 1) e 8 0 0,.lptr 1 [[.int .u8 y.n]] 0 0] ⟨[q,.vec e [stR s++[a,b,x]]],[]⟩ K:=by
 refine fn_of ok mixed (A:=A39) 4 Tryz.func39 rfl ?_;have h1:=Cell_spec y ⟨s.c,s.f,s.r,0,0⟩ ⟨hs.c1,hs.c2,hs.f1,hs.f2,hs.r1,hs.r2,by dsimp only;decide,by dsimp only;decide,by dsimp only;decide,by dsimp only;decide⟩ rfl;have h2:=Cell_spec y ⟨s.c,s.f,0,s.g,0⟩ ⟨hs.c1,hs.c2,hs.f1,hs.f2,by dsimp only;decide,by dsimp only;decide,hs.g1,hs.g2,by dsimp only;decide,by dsimp only;decide⟩ rfl;unfold hndL hndS hr0 hg0 at hK;generalize cellE y ⟨s.c,s.f,s.r,0,0⟩=P1 at h1 hK;generalize cellE y ⟨s.c,s.f,0,s.g,0⟩=P2 at h2 hK;obtain ⟨w1,E1⟩:=P1;obtain ⟨w2,E2⟩:=P2;obtain ⟨c,f,r,g,h⟩:=s;dsimp only at h1 h2 hK;have hz1:=Decidable.em (E1=0);have hz2:=Decidable.em (E2=0)
 rcases hz1 with rfl|z1<;>rcases hz2 with rfl|z2
 ·(repeat' (first|exact hK _|exact rfl|((conv=>whnf);first|(refine ⟨_,h1,?_⟩)|(refine ⟨_,h2,?_⟩)|(refine ⟨pure_ints [2],?_⟩)|(refine ⟨pure_ints [3],?_⟩)|(refine ⟨pure_ints [2,3],?_⟩)|exact rfl|exact ⟨rfl,rfl⟩|refine go1 ?_|(intro ep)|(refine ifB ?_ ?_<;>intro hb<;>(try simp only [qs] at hb)<;>(try simp (disch:=omega) only [wrapI] at hb)<;>(try (exfalso;omega)))|fail)))
 ·rw [show (E2 !=0)=true by simpa using z2] at hK
  (repeat' (first|exact hK _|exact rfl|((conv=>whnf);first|(refine ⟨_,h1,?_⟩)|(refine ⟨_,h2,?_⟩)|(refine ⟨pure_ints [2],?_⟩)|(refine ⟨pure_ints [3],?_⟩)|(refine ⟨pure_ints [2,3],?_⟩)|(exact absurd hb z2)|exact rfl|exact ⟨rfl,rfl⟩|refine go1 ?_|(intro ep)|(refine ifB ?_ ?_<;>intro hb<;>(try simp only [qs] at hb)<;>(try simp (disch:=omega) only [wrapI] at hb)<;>(try (exfalso;omega)))|fail)))
 ·rw [show (E1 !=0)=true by simpa using z1] at hK
  (repeat' (first|exact hK _|exact rfl|((conv=>whnf);first|(refine ⟨_,h1,?_⟩)|(refine ⟨_,h2,?_⟩)|(refine ⟨pure_ints [2],?_⟩)|(refine ⟨pure_ints [3],?_⟩)|(refine ⟨pure_ints [2,3],?_⟩)|(exact absurd hb z1)|exact rfl|exact ⟨rfl,rfl⟩|refine go1 ?_|(intro ep)|(refine ifB ?_ ?_<;>intro hb<;>(try simp only [qs] at hb)<;>(try simp (disch:=omega) only [wrapI] at hb)<;>(try (exfalso;omega)))|fail)))
 ·rw [show (E1 !=0)=true by simpa using z1,show (E2 !=0)=true by simpa using z2] at hK
  (repeat' (first|exact hK _|exact rfl|((conv=>whnf);first|(refine ⟨_,h1,?_⟩)|(refine ⟨_,h2,?_⟩)|(refine ⟨pure_ints [2],?_⟩)|(refine ⟨pure_ints [3],?_⟩)|(refine ⟨pure_ints [2,3],?_⟩)|(exact absurd hb z1)|(exact absurd hb z2)|exact rfl|exact ⟨rfl,rfl⟩|refine go1 ?_|(intro ep)|(refine ifB ?_ ?_<;>intro hb<;>(try simp only [qs] at hb)<;>(try simp (disch:=omega) only [wrapI] at hb)<;>(try (exfalso;omega)))|fail)))
theorem p39 (y:Sy) (s:Stp) (hs:s.In) {a b x:AV} {q:AObj} {e:Nat} {tl dy:List AObj} {K:AV→Heap→Prop}
  (hK:K (intsA0 (hndL y s)) ⟨q:: .vec e [stR (hndS y s)++[a,b,x]]::tl,dy⟩):
  ACalls C.P 39 [.optr (.s 1) e 8 0 0,.lptr 1 [[.int .u8 y.n]] 0 0] ⟨q:: .vec e [stR s++[a,b,x]]::tl,dy⟩ K:=
 ACalls.tail (st1:=[q,.vec e [stR s++[a,b,x]]]) (tl:=tl) (K0:=fun r h=>r=intsA0 (hndL y s)∧∃rest,h=⟨q:: .vec e [stR (hndS y s)++[a,b,x]]::rest,dy⟩)
  (ACalls.frameD (K0:=fun r h=>r=intsA0 (hndL y s)∧∃rest,h=⟨q:: .vec e [stR (hndS y s)++[a,b,x]]::rest,[]⟩) (p39b y s hs fun rest=>⟨rfl,rest,rfl⟩) fun r h1 ⟨e1,rest,e2⟩=>⟨e1,rest,by rw [e2]⟩)
  fun r h1 ⟨e1,rest,e2⟩=>by subst e1 e2;exact hK
theorem p39L (y:Sy) (s:Stp) (hs:s.In) {L:List Int} (hL:hndL y s=L) {a b x:AV} {q:AObj} {e:Nat} {tl dy:List AObj} {K:AV→Heap→Prop}
  (hK:K (intsA0 L) ⟨q:: .vec e [stR (hndS y s)++[a,b,x]]::tl,dy⟩):
  ACalls C.P 39 [.optr (.s 1) e 8 0 0,.lptr 1 [[.int .u8 y.n]] 0 0] ⟨q:: .vec e [stR s++[a,b,x]]::tl,dy⟩ K:=
 p39 y s hs (by rw [hL];exact hK)

theorem rowsM_get {B:Nat} {eps:Nat→Nat}:∀{l:List Evt} {i k:Nat} (h:k<l.length),(rowsD memL B eps i l)[k]? =some (evX l[k] (.oslc (.d (B+memL.c * (i+k))) (eps (i+k)) 5 0 l[k].stops.length false))
 |e::r,i,0,_=>rfl
 |e::r,i,k+1,h=>by
  simp only [rowsD,List.getElem?_cons_succ,List.getElem_cons_succ];rw [rowsM_get (l:=r) (i:=i+1) (k:=k) (by simpa using h),show i+1+k=i+(k+1) by omega]
theorem rowsM_set {B:Nat} {eps:Nat→Nat} {e':Evt}:∀{l:List Evt} {i k:Nat} (h:k<l.length) (hs:e'.stops.length=l[k].stops.length),
  (rowsD memL B eps i l).set k (evX e' (.oslc (.d (B+memL.c * (i+k))) (eps (i+k)) 5 0 l[k].stops.length false))=rowsD memL B eps i (l.set k e')
 |e::r,i,0,_,hs=>by
  simp only [rowsD,List.set_cons_zero,List.getElem_cons_zero] at hs ⊢;rw [←hs];rfl
 |e::r,i,k+1,h,hs=>by
  simp only [rowsD,List.set_cons_succ,List.getElem_cons_succ] at hs ⊢;rw [show i+(k+1)=i+1+k by omega,rowsM_set (l:=r) (i:=i+1) (k:=k) (by simpa using h) hs]
theorem objsM_get {eps:Nat→Nat} {X:List AObj}:∀{l:List Evt} {i k:Nat} (h:k<l.length),(objsD memL eps i l++X)[k]? =some (.vec (eps (i+k)) (l[k].stops.map stR))
 |e::r,i,0,_=>rfl
 |e::r,i,k+1,h=>by
  have:=objsM_get (eps:=eps) (X:=X) (l:=r) (i:=i+1) (k:=k) (by simpa using h);rw [show i+1+k=i+(k+1) by omega] at this;exact this
theorem objsM_set {eps:Nat→Nat} {X:List AObj} {e':Evt}:∀{l:List Evt} {i k:Nat} (h:k<l.length),(objsD memL eps i l++X).set k (.vec (eps (i+k)) (e'.stops.map stR))=objsD memL eps i (l.set k e')++X
 |e::r,i,0,_=>rfl
 |e::r,i,k+1,h=>by
  have:=objsM_set (eps:=eps) (X:=X) (e':=e') (l:=r) (i:=i+1) (k:=k) (by simpa using h);rw [show i+1+k=i+(k+1) by omega] at this;show AObj.vec (eps i) (e.stops.map stR)::(objsD memL eps (i+1) r++X).set k _=_;rw [this];rfl
theorem vp0 {σ:Sg} {a:AV} {v:Value} (h:VRel σ.pure a v):VRel σ a v:=h.mono0 ⟨fun _ _ _ y=>by simp at y,fun _ _ z=>z⟩
theorem stops_frz {σ σ':Sg} {h:Heap} (x:FzS σ σ' h) {id:Id} {ep:Nat} {l:List Stp} (ho:h[id]? =some (.vec ep (l.map stR))) {v:Value} (hv:VRel σ (.oslc id ep 5 0 l.length false) v):VRel σ'.pure (stsA l) v:=by
 refine x.obj id ep _ (l.map stR) ho ⟨Nat.le_refl _,fun i r' hr=>⟨r',hr,rfl,fun j c' hc=>⟨c',hc,fun u hu=>x.pure1 ?_ hu⟩⟩⟩ _ _ _ _ _ hv;obtain ⟨s,_,rfl⟩:=List.mem_map.1 (List.mem_of_getElem? hr);have:=List.mem_of_getElem? hc;simp only [stR,List.mem_cons,List.not_mem_nil,or_false] at this
 rcases this with rfl|rfl|rfl|rfl|rfl<;>rfl
theorem pc_frz {σ σ':Sg} {h:Heap} (x:FzS σ σ' h) {i:Ins} {evs:List Evt} {id:Id} {e5:Nat} {eps:Nat→Nat} {X:List AObj} (ho:h[id]? =some (.vec e5 (rowsD memL 0 eps 0 evs))) (hd:h.dy=objsD memL eps 0 evs++X) {v:Value}
  (hv:VRel σ (.agg [crsA i.cs,intsA i.steps,.oslc id e5 6 0 evs.length false]) v):VRel σ' (pcA ⟨i,evs⟩) v:=by
 have hev:∀u,VRel σ (.oslc id e5 6 0 evs.length false) u→VRel σ'.pure (evsA evs) u:=fun u hu=>by
  refine x.obj id e5 _ (evs.map evR) ho ⟨by rw [rowsD_len,List.length_map];exact Nat.le_refl _,fun k r' hr=>?_⟩ _ _ _ _ _ hu;rw [List.getElem?_map,Option.map_eq_some_iff] at hr;obtain ⟨e,he,rfl⟩:=hr;obtain ⟨hk,rfl⟩:=List.getElem?_eq_some_iff.1 he;have hg:=rowsM_get (B:=0) (eps:=eps) (l:=evs) (i:=0) hk;have e1:0+memL.c * (0+k)=k:=by show 0+1 * (0+k)=k;omega
  rw [e1,Nat.zero_add] at hg;refine ⟨_,hg,rfl,fun j c' hc=>?_⟩;have hod:h[Id.d k]? =some (.vec (eps k) (evs[k].stops.map stR)):=by
   show h.dy[k]? =_;rw [hd];have:=objsM_get (eps:=eps) (X:=X) (l:=evs) (i:=0) hk;rw [Nat.zero_add] at this;exact this
  match j,hc with
  |0,hc=>cases hc;exact ⟨_,rfl,fun u hu=>x.pure1 rfl hu⟩
  |1,hc=>cases hc;exact ⟨_,rfl,fun u hu=>x.pure1 rfl hu⟩
  |2,hc=>cases hc;exact ⟨_,rfl,fun u hu=>x.pure1 rfl hu⟩
  |3,hc=>cases hc;exact ⟨_,rfl,fun u hu=>x.pure1 rfl hu⟩
  |4,hc=>cases hc;exact ⟨_,rfl,fun u hu=>x.pure1 rfl hu⟩
  |5,hc=>cases hc;exact ⟨_,rfl,fun u hu=>stops_frz x hod hu⟩
  |j+6,hc=>simp [evR] at hc
 cases hv with
 |agg l o w=>
  refine .agg l o fun j c u hc hu=>?_
  match j,hc with
  |0,hc=>cases hc;exact vp0 (x.pure rfl (w 0 _ u rfl hu))
  |1,hc=>cases hc;exact vp0 (x.pure rfl (w 1 _ u rfl hu))
  |2,hc=>cases hc;exact vp0 (hev u (w 2 _ u rfl hu))
  |j+3,hc=>simp at hc
theorem longest_mem {i:Ins} {evs:List Evt} {id:Id} {e5:Nat} {eps:Nat→Nat} {X:List AObj} {h:Heap} (ho:h[id]? =some (.vec e5 (rowsD memL 0 eps 0 evs))) (hd:h.dy=objsD memL eps 0 evs++X) (hp:(⟨i,evs⟩:Pc).Ok) (k c:Int) {K:AV→Heap→Prop}
  (hK:K (.int .i64 (longest evs k c)) h):ACalls C.P 29 [.agg [crsA i.cs,intsA i.steps,.oslc id e5 6 0 evs.length false],.int .i64 k,.int .i64 c] h K:=by
 refine ACalls.peek (longest_spec ⟨i,evs⟩ hp k c) rfl (fun σ σ' vs x hv=>?_) hK;refine ⟨hv.1,fun j a u ha hu=>?_⟩
 match j,ha with
 |0,ha=>cases ha;exact pc_frz x ho hd (hv.2 0 _ u rfl hu)
 |1,ha=>cases ha;exact vp0 (x.pure rfl (hv.2 1 _ u rfl hu))
 |2,ha=>cases ha;exact vp0 (x.pure rfl (hv.2 2 _ u rfl hu))
 |j+3,ha=>simp at ha
end Go.Ab.V

namespace Go.Ab.V
open Go.Proofs Go.RowKit
def colG (y:Sy) (p:Pc) (k:Nat) (n:Nat):List (List UInt8)→List (List UInt8)→List Stp→List (List UInt8)×List (List UInt8)
 |O,X,[]=>(O,X)
 |O,X,s::r=>if s.c≤n then colG y p k n (O.set ((linS y s.c n).toNat-1) (cellS y s (longest p.evs k s.c)).1) X r
  else if obS y=true then colG y p k n O (X++[(cellS y s (longest p.evs k s.c)).1]) r else colG y p k n O ((cellS y s (longest p.evs k s.c)).1::X) r
def colN (y:Sy) (p:Pc):Nat:=if y= .ge then 0 else stf p.ins
def colH (y:Sy) (e:Evt):List (List UInt8):=if e.bar=true then [[124],(twS y e.v e.d e.t).1] else [(twS y e.v e.d e.t).1]
def colM (y:Sy) (p:Pc) (k:Nat) (l:List Stp):List (List UInt8):=
 if obS y=true then (colG y p k (colN y p) (List.replicate (colN y p) [45]) [] l).1++(colG y p k (colN y p) (List.replicate (colN y p) [45]) [] l).2
 else (colG y p k (colN y p) (List.replicate (colN y p) [45]) [] l).2++(colG y p k (colN y p) (List.replicate (colN y p) [45]) [] l).1
def colW (y:Sy) (p:Pc) (k:Nat) (e:Evt):List (List UInt8):=
 if e.tie=true then colH y e++[[126]] else if e.stops=[] then colH y e++[[37]] else colH y e++colM y p k e.stops
def colS (y:Sy) (p:Pc) (k:Nat) (e:Evt):List UInt8:=joinS [32] (colW y p k e)
theorem joinS_len (l:List (List UInt8)) (m:Nat) (h:∀x∈l,x.length≤m):(joinS [32] l).length≤l.length * (m+1):=by
 match l,h with
 | [],_=>simp [joinS]
 | [x],h=>have:=h x (by simp);simp [joinS];omega
 |x::y::r,h=>
  have h1:=h x (by simp);have h2:=joinS_len (y::r) m fun z hz=>h z (List.mem_cons_of_mem _ hz);show (x++[32]++joinS [32] (y::r)).length≤_;simp only [List.length_append,List.length_cons,List.length_nil,Nat.succ_mul] at h2 ⊢;omega
theorem twS_len (y:Sy) (v:Int) (d t:Bool):(twS y v d t).1.length≤2:=by
 unfold twS ltr
 split
 ·simp
 ·split
  ·simp;omega
  ·split
   ·simp;omega
   ·simp;omega
def A46:Ann:=fun r=>match r with
 |0=>{ slots:=[(0,0)] }
 |1=>{ slots:=[(5,1)] }
 |3=>{ slots:=[(1,2)] }
 |5=>{ slots:=[(1,2)] }
 |7=>{ slots:=[(1,4),(2,5)] }
 |9=>{ slots:=[(1,6),(2,7)] }
 |13=>{ slots:=[(1,8)] }
 |22=>{ slots:=[(2,9)] }
 |24=>{ slots:=[(1,12),(3,13)] }
 |28=>{ slots:=[(2,10),(3,11)] }
 |31=>{ slots:=[(2,14),(4,15)] }
 |32=>{ slots:=[(2,16),(4,17)] }
 |_=>{}
theorem colT_spec (y:Sy) (p:Pc) (k:Nat) (hc:chk p=0) (hk:k<p.evs.length) (ht:p.evs[k].tie=true∨p.evs[k].stops=[]):PRet C.P 46 [.int .u8 y.n,y.a,pcA p,.int .i64 k] (.str (colS y p k p.evs[k])):=by
 have hm:=mapR (f:=evR) hk;have hsi:=sgn_in hc hk;have v:=vp hc;have hvl:=v.len;generalize p.evs[k]=e at hm ht hsi;obtain ⟨eb,ev,ed,et,ey,l⟩:=e;have h57:=tw_spec y ev ed et hsi.1 hsi.2;have hwl:=twS_len y ev ed et;obtain ⟨W,hW⟩:∃W,W=colW y p k ⟨eb,ev,ed,et,ey,l⟩:=⟨_,rfl⟩;unfold colS;rw [←hW];unfold colW colH at hW;dsimp only at hW;generalize twS y ev ed et=tw at h57 hwl hW;obtain ⟨w,b⟩:=tw;dsimp only at hwl hW;cases ey with
 |true=>
  rw [if_pos rfl] at hW;cases eb
  ·have hWW:W=[w,[126]]:=hW;rw [hWW];have hJ:=join_spec [w,[126]] [32] 0 (by simp) [] rfl (by have:=joinS_len [w,[126]] 2 (by simp;omega);simp only [List.length_cons,List.length_nil] at this;omega);refine pret_of (okx [] [85]) mixed (A:=A46) 18 Tryz.func46 rfl ?_
   (repeat' (first|exact rfl|((conv=>whnf);first|refine optS hm ?_|(refine ⟨_,h57,?_⟩)|(refine ACalls.fz 2 ?_;(conv=>whnf);refine ⟨pure_strR [w,[126]],by (repeat' (first|exact trivial|exact eqsP_rows _ (fun x=>rfl)|((conv=>whnf);first|exact trivial|refine ⟨rfl,?_⟩|refine ⟨?_,?_⟩|fail))),by (repeat' (first|exact trivial|exact eqsP_rows _ (fun x=>rfl)|((conv=>whnf);first|exact trivial|refine ⟨rfl,?_⟩|refine ⟨?_,?_⟩|fail))),by (repeat' (first|exact trivial|exact eqsP_rows _ (fun x=>rfl)|((conv=>whnf);first|exact trivial|refine ⟨rfl,?_⟩|refine ⟨?_,?_⟩|fail))),?_⟩;refine PRet.calls hJ ?_)|exact rfl|exact ⟨rfl,rfl⟩|refine go1 ?_|(intro ep)|(refine ifB ?_ ?_<;>intro hb<;>(try simp only [qs] at hb)<;>(try simp (disch:=omega) only [wrapI] at hb)<;>(try (exfalso;omega)))|fail)))
  ·have hWW:W=[[124],w,[126]]:=hW;rw [hWW];have hJ:=join_spec [[124],w,[126]] [32] 0 (by simp) [] rfl (by have:=joinS_len [[124],w,[126]] 2 (by simp;omega);simp only [List.length_cons,List.length_nil] at this;omega);refine pret_of (okx [] [85]) mixed (A:=A46) 18 Tryz.func46 rfl ?_
   (repeat' (first|exact rfl|((conv=>whnf);first|refine optS hm ?_|(refine ⟨_,h57,?_⟩)|(refine ACalls.fz 2 ?_;(conv=>whnf);refine ⟨pure_strR [[124],w,[126]],by (repeat' (first|exact trivial|exact eqsP_rows _ (fun x=>rfl)|((conv=>whnf);first|exact trivial|refine ⟨rfl,?_⟩|refine ⟨?_,?_⟩|fail))),by (repeat' (first|exact trivial|exact eqsP_rows _ (fun x=>rfl)|((conv=>whnf);first|exact trivial|refine ⟨rfl,?_⟩|refine ⟨?_,?_⟩|fail))),by (repeat' (first|exact trivial|exact eqsP_rows _ (fun x=>rfl)|((conv=>whnf);first|exact trivial|refine ⟨rfl,?_⟩|refine ⟨?_,?_⟩|fail))),?_⟩;refine PRet.calls hJ ?_)|exact rfl|exact ⟨rfl,rfl⟩|refine go1 ?_|(intro ep)|(refine ifB ?_ ?_<;>intro hb<;>(try simp only [qs] at hb)<;>(try simp (disch:=omega) only [wrapI] at hb)<;>(try (exfalso;omega)))|fail)))
 |false=>
  have hl:l=[]:=by rcases ht with h|h;exact absurd h (by simp);exact h
  subst hl;rw [if_neg (by decide),if_pos rfl] at hW;cases eb
  ·have hWW:W=[w,[37]]:=hW;rw [hWW];have hJ:=join_spec [w,[37]] [32] 0 (by simp) [] rfl (by have:=joinS_len [w,[37]] 2 (by simp;omega);simp only [List.length_cons,List.length_nil] at this;omega);refine pret_of (okx [] [85]) mixed (A:=A46) 18 Tryz.func46 rfl ?_
   (repeat' (first|exact rfl|((conv=>whnf);first|refine optS hm ?_|(refine ⟨_,h57,?_⟩)|(refine ACalls.fz 2 ?_;(conv=>whnf);refine ⟨pure_strR [w,[37]],by (repeat' (first|exact trivial|exact eqsP_rows _ (fun x=>rfl)|((conv=>whnf);first|exact trivial|refine ⟨rfl,?_⟩|refine ⟨?_,?_⟩|fail))),by (repeat' (first|exact trivial|exact eqsP_rows _ (fun x=>rfl)|((conv=>whnf);first|exact trivial|refine ⟨rfl,?_⟩|refine ⟨?_,?_⟩|fail))),by (repeat' (first|exact trivial|exact eqsP_rows _ (fun x=>rfl)|((conv=>whnf);first|exact trivial|refine ⟨rfl,?_⟩|refine ⟨?_,?_⟩|fail))),?_⟩;refine PRet.calls hJ ?_)|exact rfl|exact ⟨rfl,rfl⟩|refine go1 ?_|(intro ep)|(refine ifB ?_ ?_<;>intro hb<;>(try simp only [qs] at hb)<;>(try simp (disch:=omega) only [wrapI] at hb)<;>(try (exfalso;omega)))|fail)))
  ·have hWW:W=[[124],w,[37]]:=hW;rw [hWW];have hJ:=join_spec [[124],w,[37]] [32] 0 (by simp) [] rfl (by have:=joinS_len [[124],w,[37]] 2 (by simp;omega);simp only [List.length_cons,List.length_nil] at this;omega);refine pret_of (okx [] [85]) mixed (A:=A46) 18 Tryz.func46 rfl ?_
   (repeat' (first|exact rfl|((conv=>whnf);first|refine optS hm ?_|(refine ⟨_,h57,?_⟩)|(refine ACalls.fz 2 ?_;(conv=>whnf);refine ⟨pure_strR [[124],w,[37]],by (repeat' (first|exact trivial|exact eqsP_rows _ (fun x=>rfl)|((conv=>whnf);first|exact trivial|refine ⟨rfl,?_⟩|refine ⟨?_,?_⟩|fail))),by (repeat' (first|exact trivial|exact eqsP_rows _ (fun x=>rfl)|((conv=>whnf);first|exact trivial|refine ⟨rfl,?_⟩|refine ⟨?_,?_⟩|fail))),by (repeat' (first|exact trivial|exact eqsP_rows _ (fun x=>rfl)|((conv=>whnf);first|exact trivial|refine ⟨rfl,?_⟩|refine ⟨?_,?_⟩|fail))),?_⟩;refine PRet.calls hJ ?_)|exact rfl|exact ⟨rfl,rfl⟩|refine go1 ?_|(intro ep)|(refine ifB ?_ ?_<;>intro hb<;>(try simp only [qs] at hb)<;>(try simp (disch:=omega) only [wrapI] at hb)<;>(try (exfalso;omega)))|fail)))
end Go.Ab.V

namespace Go.Ab.V
open Go.Proofs
def Flt (t:Nat) (v:Value):Prop:=∃l e:Int,e≠0∧t=50∧v= .agg #[.int .i64 l,.int .i64 e]
structure PanOk (q0 q1 q2 q3:AObj) (t:Nat) (v:Value) (h:Heap):Prop where
 flt:Flt t v
 keep:h.st.take 4=[q0,q1,q2,q3]
theorem PanOk.trunc {q0 q1 q2 q3:AObj} {t:Nat} {v:Value} {h:Heap} (x:PanOk q0 q1 q2 q3 t v h) {m:Nat} (hm:4≤m):PanOk q0 q1 q2 q3 t v (h.trunc m):=
 ⟨x.flt,by show (h.st.take m).take 4=_;rw [List.take_take,Nat.min_eq_left hm];exact x.keep⟩
theorem PanOk.part {q0 q1 q2 q3:AObj} {t:Nat} {v:Value} {h:Heap} (x:PanOk q0 q1 q2 q3 t v h) {m:Nat} (hm:4≤m) {r d:List AObj}:PanOk q0 q1 q2 q3 t v ⟨padTo m h.st++r,d⟩:=by
 refine ⟨x.flt,?_⟩;have hl:4≤h.st.length:=by
  have:=congrArg List.length x.keep;rw [List.length_take] at this;simp only [List.length_cons,List.length_nil] at this;omega
 show (padTo m h.st++r).take 4=_;rw [List.take_append_of_le_length (by rw [padTo_len];exact hm)];unfold padTo;rw [List.take_take,Nat.min_eq_left hm,List.take_append_of_le_length hl];exact x.keep
def A12:Ann:=fun r=>match r with
 |0=>{ pan:=[7] }
 |_=>{}
theorem fail12b {a b c d f g:AV} {q0 q1 q2 q3:AObj} {e:Nat} {ln:Int} {L:List (List UInt8)} {n:Nat} {cl:Bool} {dy:List AObj} (er:Int) (her:er≠0) {K:AV→Heap→Prop} {KP:Nat→Value→Heap→Prop}
  (hP:∀t v h',PanOk q0 q1 q2 q3 t v h'→KP t v h'):
  ACallsP C.P 12 [.optr (.s 4) e 9 0 0,.int .i64 er] ⟨[q0,q1,q2,q3,.vec e [[a,b,c,d,f,g,.int .i64 ln,.lslc 1 (strR L) 0 n false,.bool cl]]],dy⟩ K KP:=by
 refine ACallsP.mono (K:=fun _ _=>False) (KP:=PanOk q0 q1 q2 q3) ?_ (fun _ _ h=>h.elim) hP;refine fnP_of ok mixed (A:=A12) 0 Tryz.func12 rfl ?_
 (repeat' (first|exact rfl|((conv=>whnf);first|exact rfl|exact ⟨rfl,rfl⟩|refine go1 ?_|(intro ep)|(refine ifB ?_ ?_<;>intro hb<;>(try simp only [qs] at hb)<;>(try simp (disch:=omega) only [wrapI] at hb)<;>(try (exfalso;omega)))|fail)))
 exact ⟨⟨ln,er,her,rfl,rfl⟩,rfl⟩
theorem fail12 {a b c d f g:AV} {q0 q1 q2 q3:AObj} {e:Nat} {ln:Int} {L:List (List UInt8)} {n:Nat} {cl:Bool} {tl dy:List AObj} (er:Int) (her:er≠0) {K:AV→Heap→Prop} {KP:Nat→Value→Heap→Prop}
  (hP:∀t v h',PanOk q0 q1 q2 q3 t v h'→KP t v h'):
  ACallsP C.P 12 [.optr (.s 4) e 9 0 0,.int .i64 er] ⟨q0::q1::q2::q3:: .vec e [[a,b,c,d,f,g,.int .i64 ln,.lslc 1 (strR L) 0 n false,.bool cl]]::tl,dy⟩ K KP:=
 ACallsP.tail (tl:=tl) (fail12b (K:=fun _ _=>False) (KP:=PanOk q0 q1 q2 q3) er her fun _ _ _ h=>h) (fun _ _ h=>h.elim) fun t v h1 h=>hP t v _ (h.part (Nat.le_of_ble_eq_true rfl))
def nxO (ln n:Nat) (cl:Bool):Bool:=decide (ln<n)&&(cl|| !decide (ln+1=n))
def A14:Ann:=fun r=>match r with
 |3=>{ pan:=[1] }
 |_=>{}
theorem next14b {a b c d f g:AV} {q0 q1 q2 q3:AObj} {e:Nat} {ln:Nat} {L:List (List UInt8)} {n:Nat} {cl:Bool} {dy:List AObj} (hn:n≤L.length) (hL:L.length≤1000000) (hln:ln≤n) {K:AV→Heap→Prop} {KP:Nat→Value→Heap→Prop}
  (hK:nxO ln n cl=true→K (.str (L.getD ln [])) ⟨[q0,q1,q2,q3,.vec e [[a,b,c,d,f,g,.int .i64 (ln+1:Nat),.lslc 1 (strR L) 0 n false,.bool cl]]],dy⟩)
  (hP:nxO ln n cl=false→∀t v h',PanOk q0 q1 q2 q3 t v h'→KP t v h'):
  ACallsP C.P 14 [.optr (.s 4) e 9 0 0] ⟨[q0,q1,q2,q3,.vec e [[a,b,c,d,f,g,.int .i64 ln,.lslc 1 (strR L) 0 n false,.bool cl]]],dy⟩ K KP:=by
 refine fnP_of ok mixed (A:=A14) 0 Tryz.func14 rfl ?_;have hw:IntKind.i64.wrap ((ln:Int)+1)=((ln+1:Nat):Int):=by simp (disch:=omega) only [wrapI];omega
 have hw2:IntKind.i64.wrap (((ln+1:Nat):Int)-1)=((ln:Nat):Int):=by simp (disch:=omega) only [wrapI];omega
 by_cases h0:nxO ln n cl=true
 ·have hk:=hK h0;unfold nxO at h0;simp only [Bool.and_eq_true,decide_eq_true_eq,Bool.or_eq_true,Bool.not_eq_true',decide_eq_false_iff_not] at h0;have hg:=strR_get (l:=L) (n:=ln) (by omega);cases cl with
  |true=>(repeat' (first|exact hk|((conv=>whnf);first|(refine optS hg ?_)|(rw [hw])|(rw [hw2])|exact rfl|exact ⟨rfl,rfl⟩|refine go1 ?_|(intro ep)|(refine ifB ?_ ?_<;>intro hb<;>(try simp only [qs] at hb)<;>(try simp (disch:=omega) only [wrapI] at hb)<;>(try (exfalso;omega)))|fail)))
  |false=>
   simp only [Bool.false_eq_true,false_or] at h0
   (repeat' (first|exact hk|((conv=>whnf);first|(refine optS hg ?_)|(rw [hw])|(rw [hw2])|exact rfl|exact ⟨rfl,rfl⟩|refine go1 ?_|(intro ep)|(refine ifB ?_ ?_<;>intro hb<;>(try simp only [qs] at hb)<;>(try simp (disch:=omega) only [wrapI] at hb)<;>(try (exfalso;omega)))|fail)))
 ·have h0:nxO ln n cl=false:=by simpa using h0
  have hp:=hP h0;unfold nxO at h0;have h1:¬ln<n∨(cl=false∧ln+1=n):=by
   cases cl<;>simp at h0 ⊢ <;>omega
  cases cl with
  |true=>
   simp only [Bool.true_eq_false,false_and,or_false] at h1
   (repeat' (first|exact rfl|((conv=>whnf);first|(exact fail12 4 (by decide) fun t v h' hx=>hp t v _ (hx.trunc (Nat.le_of_ble_eq_true rfl)))|(rw [hw])|(rw [hw2])|exact rfl|exact ⟨rfl,rfl⟩|refine go1 ?_|(intro ep)|(refine ifB ?_ ?_<;>intro hb<;>(try simp only [qs] at hb)<;>(try simp (disch:=omega) only [wrapI] at hb)<;>(try (exfalso;omega)))|fail)))
  |false=>
   simp only [true_and] at h1
   (repeat' (first|exact rfl|((conv=>whnf);first|(exact fail12 4 (by decide) fun t v h' hx=>hp t v _ (hx.trunc (Nat.le_of_ble_eq_true rfl)))|(rw [hw])|(rw [hw2])|exact rfl|exact ⟨rfl,rfl⟩|refine go1 ?_|(intro ep)|(refine ifB ?_ ?_<;>intro hb<;>(try simp only [qs] at hb)<;>(try simp (disch:=omega) only [wrapI] at hb)<;>(try (exfalso;omega)))|fail)))
theorem next14 {a b c d f g:AV} {q0 q1 q2 q3:AObj} {e:Nat} {ln:Nat} {L:List (List UInt8)} {n:Nat} {cl:Bool} {tl dy:List AObj} (hn:n≤L.length) (hL:L.length≤1000000) (hln:ln≤n) {K:AV→Heap→Prop} {KP:Nat→Value→Heap→Prop}
  (hK:nxO ln n cl=true→K (.str (L.getD ln [])) ⟨q0::q1::q2::q3:: .vec e [[a,b,c,d,f,g,.int .i64 (ln+1:Nat),.lslc 1 (strR L) 0 n false,.bool cl]]::tl,dy⟩)
  (hP:nxO ln n cl=false→∀t v h',PanOk q0 q1 q2 q3 t v h'→KP t v h'):
  ACallsP C.P 14 [.optr (.s 4) e 9 0 0] ⟨q0::q1::q2::q3:: .vec e [[a,b,c,d,f,g,.int .i64 ln,.lslc 1 (strR L) 0 n false,.bool cl]]::tl,dy⟩ K KP:=
 ACallsP.tail (tl:=tl) (next14b (K:=fun r h'=>nxO ln n cl=true∧r= .str (L.getD ln [])∧h'=⟨[q0,q1,q2,q3,.vec e [[a,b,c,d,f,g,.int .i64 (ln+1:Nat),.lslc 1 (strR L) 0 n false,.bool cl]]],dy⟩) (KP:=fun t v h'=>nxO ln n cl=false∧PanOk q0 q1 q2 q3 t v h') hn hL hln (fun h=>⟨h,rfl,rfl⟩) fun h _ _ _ x=>⟨h,x⟩)
  (fun r h1 ⟨h,e1,e2⟩=>by subst e1 e2;exact hK h) fun t v h1 ⟨h,x⟩=>hP h t v _ (x.part (Nat.le_of_ble_eq_true rfl))
end Go.Ab.V
