/-
  What is proved here serves the law's text: each part says its own claim and its conditions. No condition is left open.
-/
import Derived.Test.YtohegnfjdfcebaaGreatDoorJE
import Derived.Test.YtohegnfjdfcebaaGreatDoorKU
import Derived.Test.YtohegnfjdfcebaaGreatDoorJC
set_option maxHeartbeats 32000000
set_option maxRecDepth 100000
set_option linter.unusedSimpArgs false
set_option linter.unusedVariables false

namespace Go.Ab.V
open Go.Proofs
def mkGo (f:Int→List UInt8×Bool):Nat→List UInt8→Int×List UInt8
 |0,t=>(0,t)
 |n+1,t=>if (f n).2=true∧(f n).1.isPrefixOf t=true then ((n:Int),t.drop (f n).1.length) else mkGo f n t
def mkN (t:List UInt8):Nat→Nat→Option Nat
 |0,_=>none
 |m+1,n=>if t=95::itoa3 n then some n else mkN t m (n+1)
def mkN0 (y:Sy) (f:Int) (t:List UInt8):Option Nat:=if y= .fr∧0<f then mkN t 15 1 else none
def mkS (y:Sy) (f:Int) (t:List UInt8):Bool:=(hldS y 1 1).2&&((hldS y 1 1).1==[42])&&(t==(hldS y 1 1).1)&&decide (0<f)
def mkH (y:Sy) (f:Int) (t:List UInt8):Option Int:=
 if t=[] then some 0 else match mkN0 y f t with
  |some n=>some n
  |none=>if mkS y f t=true then some (-1) else none
def mkR (y:Sy) (t:List UInt8):Int×List UInt8:=mkGo (rgtS y) 4 t
def mkG (y:Sy) (t:List UInt8):Int×List UInt8:=mkGo (grcS y) 5 (mkR y t).2
def mkO (y:Sy) (f:Int) (t:List UInt8):Option Int:=mkH y f (mkG y t).2
def wrR (c f r g h:Int):List AV:=[.int .i64 c,.int .i64 f,.int .i64 r,.int .i64 g,.int .i64 0,.int .i64 h]
def mkA (y:Sy) (c f:Int) (t:List UInt8):AV:=match mkO y f t with
 |some h=>.tup [.agg (wrR c f (mkR y t).1 (mkG y t).1 h),.bool true]
 |none=>.tup [.agg (wrR c f (mkR y t).1 (mkG y t).1 0),.bool false]
theorem mkGo_len (f:Int→List UInt8×Bool):∀(n:Nat) (t:List UInt8),(mkGo f n t).2.length≤t.length
 |0,t=>Nat.le_refl _
 |n+1,t=>by
  unfold mkGo
  split
  ·simp
  ·exact mkGo_len f n t
theorem syn1 (y:Sy):y.n=1↔y= .fr:=by cases y<;>simp [Sy.n]
def A97:Ann:=fun r=>match r with
 |0=>{ slots:=[(0,5),(1,6)] }
 |1=>{ slots:=[(6,7)] }
 |_=>{}
theorem marks97 {c d f g ln L cl:AV} {q0 q1 q2 q3:AObj} {e:Nat} {dy:List AObj} (y:Sy) (co fr:Int) (t:List UInt8) (ht:t.length≤1000000) {K:AV→Heap→Prop}
  (hK:∀rest,K (mkA y co fr t) ⟨[q0,q1,q2,q3,.vec e [[.int .u8 y.n,y.a,c,d,f,g,ln,L,cl]]]++rest,dy⟩):
  ACalls C.P 97 [.optr (.s 4) e 9 0 0,.agg [.int .i64 co,.int .i64 fr],.str t] ⟨[q0,q1,q2,q3,.vec e [[.int .u8 y.n,y.a,c,d,f,g,ln,L,cl]]],dy⟩ K:=by
 refine callT (n:=5) (l:=[q0,q1,q2,q3,.vec e [[.int .u8 y.n,y.a,c,d,f,g,ln,L,cl]]]) (dy:=dy) (v:=mkA y co fr t) ?_ hK;refine fn_of ok mixed (A:=A97) 3 Tryz.func97 rfl ?_;obtain ⟨RR,hRR⟩:∃R,R=mkA y co fr t:=⟨_,rfl⟩;rw [←hRR]
 (repeat' (first|exact rfl|((conv=>whnf);first|exact rfl|exact ⟨rfl,rfl⟩|refine go1 ?_|(intro ep)|(refine ifB ?_ ?_<;>intro hb<;>(try simp only [qs] at hb)<;>(try simp (disch:=omega) only [wrapI] at hb)<;>(try (exfalso;omega)))|fail)))
 rename_i e5 e6;obtain ⟨e7,he⟩:∃e7,e7=ep:=⟨_,rfl⟩;subst he;(conv=>whnf);refine loopY ok mixed (A:=A97) [0,2,4,6,8,9] [0,1,2,3,4,5,6,7] (S:={ k:Nat // k≤4∧mkR y t=mkGo (rgtS y) k t })
  (fr:=fun s=>frOf 0 129 [(0,.optr (.s 4) e 9 0 0),(2,.str t),(4,.optr (.s 5) e5 2 0 0),(6,.optr (.s 6) e6 6 0 0),(8,.optr (.s 7) e7 6 0 0),(9,.int .i64 ((s.1:Int)-1))])
  (h:=fun s=>⟨[q0,q1,q2,q3,.vec e [[.int .u8 y.n,y.a,c,d,f,g,ln,L,cl]],.vec e5 [[.int .i64 co,.int .i64 fr]],.vec e6 [[.int .i64 0,.int .i64 0,.int .i64 0,.int .i64 0,.int .i64 0,.int .i64 0]],.vec e7 [[.int .i64 co,.int .i64 fr,.int .i64 0,.int .i64 0,.int .i64 0,.int .i64 0]]],dy⟩) (μ:=fun s=>s.1) ⟨4,by omega,rfl⟩ ?_ ?_
  [0,2,4,6,8] [0,1,2,3,4,5,6,7] (S':={ z:Int×List UInt8 // z=mkR y t }) (X:=fun _=>0)
  (frX:=fun s=>frOf 0 129 [(0,.optr (.s 4) e 9 0 0),(2,.str s.1.2),(4,.optr (.s 5) e5 2 0 0),(6,.optr (.s 6) e6 6 0 0),(8,.optr (.s 7) e7 6 0 0)])
  (hX:=fun s=>⟨[q0,q1,q2,q3,.vec e [[.int .u8 y.n,y.a,c,d,f,g,ln,L,cl]],.vec e5 [[.int .i64 co,.int .i64 fr]],.vec e6 [[.int .i64 0,.int .i64 0,.int .i64 0,.int .i64 0,.int .i64 0,.int .i64 0]],.vec e7 [[.int .i64 co,.int .i64 fr,.int .i64 s.1.1,.int .i64 0,.int .i64 0,.int .i64 0]]],dy⟩)
  [] [] (S2:={ x:Nat // False }) (frR:=fun s=>frOf 0 129 []) (hR:=fun s=>⟨[],[]⟩) ?_ ?_ ?_
 ·exact rfl
 ·exact rfl
 ·rintro ⟨k,hk,hu⟩
  try dsimp only at hk hu
  show aexR _ _ _ (frOf 0 129 [(0,.optr (.s 4) e 9 0 0),(2,.str t),(4,.optr (.s 5) e5 2 0 0),(6,.optr (.s 6) e6 6 0 0),(8,.optr (.s 7) e7 6 0 0),(9,.int .i64 ((k:Int)-1))]) ⟨[q0,q1,q2,q3,.vec e [[.int .u8 y.n,y.a,c,d,f,g,ln,L,cl]],.vec e5 [[.int .i64 co,.int .i64 fr]],.vec e6 [[.int .i64 0,.int .i64 0,.int .i64 0,.int .i64 0,.int .i64 0,.int .i64 0]],.vec e7 [[.int .i64 co,.int .i64 fr,.int .i64 0,.int .i64 0,.int .i64 0,.int .i64 0]]],dy⟩ _;(conv=>whnf);refine ifB (fun g1=>?_) (fun g1=>?_)
  ·simp only [decide_eq_true_eq] at g1;obtain ⟨j,rfl⟩:∃j,k=j+1:=⟨k-1,by omega⟩;have hj:((j+1:Nat):Int)-1=(j:Int):=by omega
   rw [hj];have hrs:=rgt_spec y (j:Int);rw [mkGo] at hu;have hl:=rgtS_len y (j:Int);generalize rgtS y (j:Int)=p at hrs hu hl;obtain ⟨s,b⟩:=p;have hps:=prefix_spec t s;generalize hpo:s.isPrefixOf t=o at hps hu;cases b with
   |false=>
    (repeat' (first|exact rfl|((conv=>whnf);first|(refine ⟨_,_,rgt_mo y,hrs,?_⟩)|(refine ⟨_,hps,?_⟩)|exact rfl|exact ⟨rfl,rfl⟩|refine go1 ?_|(intro ep)|(refine ifB ?_ ?_<;>intro hb<;>(try simp only [qs] at hb)<;>(try simp (disch:=omega) only [wrapI] at hb)<;>(try (exfalso;omega)))|fail)))
    all_goals (conv=>whnf)
    all_goals exact back_of ⟨j,by omega,by rw [hu,if_neg (by simp)]⟩ ⟨by (first|exact rfl|(simp (disch:=omega) only [wrapI];exact rfl)),rfl,by dsimp only;omega⟩
   |true=>
    cases o with
    |false=>
     (repeat' (first|exact rfl|((conv=>whnf);first|(refine ⟨_,_,rgt_mo y,hrs,?_⟩)|(refine ⟨_,hps,?_⟩)|exact rfl|exact ⟨rfl,rfl⟩|refine go1 ?_|(intro ep)|(refine ifB ?_ ?_<;>intro hb<;>(try simp only [qs] at hb)<;>(try simp (disch:=omega) only [wrapI] at hb)<;>(try (exfalso;omega)))|fail)))
     all_goals (conv=>whnf)
     all_goals exact back_of ⟨j,by omega,by rw [hu,if_neg (by simp)]⟩ ⟨by (first|exact rfl|(simp (disch:=omega) only [wrapI];exact rfl)),rfl,by dsimp only;omega⟩
    |true=>
     have hle:s.length≤t.length:=by
      have:=List.isPrefixOf_iff_prefix.1 hpo;exact this.length_le
     (repeat' (first|exact rfl|((conv=>whnf);first|(refine ⟨_,_,rgt_mo y,hrs,?_⟩)|(refine ⟨_,hps,?_⟩)|exact rfl|exact ⟨rfl,rfl⟩|refine go1 ?_|(intro ep)|(refine ifB ?_ ?_<;>intro hb<;>(try simp only [qs] at hb)<;>(try simp (disch:=omega) only [wrapI] at hb)<;>(try (exfalso;omega)))|fail)))
     all_goals (conv=>whnf)
     all_goals (have hdr:List.take (t.length-((((s,true).fst.length:Nat):Int)).toNat) (List.drop ((((s,true).fst.length:Nat):Int)).toNat t)=t.drop s.length:=by rw [Int.toNat_natCast];exact List.take_of_length_le (by rw [List.length_drop];exact Nat.le_refl _))
     all_goals exact back_of ⟨((j:Int),t.drop s.length),by rw [hu,if_pos ⟨rfl,rfl⟩]⟩ ⟨rfl,by rw [hdr];rfl,rfl⟩
  ·simp only [decide_eq_false_iff_not] at g1;obtain rfl:k=0:=by omega
   (repeat' (first|exact rfl|((conv=>whnf);first|exact rfl|exact ⟨rfl,rfl⟩|refine go1 ?_|(intro ep)|(refine ifB ?_ ?_<;>intro hb<;>(try simp only [qs] at hb)<;>(try simp (disch:=omega) only [wrapI] at hb)<;>(try (exfalso;omega)))|fail)))
   all_goals (conv=>whnf)
   all_goals exact back_of ⟨(0,t),by rw [hu];rfl⟩ ⟨rfl,rfl,rfl⟩
 ·rintro ⟨_,h⟩;exact h.elim
 ·rintro ⟨z,hz⟩;have hz1:=mkGo_len (rgtS y) 4 t;rw [show mkGo (rgtS y) 4 t=mkR y t from rfl,←hz] at hz1;obtain ⟨r,t1⟩:=z;dsimp only at hz1
  (repeat' (first|exact rfl|((conv=>whnf);first|exact rfl|exact ⟨rfl,rfl⟩|refine go1 ?_|(intro ep)|(refine ifB ?_ ?_<;>intro hb<;>(try simp only [qs] at hb)<;>(try simp (disch:=omega) only [wrapI] at hb)<;>(try (exfalso;omega)))|fail)))
  (conv=>whnf);have hGu:mkG y t=mkGo (grcS y) 5 t1:=by unfold mkG;rw [←hz]
  refine loopY ok mixed (A:=A97) [0,2,4,6,8,12] [0,1,2,3,4,5,6,7] (S:={ k:Nat // k≤5∧mkG y t=mkGo (grcS y) k t1 })
   (fr:=fun s=>frOf 0 129 [(0,.optr (.s 4) e 9 0 0),(2,.str t1),(4,.optr (.s 5) e5 2 0 0),(6,.optr (.s 6) e6 6 0 0),(8,.optr (.s 7) e7 6 0 0),(12,.int .i64 ((s.1:Int)-1))])
   (h:=fun s=>⟨[q0,q1,q2,q3,.vec e [[.int .u8 y.n,y.a,c,d,f,g,ln,L,cl]],.vec e5 [[.int .i64 co,.int .i64 fr]],.vec e6 [[.int .i64 0,.int .i64 0,.int .i64 0,.int .i64 0,.int .i64 0,.int .i64 0]],.vec e7 [[.int .i64 co,.int .i64 fr,.int .i64 r,.int .i64 0,.int .i64 0,.int .i64 0]]],dy⟩) (μ:=fun s=>s.1) ⟨5,by omega,hGu⟩ ?_ ?_
   [0,2,4,6,8] [0,1,2,3,4,5,6,7] (S':={ z:Int×List UInt8 // z=mkG y t }) (X:=fun _=>2)
   (frX:=fun s=>frOf 0 129 [(0,.optr (.s 4) e 9 0 0),(2,.str s.1.2),(4,.optr (.s 5) e5 2 0 0),(6,.optr (.s 6) e6 6 0 0),(8,.optr (.s 7) e7 6 0 0)])
   (hX:=fun s=>⟨[q0,q1,q2,q3,.vec e [[.int .u8 y.n,y.a,c,d,f,g,ln,L,cl]],.vec e5 [[.int .i64 co,.int .i64 fr]],.vec e6 [[.int .i64 0,.int .i64 0,.int .i64 0,.int .i64 0,.int .i64 0,.int .i64 0]],.vec e7 [[.int .i64 co,.int .i64 fr,.int .i64 r,.int .i64 s.1.1,.int .i64 0,.int .i64 0]]],dy⟩)
   [] [] (S2:={ x:Nat // False }) (frR:=fun s=>frOf 0 129 []) (hR:=fun s=>⟨[],[]⟩) ?_ ?_ ?_
  ·exact rfl
  ·exact rfl
  ·rintro ⟨k,hk,hu⟩
   try dsimp only at hk hu
   show aexR _ _ _ (frOf 0 129 [(0,.optr (.s 4) e 9 0 0),(2,.str t1),(4,.optr (.s 5) e5 2 0 0),(6,.optr (.s 6) e6 6 0 0),(8,.optr (.s 7) e7 6 0 0),(12,.int .i64 ((k:Int)-1))]) ⟨[q0,q1,q2,q3,.vec e [[.int .u8 y.n,y.a,c,d,f,g,ln,L,cl]],.vec e5 [[.int .i64 co,.int .i64 fr]],.vec e6 [[.int .i64 0,.int .i64 0,.int .i64 0,.int .i64 0,.int .i64 0,.int .i64 0]],.vec e7 [[.int .i64 co,.int .i64 fr,.int .i64 r,.int .i64 0,.int .i64 0,.int .i64 0]]],dy⟩ _;(conv=>whnf);refine ifB (fun g1=>?_) (fun g1=>?_)
   ·simp only [decide_eq_true_eq] at g1;obtain ⟨j,rfl⟩:∃j,k=j+1:=⟨k-1,by omega⟩;have hj:((j+1:Nat):Int)-1=(j:Int):=by omega
    rw [hj];have hrs:=grc_spec y (j:Int);rw [mkGo] at hu;have hl:=grcS_len y (j:Int);generalize grcS y (j:Int)=p at hrs hu hl;obtain ⟨s,b⟩:=p;have hps:=prefix_spec t1 s;generalize hpo:s.isPrefixOf t1=o at hps hu;cases b with
    |false=>
     (repeat' (first|exact rfl|((conv=>whnf);first|(refine ⟨_,_,grc_mo y,hrs,?_⟩)|(refine ⟨_,hps,?_⟩)|exact rfl|exact ⟨rfl,rfl⟩|refine go1 ?_|(intro ep)|(refine ifB ?_ ?_<;>intro hb<;>(try simp only [qs] at hb)<;>(try simp (disch:=omega) only [wrapI] at hb)<;>(try (exfalso;omega)))|fail)))
     all_goals (conv=>whnf)
     all_goals exact back_of ⟨j,by omega,by rw [hu,if_neg (by simp)]⟩ ⟨by (first|exact rfl|(simp (disch:=omega) only [wrapI];exact rfl)),rfl,by dsimp only;omega⟩
    |true=>
     cases o with
     |false=>
      (repeat' (first|exact rfl|((conv=>whnf);first|(refine ⟨_,_,grc_mo y,hrs,?_⟩)|(refine ⟨_,hps,?_⟩)|exact rfl|exact ⟨rfl,rfl⟩|refine go1 ?_|(intro ep)|(refine ifB ?_ ?_<;>intro hb<;>(try simp only [qs] at hb)<;>(try simp (disch:=omega) only [wrapI] at hb)<;>(try (exfalso;omega)))|fail)))
      all_goals (conv=>whnf)
      all_goals exact back_of ⟨j,by omega,by rw [hu,if_neg (by simp)]⟩ ⟨by (first|exact rfl|(simp (disch:=omega) only [wrapI];exact rfl)),rfl,by dsimp only;omega⟩
     |true=>
      have hle:s.length≤t1.length:=by
       have:=List.isPrefixOf_iff_prefix.1 hpo;exact this.length_le
      (repeat' (first|exact rfl|((conv=>whnf);first|(refine ⟨_,_,grc_mo y,hrs,?_⟩)|(refine ⟨_,hps,?_⟩)|exact rfl|exact ⟨rfl,rfl⟩|refine go1 ?_|(intro ep)|(refine ifB ?_ ?_<;>intro hb<;>(try simp only [qs] at hb)<;>(try simp (disch:=omega) only [wrapI] at hb)<;>(try (exfalso;omega)))|fail)))
      all_goals (conv=>whnf)
      all_goals (have hdr:List.take (t1.length-((((s,true).fst.length:Nat):Int)).toNat) (List.drop ((((s,true).fst.length:Nat):Int)).toNat t1)=t1.drop s.length:=by rw [Int.toNat_natCast];exact List.take_of_length_le (by rw [List.length_drop];exact Nat.le_refl _))
      all_goals exact back_of ⟨((j:Int),t1.drop s.length),by rw [hu,if_pos ⟨rfl,rfl⟩]⟩ ⟨rfl,by rw [hdr];rfl,rfl⟩
   ·simp only [decide_eq_false_iff_not] at g1;obtain rfl:k=0:=by omega
    (repeat' (first|exact rfl|((conv=>whnf);first|exact rfl|exact ⟨rfl,rfl⟩|refine go1 ?_|(intro ep)|(refine ifB ?_ ?_<;>intro hb<;>(try simp only [qs] at hb)<;>(try simp (disch:=omega) only [wrapI] at hb)<;>(try (exfalso;omega)))|fail)))
    all_goals (conv=>whnf)
    all_goals exact back_of ⟨(0,t1),by rw [hu];rfl⟩ ⟨rfl,rfl,rfl⟩
  ·rintro ⟨_,h⟩;exact h.elim
  ·rintro ⟨z,hzg⟩;have hz2:=mkGo_len (grcS y) 5 t1;rw [←hGu,←hzg] at hz2;unfold mkA mkO at hRR;rw [←hz,←hzg] at hRR;obtain ⟨g',t2⟩:=z;dsimp only at hz2 hRR;unfold mkH at hRR;by_cases h0:t2=[]
   ·subst h0;rw [if_pos rfl] at hRR;subst hRR
    (repeat' (first|exact rfl|((conv=>whnf);first|exact rfl|exact ⟨rfl,rfl⟩|refine go1 ?_|(intro ep)|(refine ifB ?_ ?_<;>intro hb<;>(try simp only [qs] at hb)<;>(try simp (disch:=omega) only [wrapI] at hb)<;>(try (exfalso;omega)))|fail)))
    all_goals (conv=>whnf)
    all_goals exact ⟨rfl,rfl⟩
   rw [if_neg h0] at hRR
   (repeat' (first|exact rfl|((conv=>whnf);first|(exact absurd hb h0)|exact rfl|exact ⟨rfl,rfl⟩|refine go1 ?_|(intro ep)|(refine ifB ?_ ?_<;>intro hb<;>(try simp only [qs] at hb)<;>(try simp (disch:=omega) only [wrapI] at hb)<;>(try (exfalso;omega)))|fail)))
   (conv=>whnf);obtain ⟨N0,hN0⟩:∃N,N=mkN0 y fr t2:=⟨_,rfl⟩;rw [←hN0] at hRR;refine loopY ok mixed (A:=A97) [0,2,4,6,8,15] [0,1,2,3,4,5,6,7] (S:={ k:Nat // 1≤k∧k≤16∧N0=if y= .fr∧0<fr then mkN t2 (16-k) k else none })
    (fr:=fun s=>frOf 0 129 [(0,.optr (.s 4) e 9 0 0),(2,.str t2),(4,.optr (.s 5) e5 2 0 0),(6,.optr (.s 6) e6 6 0 0),(8,.optr (.s 7) e7 6 0 0),(15,.int .i64 (s.1:Int))])
    (h:=fun s=>⟨[q0,q1,q2,q3,.vec e [[.int .u8 y.n,y.a,c,d,f,g,ln,L,cl]],.vec e5 [[.int .i64 co,.int .i64 fr]],.vec e6 [[.int .i64 0,.int .i64 0,.int .i64 0,.int .i64 0,.int .i64 0,.int .i64 0]],.vec e7 [[.int .i64 co,.int .i64 fr,.int .i64 r,.int .i64 g',.int .i64 0,.int .i64 0]]],dy⟩) (μ:=fun s=>16-s.1) ⟨1,by omega,by omega,hN0⟩ ?_ ?_
    [0,2,4,6,8] [0,1,2,3,4,5,6,7] (S':={ z:Unit // N0=none }) (X:=fun _=>4)
    (frX:=fun s=>frOf 0 129 [(0,.optr (.s 4) e 9 0 0),(2,.str t2),(4,.optr (.s 5) e5 2 0 0),(6,.optr (.s 6) e6 6 0 0),(8,.optr (.s 7) e7 6 0 0)])
    (hX:=fun s=>⟨[q0,q1,q2,q3,.vec e [[.int .u8 y.n,y.a,c,d,f,g,ln,L,cl]],.vec e5 [[.int .i64 co,.int .i64 fr]],.vec e6 [[.int .i64 0,.int .i64 0,.int .i64 0,.int .i64 0,.int .i64 0,.int .i64 0]],.vec e7 [[.int .i64 co,.int .i64 fr,.int .i64 r,.int .i64 g',.int .i64 0,.int .i64 0]]],dy⟩)
    [6,7] [0,1,2,3,4,6] (S2:={ x:Nat // N0=some x }) (frR:=fun s=>frOf 0 129 [(6,.optr (.s 6) e6 6 0 0),(7,.bool true)]) (hR:=fun s=>⟨[q0,q1,q2,q3,.vec e [[.int .u8 y.n,y.a,c,d,f,g,ln,L,cl]],.hole,.vec e6 [wrR co fr r g' (s.1:Int)],.hole],dy⟩) ?_ ?_ ?_
   ·exact rfl
   ·exact rfl
   ·rintro ⟨k,hk1,hk,hu⟩
    try dsimp only at hk1 hk hu
    show aexR _ _ _ (frOf 0 129 [(0,.optr (.s 4) e 9 0 0),(2,.str t2),(4,.optr (.s 5) e5 2 0 0),(6,.optr (.s 6) e6 6 0 0),(8,.optr (.s 7) e7 6 0 0),(15,.int .i64 (k:Int))]) ⟨[q0,q1,q2,q3,.vec e [[.int .u8 y.n,y.a,c,d,f,g,ln,L,cl]],.vec e5 [[.int .i64 co,.int .i64 fr]],.vec e6 [[.int .i64 0,.int .i64 0,.int .i64 0,.int .i64 0,.int .i64 0,.int .i64 0]],.vec e7 [[.int .i64 co,.int .i64 fr,.int .i64 r,.int .i64 g',.int .i64 0,.int .i64 0]]],dy⟩ _;(conv=>whnf);refine ifB (fun g1=>?_) (fun g1=>?_)
    ·simp only [decide_eq_true_eq] at g1;have hit:=itoa_spec (k:Int) (by omega) (by omega);have hil:=itoa3_len (k:Int);by_cases hf:0<fr
     ·by_cases hy:y= .fr
      ·rw [if_pos ⟨hy,hf⟩,show 16-k=(15-k)+1 by omega,mkN] at hu;have hyn:y.n=1:=by rw [hy];rfl
       by_cases hq:t2=95::itoa3 (k:Int)
       ·rw [if_pos hq] at hu
        (repeat' (first|exact rfl|((conv=>whnf);first|(refine ⟨_,hit,?_⟩)|(exact absurd hyn hb)|(exact absurd hf (Int.not_lt.2 hb))|(exact absurd hq hb)|exact rfl|exact ⟨rfl,rfl⟩|refine go1 ?_|(intro ep)|(refine ⟨by show _+(itoa3 _).length≤_;unfold strMax;simp only [List.length_cons,List.length_nil];omega,?_⟩)|(refine ifB ?_ ?_<;>intro hb<;>(try simp only [qs] at hb)<;>(try simp (disch:=omega) only [wrapI] at hb)<;>(try (exfalso;omega)))|fail)))
        all_goals (conv=>whnf)
        all_goals exact back_of ⟨k,hu⟩ ⟨rfl,rfl⟩
       ·rw [if_neg hq] at hu
        (repeat' (first|exact rfl|((conv=>whnf);first|(refine ⟨_,hit,?_⟩)|(exact absurd hyn hb)|(exact absurd hf (Int.not_lt.2 hb))|(exact absurd hb hq)|exact rfl|exact ⟨rfl,rfl⟩|refine go1 ?_|(intro ep)|(refine ⟨by show _+(itoa3 _).length≤_;unfold strMax;simp only [List.length_cons,List.length_nil];omega,?_⟩)|(refine ifB ?_ ?_<;>intro hb<;>(try simp only [qs] at hb)<;>(try simp (disch:=omega) only [wrapI] at hb)<;>(try (exfalso;omega)))|fail)))
        all_goals (conv=>whnf)
        all_goals exact back_of ⟨k+1,by omega,by omega,by rw [if_pos ⟨hy,hf⟩,show 16-(k+1)=15-k by omega];exact hu⟩ ⟨by (first|exact rfl|(simp (disch:=omega) only [wrapI];exact rfl)),rfl,by dsimp only;omega⟩
      ·rw [if_neg (fun h=>hy h.1)] at hu;have hyn:¬y.n=1:=fun h=>hy ((syn1 y).1 h)
       (repeat' (first|exact rfl|((conv=>whnf);first|(exact absurd hb hyn)|(exact absurd hf (Int.not_lt.2 hb))|exact rfl|exact ⟨rfl,rfl⟩|refine go1 ?_|(intro ep)|(refine ifB ?_ ?_<;>intro hb<;>(try simp only [qs] at hb)<;>(try simp (disch:=omega) only [wrapI] at hb)<;>(try (exfalso;omega)))|fail)))
       all_goals (conv=>whnf)
       all_goals exact back_of ⟨k+1,by omega,by omega,by rw [if_neg (fun h=>hy h.1)];exact hu⟩ ⟨by (first|exact rfl|(simp (disch:=omega) only [wrapI];exact rfl)),rfl,by dsimp only;omega⟩
     ·rw [if_neg (fun h=>hf h.2)] at hu
      (repeat' (first|exact rfl|((conv=>whnf);first|(exact absurd hb hf)|exact rfl|exact ⟨rfl,rfl⟩|refine go1 ?_|(intro ep)|(refine ifB ?_ ?_<;>intro hb<;>(try simp only [qs] at hb)<;>(try simp (disch:=omega) only [wrapI] at hb)<;>(try (exfalso;omega)))|fail)))
      all_goals (conv=>whnf)
      all_goals exact back_of ⟨(),hu⟩ ⟨rfl,rfl,rfl⟩
    ·simp only [decide_eq_false_iff_not] at g1;obtain rfl:k=16:=by omega
     (repeat' (first|exact rfl|((conv=>whnf);first|exact rfl|exact ⟨rfl,rfl⟩|refine go1 ?_|(intro ep)|(refine ifB ?_ ?_<;>intro hb<;>(try simp only [qs] at hb)<;>(try simp (disch:=omega) only [wrapI] at hb)<;>(try (exfalso;omega)))|fail)))
     all_goals (conv=>whnf)
     all_goals exact back_of ⟨(),by rw [hu];simp [mkN]⟩ ⟨rfl,rfl,rfl⟩
   ·rintro ⟨x,hx⟩;rw [hx] at hRR;dsimp only at hRR;subst hRR
    (repeat' (first|exact rfl|((conv=>whnf);first|exact rfl|exact ⟨rfl,rfl⟩|refine go1 ?_|(intro ep)|(refine ifB ?_ ?_<;>intro hb<;>(try simp only [qs] at hb)<;>(try simp (disch:=omega) only [wrapI] at hb)<;>(try (exfalso;omega)))|fail)))
    all_goals (conv=>whnf)
    all_goals exact ⟨rfl,rfl⟩
   ·rintro ⟨_,hx⟩;rw [hx] at hRR;dsimp only at hRR;have hh:=hld_spec y 1 1 (by omega) (by omega);unfold mkS at hRR;generalize hldS y 1 1=p at hh hRR;obtain ⟨s,b⟩:=p;dsimp only at hRR;cases b with
    |false=>
     rw [if_neg (by simp)] at hRR;dsimp only at hRR
     (repeat' (first|exact rfl|((conv=>whnf);first|(refine ⟨_,_,hld_mo y,hh,?_⟩)|exact rfl|exact ⟨rfl,rfl⟩|refine go1 ?_|(intro ep)|(refine ifB ?_ ?_<;>intro hb<;>(try simp only [qs] at hb)<;>(try simp (disch:=omega) only [wrapI] at hb)<;>(try (exfalso;omega)))|fail)))
     all_goals (conv=>whnf)
     all_goals exact ⟨by rw [hRR];rfl,rfl⟩
    |true=>
     (repeat' (first|exact rfl|((conv=>whnf);first|(refine ⟨_,_,hld_mo y,hh,?_⟩)|exact rfl|exact ⟨rfl,rfl⟩|refine go1 ?_|(intro ep)|(refine ifB ?_ ?_<;>intro hb<;>(try simp only [qs] at hb)<;>(try simp (disch:=omega) only [wrapI] at hb)<;>(try (exfalso;omega)))|fail)))
     all_goals (conv=>whnf)
     all_goals refine ⟨?_,rfl⟩
     ·rw [if_pos (by simp only [Bool.and_eq_true,beq_iff_eq,decide_eq_true_eq];exact ⟨⟨⟨trivial,by assumption⟩,by assumption⟩,by assumption⟩)] at hRR;rw [hRR];rfl
     all_goals rw [if_neg (by
      simp only [Bool.and_eq_true,beq_iff_eq,decide_eq_true_eq];rintro ⟨⟨⟨h1,h2⟩,h3⟩,h4⟩
      first
       |exact absurd h2 (by assumption)
       |exact absurd h3 (by assumption)
       |omega)] at hRR
     all_goals (rw [hRR];rfl)

structure Wr where
 c:Int
 f:Int
 r:Int
 g:Int
 h:Int
def Wr.row (w:Wr):List AV:=wrR w.c w.f w.r w.g w.h
def celAt (y:Sy) (co:Int) (t:List UInt8) (pos:Nat):Option Wr:=
 if pos=0 then none else match placeS y co (t.take pos) with
  |none=>none
  |some p=>match mkO y p.2 (t.drop pos) with
   |none=>none
   |some h=>some ⟨p.1,p.2,(mkR y (t.drop pos)).1,(mkG y (t.drop pos)).1,h⟩
def celR (y:Sy) (co:Int) (t:List UInt8):Nat→Nat→Option Wr
 |0,_=>none
 |n+1,pos=>if pos<t.length+1 then match celAt y co t pos with
  |some w=>some w
  |none=>celR y co t n (pos+(runeA (t++[32]) pos).2)
  else none
theorem celR_fuel (y:Sy) (co:Int) (t:List UInt8):∀(n m pos:Nat),t.length+1-pos≤n→t.length+1-pos≤m→celR y co t n pos=celR y co t m pos
 |0,0,_,_,_=>rfl
 |0,m+1,pos,h,_=>by unfold celR;rw [if_neg (by omega)]
 |n+1,0,pos,_,h=>by unfold celR;rw [if_neg (by omega)]
 |n+1,m+1,pos,h1,h2=>by
  have:=runeA_pos (t++[32]) pos;unfold celR;rw [celR_fuel y co t n m (pos+(runeA (t++[32]) pos).2) (by omega) (by omega)]
def cellW (y:Sy) (co:Int) (t:List UInt8):Option Wr:=celR y co t (t.length+1) 0
theorem celR_step (y:Sy) (co:Int) (t:List UInt8) (pos:Nat):celR y co t (t.length+1) pos=if pos<t.length+1 then match celAt y co t pos with
  |some w=>some w
  |none=>celR y co t (t.length+1) (pos+(runeA (t++[32]) pos).2)
  else none:=by
 have:=runeA_pos (t++[32]) pos;rw [celR];rw [celR_fuel y co t t.length (t.length+1) (pos+(runeA (t++[32]) pos).2)]
 ·omega
 ·omega
theorem marks97t {c d f g ln L cl:AV} {q0 q1 q2 q3:AObj} {e:Nat} {tl dy:List AObj} (y:Sy) (co fr:Int) (t:List UInt8) (ht:t.length≤1000000) {R:AV} (hR:mkA y co fr t=R) {K:AV→Heap→Prop}
  (hK:K R ⟨q0::q1::q2::q3:: .vec e [[.int .u8 y.n,y.a,c,d,f,g,ln,L,cl]]::tl,dy⟩):
  ACalls C.P 97 [.optr (.s 4) e 9 0 0,.agg [.int .i64 co,.int .i64 fr],.str t] ⟨q0::q1::q2::q3:: .vec e [[.int .u8 y.n,y.a,c,d,f,g,ln,L,cl]]::tl,dy⟩ K:=by
 subst hR;exact ACalls.tail (st1:=[q0,q1,q2,q3,.vec e [[.int .u8 y.n,y.a,c,d,f,g,ln,L,cl]]]) (tl:=tl) (marks97 (K:=fun r h'=>r=mkA y co fr t∧∃rest,h'=⟨[q0,q1,q2,q3,.vec e [[.int .u8 y.n,y.a,c,d,f,g,ln,L,cl]]]++rest,dy⟩) y co fr t ht fun rest=>⟨rfl,rest,rfl⟩)
  fun r h1 ⟨e1,rest,e2⟩=>by subst e1 e2;exact hK
def A61:Ann:=fun r=>match r with
 |0=>{ slots:=[(0,5)] }
 |5=>{ slots:=[(12,6)] }
 |7=>{ slots:=[(9,7)],plan:=some (.one 0 (.one 1 (.one 2 (.one 3 (.one 4 (.br 5 9 (.one 6 (.one 7 (.one 8 (.one 9 (.one 10 (.one 11 (.done))))))) (.one 5 (.one 6 (.one 7 (.one 8 (.one 10 (.one 11 (.done)))))))))))))}
 |10=>{ pan:=[1] }
 |_=>{}
theorem cell61 {c d f g:AV} {q0 q1 q2 q3:AObj} {e:Nat} {ln:Int} {L:List (List UInt8)} {n:Nat} {cl:Bool} {dy:List AObj} (y:Sy) (co:Int) (t:List UInt8) (ht:t.length≤100000) (hok:stdg y co= .ok y) {K:AV→Heap→Prop} {KP:Nat→Value→Heap→Prop}
  (hK:∀w rest,cellW y co t=some w→K (.agg w.row) ⟨[q0,q1,q2,q3,.vec e [[.int .u8 y.n,y.a,c,d,f,g,.int .i64 ln,.lslc 1 (strR L) 0 n false,.bool cl]]]++rest,dy⟩)
  (hP:cellW y co t=none→∀t v h',PanOk q0 q1 q2 q3 t v h'→KP t v h'):
  ACallsP C.P 61 [.optr (.s 4) e 9 0 0,.int .i64 co,.str t] ⟨[q0,q1,q2,q3,.vec e [[.int .u8 y.n,y.a,c,d,f,g,.int .i64 ln,.lslc 1 (strR L) 0 n false,.bool cl]]],dy⟩ K KP:=by
 refine fnPW_of ok 3 Tryz.func61 rfl ?_;refine wk_seq (wkA ok mixed (A:=A61) ?_)
 (repeat' (first|exact rfl|((conv=>whnf);first|exact rfl|exact ⟨rfl,rfl⟩|refine go1 ?_|(intro ep)|fail)))
 obtain ⟨e5,he⟩:∃e5,e5=ep:=⟨_,rfl⟩;subst he;(conv=>whnf);refine wk_seq (wk_rangeStr ok mixed (A:=A61) (sb:=fun _=>.s 0) (ss:=fun _=>.s 0) 2 rfl rfl rfl rfl rfl rfl rfl rfl rfl rfl rfl (t++[32]) [0,1,2,6,14] [0,1,2,3,4,5] (S:={ k:Nat // cellW y co t=celR y co t (t.length+1) k })
  (fr:=fun epI s=>frOf 0 48 [(0,.optr (.s 4) e 9 0 0),(1,.int .i64 co),(2,.str t),(6,.optr (.s 5) e5 6 0 0),(14,.optr (.s 77) epI 1 0 0)])
  (h:=fun s=>⟨[q0,q1,q2,q3,.vec e [[.int .u8 y.n,y.a,c,d,f,g,.int .i64 ln,.lslc 1 (strR L) 0 n false,.bool cl]],.vec e5 [[.int .i64 0,.int .i64 0,.int .i64 0,.int .i64 0,.int .i64 0,.int .i64 0]],.hole,.hole],dy⟩) (p:=fun s=>s.1) ⟨0,rfl⟩ rfl (.s 77)
  [6] [0,1,2,3,4,5] (S2:={ w:Wr // cellW y co t=some w }) (frR:=fun s=>frOf 0 48 [(6,.optr (.s 5) e5 6 0 0)]) (hR:=fun s=>⟨[q0,q1,q2,q3,.vec e [[.int .u8 y.n,y.a,c,d,f,g,.int .i64 ln,.lslc 1 (strR L) 0 n false,.bool cl]],.vec e5 [s.1.row],.hole,.hole],dy⟩) ?_ ?_ ?_ ?_ ?_)
 ·(repeat' (first|exact rfl|((conv=>whnf);first|exact rfl|exact ⟨rfl,rfl⟩|refine go1 ?_|(intro ep)|(refine ⟨by show t.length+_≤_;unfold strMax;simp only [List.length_cons,List.length_nil];omega,?_⟩)|fail)))
  exact ⟨fun _=>rfl,rfl⟩
 ·intro epI s;exact rfl
 ·rintro epI ⟨k,hk⟩ hlt;dsimp only at hlt;have hst:=celR_step y co t k;rw [←hk] at hst;rw [List.length_append,List.length_singleton] at hlt;rw [if_pos hlt] at hst;show runOrd _ _ _ _ ((frOf 0 48 [(0,.optr (.s 4) e 9 0 0),(1,.int .i64 co),(2,.str t),(6,.optr (.s 5) e5 6 0 0),(14,.optr (.s 77) epI 1 0 0)]).set _ (.tup [.bool true,.int .i64 (k:Nat),.int .i32 (runeA (t++[32]) k).1])) ⟨[q0,q1,q2,q3,.vec e [[.int .u8 y.n,y.a,c,d,f,g,.int .i64 ln,.lslc 1 (strR L) 0 n false,.bool cl]],.vec e5 [[.int .i64 0,.int .i64 0,.int .i64 0,.int .i64 0,.int .i64 0,.int .i64 0]],.hole,.hole],dy⟩ _;generalize (runeA (t++[32]) k).1=rn;unfold celAt at hst;have htk:List.take ((k:Nat):Int).toNat (List.drop 0 t)=t.take k:=by simp
  by_cases h0:k=0
  ·rw [if_pos h0] at hst;dsimp only at hst
   (repeat' (first|exact rfl|((conv=>whnf);first|exact rfl|exact ⟨rfl,rfl⟩|refine go1 ?_|(intro ep)|(refine ⟨rfl,?_⟩)|(refine ifB ?_ ?_<;>intro hb<;>(try simp only [qs] at hb)<;>(try simp (disch:=omega) only [wrapI] at hb)<;>(try (exfalso;omega)))|fail)))
   all_goals (conv=>whnf)
   all_goals exact back_of ⟨_,hst⟩ ⟨rfl,rfl,rfl,rfl⟩
  ·rw [if_neg h0] at hst;have hpl:=place_spec y co (t.take k) hok;generalize placeS y co (t.take k)=P0 at hpl hst;rw [←htk] at hpl;cases P0 with
   |none=>
    dsimp only at hst
    (repeat' (first|exact rfl|((conv=>whnf);first|(refine ⟨_,hpl,?_⟩)|exact rfl|exact ⟨rfl,rfl⟩|refine go1 ?_|(intro ep)|(refine ⟨rfl,?_⟩)|(refine ifB ?_ ?_<;>intro hb<;>(try simp only [qs] at hb)<;>(try simp (disch:=omega) only [wrapI] at hb)<;>(try (exfalso;omega)))|fail)))
    all_goals (conv=>whnf)
    all_goals exact back_of ⟨_,hst⟩ ⟨rfl,rfl,rfl,rfl⟩
   |some p=>
    dsimp only at hst;obtain ⟨M,hM⟩:∃M,mkA y p.1 p.2 (t.drop k)=M:=⟨_,rfl⟩;have hM2:=hM;unfold mkA at hM2;generalize mkO y p.2 (t.drop k)=O at hst hM2;have hdk:(List.take (t.length-((k:Nat):Int).toNat) (List.drop ((k:Nat):Int).toNat t))=t.drop k:=by rw [Int.toNat_natCast];exact List.take_of_length_le (by simp)
    cases O with
    |none=>
     dsimp only at hst hM2;rw [←hM2] at hM;rw [←hdk] at hM
     (repeat' (first|exact rfl|((conv=>whnf);first|(refine ⟨_,hpl,?_⟩)|(refine marks97t y _ _ _ (by simp;omega) hM ?_)|exact rfl|exact ⟨rfl,rfl⟩|refine go1 ?_|(intro ep)|(refine ⟨rfl,?_⟩)|(refine ⟨?_,?_⟩)|(refine ifB ?_ ?_<;>intro hb<;>(try simp only [qs] at hb)<;>(try simp (disch:=omega) only [wrapI] at hb)<;>(try (exfalso;omega)))|fail)))
     all_goals (conv=>whnf)
     all_goals exact back_of ⟨_,hst⟩ ⟨rfl,rfl,rfl⟩
    |some h=>
     dsimp only at hst hM2;rw [←hM2] at hM;rw [←hdk] at hM;rw [←hdk] at hst
     (repeat' (first|exact rfl|((conv=>whnf);first|(refine ⟨_,hpl,?_⟩)|(refine marks97t y _ _ _ (by simp;omega) hM ?_)|exact rfl|exact ⟨rfl,rfl⟩|refine go1 ?_|(intro ep)|(refine ⟨rfl,?_⟩)|(refine ⟨?_,?_⟩)|(refine ifB ?_ ?_<;>intro hb<;>(try simp only [qs] at hb)<;>(try simp (disch:=omega) only [wrapI] at hb)<;>(try (exfalso;omega)))|fail)))
     all_goals (conv=>whnf)
     all_goals exact back_of ⟨_,hst⟩ ⟨rfl,rfl⟩
 ·rintro ⟨w,hw⟩;have hk:=fun rest=>hK w rest hw
  (repeat' (first|exact hk _|((conv=>whnf);first|exact rfl|exact ⟨rfl,rfl⟩|refine go1 ?_|(intro ep)|(refine ifB ?_ ?_<;>intro hb<;>(try simp only [qs] at hb)<;>(try simp (disch:=omega) only [wrapI] at hb)<;>(try (exfalso;omega)))|fail)))
 ·rintro epI ⟨k,hk⟩ hlt;dsimp only at hlt;have hst:=celR_step y co t k;rw [←hk] at hst;rw [List.length_append,List.length_singleton] at hlt;rw [if_neg hlt] at hst;show runOrd _ _ _ _ ((frOf 0 48 [(0,.optr (.s 4) e 9 0 0),(1,.int .i64 co),(2,.str t),(6,.optr (.s 5) e5 6 0 0),(14,.optr (.s 77) epI 1 0 0)]).set _ (.tup [.bool false])) ⟨[q0,q1,q2,q3,.vec e [[.int .u8 y.n,y.a,c,d,f,g,.int .i64 ln,.lslc 1 (strR L) 0 n false,.bool cl]],.vec e5 [[.int .i64 0,.int .i64 0,.int .i64 0,.int .i64 0,.int .i64 0,.int .i64 0]],.hole,.hole],dy⟩ _
  (repeat' (first|exact rfl|((conv=>whnf);first|(exact fail12 4 (by decide) fun t v h' hx=>hP hst t v _ (hx.trunc (Nat.le_of_ble_eq_true rfl)))|(refine wkA ok mixed (A:=A61) ?_)|exact rfl|exact ⟨rfl,rfl⟩|refine go1 ?_|(intro ep)|(refine ⟨rfl,?_⟩)|(refine ifB ?_ ?_<;>intro hb<;>(try simp only [qs] at hb)<;>(try simp (disch:=omega) only [wrapI] at hb)<;>(try (exfalso;omega)))|fail)))
end Go.Ab.V
