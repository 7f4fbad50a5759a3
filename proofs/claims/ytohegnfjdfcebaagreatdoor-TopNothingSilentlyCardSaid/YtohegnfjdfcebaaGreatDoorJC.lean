/-
  What is proved here serves the law's text: each part says its own claim and its conditions. No condition is left open.
-/
import Derived.Test.YtohegnfjdfcebaaGreatDoorJB
import Derived.Test.YtohegnfjdfcebaaGreatDoorKZ
set_option maxHeartbeats 32000000
set_option maxRecDepth 100000
set_option linter.unusedSimpArgs false
set_option linter.unusedVariables false

namespace Go.Ab.V
open Go.Proofs
theorem ofy (y:Sy):PRet C.P 24 [.int .u8 y.n] (ofA (some y)):=by
 cases y
 ·exact of1
 ·exact of2
 ·exact of3
 ·exact of4
def stf (i:Ins):Nat:=min i.cs.length 6
def A58:Ann:=fun r=>match r with
 |0=>{ slots:=[(0,0)] }
 |_=>{}
theorem staff_spec (i:Ins):PRet C.P 58 [inA i] (.int .i64 (stf i:Nat)):=by
 refine pret_of ok mixed (A:=A58) 1 Tryz.func58 rfl ?_
 (repeat' (first|exact rfl|((conv=>whnf);first|exact rfl|refine ⟨by kernel_rfl,?_⟩|exact ⟨rfl,rfl⟩|refine go0 ?_|(intro ep)|(refine ifB ?_ ?_<;>intro hb<;>(try simp only [qs] at hb)<;>(try simp (disch:=omega) only [wrapI] at hb)<;>(try (exfalso;omega)))|fail)))
 all_goals (unfold stf;congr 1;simp only [Bool.false_eq_true,if_false];split<;>omega)
def sysE:Except Int Sy→AV
 | .ok y=>.tup [y.a,.int .i64 0]
 | .error e=>.tup [.nili,.int .i64 e]
def plcd (y:Sy) (c f:Int):Except Int Sy:=if c<1∨14<c then .error 12 else if f<0∨18<f then .error 13 else .ok y
theorem placed_spec (y:Sy) (c f:Int):PRet C.P 75 [.int .u8 y.n,.int .i64 c,.int .i64 f] (sysE (plcd y c f)):=by
 have h:=ofy y;refine pret_of ok mixed (A:=fun _=>{}) 1 Tryz.func75 rfl ?_
 (repeat' (first|exact rfl|((conv=>whnf);first|(refine ⟨_,h,?_⟩)|exact rfl|exact ⟨rfl,rfl⟩|refine go1 ?_|(intro ep)|(refine ifB ?_ ?_<;>intro hb<;>(try simp only [qs] at hb)<;>(try simp (disch:=omega) only [wrapI] at hb)<;>(try (exfalso;omega)))|fail)))
 all_goals (unfold plcd;first|(rw [if_pos (by omega)];rfl)|(rw [if_neg (by omega),if_pos (by omega)];rfl)|(rw [if_neg (by omega),if_neg (by omega)];rfl))
def stB (y:Sy) (there course:Int):Bool:=if 0<course then there==course else y== .ge||decide (6<there)
theorem stands_spec (y:Sy) (there course:Int):PRet C.P 124 [.int .u8 y.n,.int .i64 there,.int .i64 course] (.bool (stB y there course)):=by
 refine pret_of ok mixed (A:=fun _=>{}) 1 Tryz.func124 rfl ?_;cases y
 all_goals (repeat' (first|exact rfl|((conv=>whnf);first|exact rfl|exact ⟨rfl,rfl⟩|refine go1 ?_|(intro ep)|(refine ifB ?_ ?_<;>intro hb<;>(try simp only [qs] at hb)<;>(try simp (disch:=omega) only [wrapI] at hb)<;>(try (exfalso;omega)))|fail)))
 all_goals (unfold stB;first|(rw [if_pos (by omega)];done)|(rw [if_neg (by omega)];done)|(rw [if_neg (by omega)];rfl)|(rw [if_neg (by omega)];simp [*];done))
def stdg (y:Sy) (course:Int):Except Int Sy:=if course<0∨6<course∨(y= .ge∧course≠0) then .error 12 else .ok y
theorem standing_spec (y:Sy) (course:Int):PRet C.P 123 [.int .u8 y.n,.int .i64 course] (sysE (stdg y course)):=by
 have h:=ofy y;refine pret_of ok mixed (A:=fun _=>{}) 1 Tryz.func123 rfl ?_;cases y
 all_goals (repeat' (first|exact rfl|((conv=>whnf);first|(refine ⟨_,h,?_⟩)|exact rfl|exact ⟨rfl,rfl⟩|refine go1 ?_|(intro ep)|(refine ifB ?_ ?_<;>intro hb<;>(try simp only [qs] at hb)<;>(try simp (disch:=omega) only [wrapI] at hb)<;>(try (exfalso;omega)))|fail)))
 all_goals (unfold stdg;first|(rw [if_pos (by simp;omega)];rfl)|(rw [if_neg (by simp;omega)];rfl)|(rw [if_neg (by simp<;>omega)];rfl))
def A37:Ann:=fun r=>match r with
 |0=>{ slots:=[(0,0)] }
 |_=>{}
def symbolS (y:Sy) (c f:Int):List UInt8×Int:=match plcd y c f with
 | .ok _=>if (symS y c f).2=true then ((symS y c f).1,0) else ([],31)
 | .error e=>([],e)
theorem symbol_spec (y:Sy) (c f:Int):PRet C.P 37 [.int .u8 y.n,.agg [.int .i64 c,.int .i64 f]] (nsA (symbolS y c f).1 (symbolS y c f).2):=by
 have h:=placed_spec y c f;unfold symbolS;unfold plcd at h ⊢;by_cases h1:c<1∨14<c
 ·rw [if_pos h1] at h ⊢;refine pret_of ok mixed (A:=A37) 1 Tryz.func37 rfl ?_
  (repeat' (first|exact rfl|((conv=>whnf);first|(refine ⟨_,h,?_⟩)|exact rfl|exact ⟨rfl,rfl⟩|refine go1 ?_|(intro ep)|(refine ifB ?_ ?_<;>intro hb<;>(try simp only [qs] at hb)<;>(try simp (disch:=omega) only [wrapI] at hb)<;>(try (exfalso;omega)))|fail)))
 rw [if_neg h1] at h ⊢;by_cases h2:f<0∨18<f
 ·rw [if_pos h2] at h ⊢;refine pret_of ok mixed (A:=A37) 1 Tryz.func37 rfl ?_
  (repeat' (first|exact rfl|((conv=>whnf);first|(refine ⟨_,h,?_⟩)|exact rfl|exact ⟨rfl,rfl⟩|refine go1 ?_|(intro ep)|(refine ifB ?_ ?_<;>intro hb<;>(try simp only [qs] at hb)<;>(try simp (disch:=omega) only [wrapI] at hb)<;>(try (exfalso;omega)))|fail)))
 rw [if_neg h2] at h ⊢;have hs:=sym_spec y c f (by omega) (by omega) (by omega) (by omega);obtain ⟨⟨w,b⟩,hw⟩:∃p,p=symS y c f:=⟨_,rfl⟩;rw [←hw] at hs ⊢;refine pret_of ok mixed (A:=A37) 1 Tryz.func37 rfl ?_;cases b
 all_goals (repeat' (first|exact rfl|((conv=>whnf);first|(refine ⟨_,h,?_⟩)|(refine ⟨_,_,sym_mo y,hs,?_⟩)|exact rfl|exact ⟨rfl,rfl⟩|refine go1 ?_|(intro ep)|(refine ifB ?_ ?_<;>intro hb<;>(try simp only [qs] at hb)<;>(try simp (disch:=omega) only [wrapI] at hb)<;>(try (exfalso;omega)))|fail)))

def okP (y:Sy) (t:List UInt8) (c f:Nat):Bool:=(symS y c f).2&&((symS y c f).1==t)
def plFr (y:Sy) (t:List UInt8) (c:Nat):Nat→Nat→Option Nat
 |0,_=>none
 |n+1,f=>if okP y t c f=true then some f else plFr y t c n (f+1)
def plC1 (y:Sy) (co:Int) (t:List UInt8) (c:Nat):Option Nat:=if stB y c co=true then plFr y t c 19 0 else none
def plCr (y:Sy) (co:Int) (t:List UInt8):Nat→Nat→Option (Nat×Nat)
 |0,_=>none
 |n+1,c=>match plC1 y co t c with
  |some f=>some (c,f)
  |none=>plCr y co t n (c+1)
def placeS (y:Sy) (co:Int) (t:List UInt8):Option (Nat×Nat):=plCr y co t 14 1
def plA:Option (Nat×Nat)→AV
 |some p=>.tup [.agg [.int .i64 p.1,.int .i64 p.2],.int .i64 0]
 |none=>.tup [.agg [.int .i64 0,.int .i64 0],.int .i64 4]
def A96:Ann:=fun r=>match r with
 |0=>{ slots:=[(0,0)] }
 |10=>{ slots:=[(3,1)] }
 |_=>{}
theorem place_spec (y:Sy) (co:Int) (t:List UInt8) (hok:stdg y co= .ok y):PRet C.P 96 [.int .u8 y.n,.int .i64 co,.str t] (plA (placeS y co t)):=by
 have hst:=standing_spec y co;rw [hok] at hst;obtain ⟨R,hR⟩:∃R,R=placeS y co t:=⟨_,rfl⟩;rw [←hR];refine pret_of ok mixed (A:=A96) 2 Tryz.func96 rfl ?_
 (repeat' (first|exact rfl|((conv=>whnf);first|(refine ⟨_,hst,?_⟩)|exact rfl|exact ⟨rfl,rfl⟩|refine go1 ?_|(intro ep)|(refine ifB ?_ ?_<;>intro hb<;>(try simp only [qs] at hb)<;>(try simp (disch:=omega) only [wrapI] at hb)<;>(try (exfalso;omega)))|fail)))
 obtain ⟨e0,he⟩:∃e0,e0=ep:=⟨_,rfl⟩;subst he;(conv=>whnf);refine loopY ok mixed (A:=A96) [0,1,2,6,8,10] [0] (S:={ c:Nat // 1≤c∧c≤15∧plCr y co t (15-c) c=R })
  (fr:=fun s=>frOf 0 56 [(0,.int .u8 y.n),(1,.int .i64 co),(2,.str t),(6,.optr (.s 0) e0 2 0 0),(8,y.a),(10,.int .i64 (s.1:Int))])
  (h:=fun s=>⟨[.vec e0 [[.int .i64 0,.int .i64 0]],.hole],[]⟩) (μ:=fun s=>15-s.1) ⟨1,by omega,by omega,hR.symm⟩ ?_ ?_
  [6] [0] (S':={ k:Nat // R=none }) (X:=fun _=>0) (frX:=fun s=>frOf 0 56 [(6,.optr (.s 0) e0 2 0 0)]) (hX:=fun s=>⟨[.vec e0 [[.int .i64 0,.int .i64 0]],.hole],[]⟩)
  [6,7] [0] (S2:={ p:Nat×Nat // R=some p }) (frR:=fun s=>frOf 0 56 [(6,.optr (.s 0) e0 2 0 0),(7,.int .i64 0)]) (hR:=fun s=>⟨[.vec e0 [[.int .i64 s.1.1,.int .i64 s.1.2]],.hole],[]⟩) ?_ ?_ ?_
 ·exact rfl
 ·exact rfl
 ·rintro ⟨c,hc1,hc2,hu⟩;show aexR _ _ _ (frOf 0 56 [(0,.int .u8 y.n),(1,.int .i64 co),(2,.str t),(6,.optr (.s 0) e0 2 0 0),(8,y.a),(10,.int .i64 (c:Int))]) ⟨[.vec e0 [[.int .i64 0,.int .i64 0]],.hole],[]⟩ _;(conv=>whnf);refine ifB (fun g1=>?_) (fun g1=>?_)
  ·simp only [decide_eq_true_eq] at g1;obtain ⟨m,hm⟩:∃m,15-c=m+1:=⟨14-c,by omega⟩;rw [hm,plCr] at hu;have hm2:m=15-(c+1):=by omega
   have hsd:=stands_spec y c co;obtain ⟨Q,hQ⟩:∃Q,Q=plC1 y co t c:=⟨_,rfl⟩;rw [←hQ] at hu
   (repeat' (first|exact rfl|((conv=>whnf);first|exact rfl|exact ⟨rfl,rfl⟩|refine go1 ?_|(intro ep)|fail)))
   (conv=>whnf);refine loopY ok mixed (A:=A96) [0,1,2,6,8,10,11] [0] (S:={ f:Nat // f≤19∧(if stB y c co=true then plFr y t c (19-f) f else none)=Q })
    (fr:=fun s=>frOf 0 56 [(0,.int .u8 y.n),(1,.int .i64 co),(2,.str t),(6,.optr (.s 0) e0 2 0 0),(8,y.a),(10,.int .i64 (c:Int)),(11,.int .i64 (s.1:Int))])
    (h:=fun s=>⟨[.vec e0 [[.int .i64 0,.int .i64 0]],.hole],[]⟩) (μ:=fun s=>19-s.1) ⟨0,by omega,hQ.symm⟩ ?_ ?_
    [0,1,2,6,8,10] [0] (S':={ k:Nat // Q=none }) (X:=fun _=>2) (frX:=fun s=>frOf 0 56 [(0,.int .u8 y.n),(1,.int .i64 co),(2,.str t),(6,.optr (.s 0) e0 2 0 0),(8,y.a),(10,.int .i64 (c:Int))]) (hX:=fun s=>⟨[.vec e0 [[.int .i64 0,.int .i64 0]],.hole],[]⟩)
    [6,7] [0] (S2:={ f:Nat // Q=some f }) (frR:=fun s=>frOf 0 56 [(6,.optr (.s 0) e0 2 0 0),(7,.int .i64 0)]) (hR:=fun s=>⟨[.vec e0 [[.int .i64 c,.int .i64 s.1]],.hole],[]⟩) ?_ ?_ ?_
   ·exact rfl
   ·exact rfl
   ·rintro ⟨f,hf,hq⟩;show aexR _ _ _ (frOf 0 56 [(0,.int .u8 y.n),(1,.int .i64 co),(2,.str t),(6,.optr (.s 0) e0 2 0 0),(8,y.a),(10,.int .i64 (c:Int)),(11,.int .i64 (f:Int))]) ⟨[.vec e0 [[.int .i64 0,.int .i64 0]],.hole],[]⟩ _;by_cases hf2:f≤18
    ·have hs:=sym_spec y c f (by omega) (by omega) (by omega) (by omega);obtain ⟨⟨w,b⟩,hw⟩:∃p,p=symS y c f:=⟨_,rfl⟩;rw [←hw] at hs
     rcases (Bool.eq_false_or_eq_true (stB y c co)).symm with hsb|hsb
     ·skip
      rw [hsb] at hsd
      (repeat' (first|exact rfl|((conv=>whnf);first|(refine ⟨_,hsd,?_⟩)|exact rfl|exact ⟨rfl,rfl⟩|refine go1 ?_|(intro ep)|(refine ifB ?_ ?_<;>intro hb<;>(try simp only [qs] at hb)<;>(try simp (disch:=omega) only [wrapI] at hb)<;>(try (exfalso;omega)))|fail)))
      all_goals (conv=>whnf)
      all_goals exact back_of ⟨0,by rw [←hq,hsb];rfl⟩ ⟨rfl,rfl,rfl⟩
     ·rw [hsb] at hsd hq;rw [if_pos rfl] at hq;obtain ⟨n,hn⟩:∃n,19-f=n+1:=⟨18-f,by omega⟩;rw [hn,plFr] at hq;have hn2:n=19-(f+1):=by omega
      have hop:okP y t c f=(b&&(w==t)):=by unfold okP;rw [←hw]
      cases b
      ·(repeat' (first|exact rfl|((conv=>whnf);first|(refine ⟨_,hsd,?_⟩)|(refine ⟨_,_,sym_mo y,hs,?_⟩)|exact rfl|exact ⟨rfl,rfl⟩|refine go1 ?_|(intro ep)|(refine ifB ?_ ?_<;>intro hb<;>(try simp only [qs] at hb)<;>(try simp (disch:=omega) only [wrapI] at hb)<;>(try (exfalso;omega)))|fail)))
       all_goals (conv=>whnf)
       all_goals (rw [hop] at hq;simp only [Bool.false_and,Bool.false_eq_true,if_false] at hq)
       all_goals exact back_of ⟨f+1,by omega,by rw [if_pos hsb,←hn2];exact hq⟩ ⟨by (first|exact rfl|(simp (disch:=omega) only [wrapI];exact rfl)),rfl,by simp only;omega⟩
      ·(repeat' (first|exact rfl|((conv=>whnf);first|(refine ⟨_,hsd,?_⟩)|(refine ⟨_,_,sym_mo y,hs,?_⟩)|exact rfl|exact ⟨rfl,rfl⟩|refine go1 ?_|(intro ep)|(refine ifB ?_ ?_<;>intro hb<;>(try simp only [qs] at hb)<;>(try simp (disch:=omega) only [wrapI] at hb)<;>(try (exfalso;omega)))|fail)))
       all_goals (conv=>whnf)
       all_goals (rw [hop] at hq)
       ·have hwt:=hb;rw [hwt] at hq;simp only [Bool.true_and,beq_self_eq_true,if_true] at hq;exact back_of ⟨f,hq.symm⟩ ⟨rfl,rfl⟩
       ·have hwt:=hb;rw [beq_eq_false_iff_ne.2 hwt] at hq;simp only [Bool.true_and,Bool.false_eq_true,if_false] at hq;exact back_of ⟨f+1,by omega,by rw [if_pos hsb,←hn2];exact hq⟩ ⟨by (first|exact rfl|(simp (disch:=omega) only [wrapI];exact rfl)),rfl,by simp only;omega⟩
    ·have hq0:Q=none:=by
      rw [←hq];have:19-f=0:=by omega
      rw [this]
      split<;>rfl
     (repeat' (first|exact rfl|((conv=>whnf);first|exact rfl|exact ⟨rfl,rfl⟩|refine go1 ?_|(intro ep)|(refine ifB ?_ ?_<;>intro hb<;>(try simp only [qs] at hb)<;>(try simp (disch:=omega) only [wrapI] at hb)<;>(try (exfalso;omega)))|fail)))
     all_goals (conv=>whnf)
     all_goals exact back_of ⟨0,hq0⟩ ⟨rfl,rfl,rfl⟩
   ·rintro ⟨f,hq⟩;rw [hq] at hu;(conv=>whnf);exact back_of ⟨(c,f),hu.symm⟩ ⟨rfl,rfl⟩
   ·rintro ⟨_,hq⟩;rw [hq] at hu
    (repeat' (first|exact rfl|((conv=>whnf);first|exact rfl|exact ⟨rfl,rfl⟩|refine go1 ?_|(intro ep)|fail)))
    all_goals (conv=>whnf)
    all_goals exact back_of ⟨c+1,by omega,by omega,by rw [←hm2];exact hu⟩ ⟨by (first|exact rfl|(simp (disch:=omega) only [wrapI];exact rfl)),rfl,by simp only;omega⟩
  ·simp only [decide_eq_false_iff_not] at g1;have hR0:R=none:=by
    rw [←hu];have:15-c=0:=by omega
    rw [this];rfl
   (repeat' (first|exact rfl|((conv=>whnf);first|exact rfl|exact ⟨rfl,rfl⟩|refine go1 ?_|(intro ep)|fail)))
   all_goals (conv=>whnf)
   all_goals exact back_of ⟨0,hR0⟩ ⟨rfl,rfl,rfl⟩
 ·rintro ⟨p,hp⟩;subst hp
  (repeat' (first|exact rfl|((conv=>whnf);first|exact rfl|exact ⟨rfl,rfl⟩|refine go1 ?_|(intro ep)|fail)))
 ·rintro ⟨_,hp⟩;subst hp
  (repeat' (first|exact rfl|((conv=>whnf);first|exact rfl|exact ⟨rfl,rfl⟩|refine go1 ?_|(intro ep)|fail)))

def ptOk (y:Sy) (t:List UInt8) (v:Nat) (d th:Bool):Bool:=(twS y v d th).2&&((twS y v d th).1==t)
def ptV (y:Sy) (t:List UInt8) (v:Nat):Option (Bool×Bool):=if ptOk y t v false false=true then some (false,false) else if v=0 then none else if ptOk y t v true false=true then some (true,false) else if ptOk y t v false true=true then some (false,true) else none
def ptI (y:Sy) (t:List UInt8) (v:Nat):Nat→Option (Bool×Bool)
 |0=>ptV y t v
 |1=>if v=0 then none else if ptOk y t v true false=true then some (true,false) else if ptOk y t v false true=true then some (false,true) else none
 |2=>if v=0 then none else if ptOk y t v false true=true then some (false,true) else none
 |_=>none
def ptR (y:Sy) (t:List UInt8):Nat→Nat→Option (Nat×Bool×Bool)
 |0,_=>none
 |n+1,v=>match ptV y t v with
  |some g=>some (v,g)
  |none=>ptR y t n (v+1)
def parseTm (y:Sy) (t:List UInt8):Option (Nat×Bool×Bool):=ptR y t 8 0
def ptA:Option (Nat×Bool×Bool)→AV
 |some p=>.tup [.agg [.int .i64 p.1,.bool p.2.1,.bool p.2.2],.int .i64 0]
 |none=>.tup [.agg [.int .i64 0,.bool false,.bool false],.int .i64 4]
def A26:Ann:=fun r=>match r with
 |0=>{ slots:=[(0,0)] }
 |7=>{ slots:=[(6,1)] }
 |9=>{ slots:=[(2,2)] }
 |_=>{}
theorem parseTm_spec (y:Sy) (t:List UInt8):PRet C.P 26 [.int .u8 y.n,.str t] (ptA (parseTm y t)):=by
 have hst:=ofy y;obtain ⟨R,hR⟩:∃R,R=parseTm y t:=⟨_,rfl⟩;rw [←hR];refine pret_of ok mixed (A:=A26) 3 Tryz.func26 rfl ?_
 (repeat' (first|exact rfl|((conv=>whnf);first|(refine ⟨_,hst,?_⟩)|exact rfl|exact ⟨rfl,rfl⟩|refine go1 ?_|(intro ep)|(refine ifB ?_ ?_<;>intro hb<;>(try simp only [qs] at hb)<;>(try simp (disch:=omega) only [wrapI] at hb)<;>(try (exfalso;omega)))|fail)))
 obtain ⟨e0,he⟩:∃e0,e0=ep:=⟨_,rfl⟩;subst he;(conv=>whnf);refine loopY ok mixed (A:=A26) [1,4,6,8] [0] (S:={ v:Nat // v≤8∧ptR y t (8-v) v=R })
  (fr:=fun s=>frOf 0 59 [(1,.str t),(4,.optr (.s 0) e0 3 0 0),(6,y.a),(8,.int .i64 (s.1:Int))])
  (h:=fun s=>⟨[.vec e0 [[.int .i64 0,.bool false,.bool false]],.hole,.hole],[]⟩) (μ:=fun s=>8-s.1) ⟨0,by omega,hR.symm⟩ ?_ ?_
  [4] [0] (S':={ k:Nat // R=none }) (X:=fun _=>0) (frX:=fun s=>frOf 0 59 [(4,.optr (.s 0) e0 3 0 0)]) (hX:=fun s=>⟨[.vec e0 [[.int .i64 0,.bool false,.bool false]],.hole,.hole],[]⟩)
  [4,5] [0] (S2:={ p:Nat×Bool×Bool // R=some p }) (frR:=fun s=>frOf 0 59 [(4,.optr (.s 0) e0 3 0 0),(5,.int .i64 0)]) (hR:=fun s=>⟨[.vec e0 [[.int .i64 s.1.1,.bool s.1.2.1,.bool s.1.2.2]],.hole,.hole],[]⟩) ?_ ?_ ?_
 ·exact rfl
 ·exact rfl
 ·rintro ⟨v,hv,hu⟩;show aexR _ _ _ (frOf 0 59 [(1,.str t),(4,.optr (.s 0) e0 3 0 0),(6,y.a),(8,.int .i64 (v:Int))]) ⟨[.vec e0 [[.int .i64 0,.bool false,.bool false]],.hole,.hole],[]⟩ _;by_cases hv7:v≤7
  ·obtain ⟨m,hm⟩:∃m,8-v=m+1:=⟨7-v,by omega⟩;rw [hm,ptR] at hu;have hm2:m=8-(v+1):=by omega
   obtain ⟨Q,hQ⟩:∃Q,Q=ptV y t v:=⟨_,rfl⟩;rw [←hQ] at hu
   (repeat' (first|exact rfl|((conv=>whnf);first|exact rfl|exact ⟨rfl,rfl⟩|refine go1 ?_|(intro ep)|(refine ifB ?_ ?_<;>intro hb<;>(try simp only [qs] at hb)<;>(try simp (disch:=omega) only [wrapI] at hb)<;>(try (exfalso;omega)))|fail)))
   obtain ⟨e1,he⟩:∃e1,e1=ep:=⟨_,rfl⟩;subst he;(conv=>whnf);refine loopY ok mixed (A:=A26) [1,4,6,8,31,32,33] [0,1] (S:={ k:Nat // k≤3∧ptI y t v k=Q })
    (fr:=fun s=>frOf 0 59 [(1,.str t),(4,.optr (.s 0) e0 3 0 0),(6,y.a),(8,.int .i64 (v:Int)),(31,.oslc (.s 1) e1 3 0 3 false),(32,.int .i64 3),(33,.int .i64 (s.1:Int))])
    (h:=fun s=>⟨[.vec e0 [[.int .i64 0,.bool false,.bool false]],.vec e1 [[.int .i64 v,.bool false,.bool false],[.int .i64 v,.bool true,.bool false],[.int .i64 v,.bool false,.bool true]],.hole],[]⟩) (μ:=fun s=>3-s.1) ⟨0,by omega,hQ.symm⟩ ?_ ?_
    [1,4,6,8] [0] (S':={ k:Nat // Q=none }) (X:=fun _=>2) (frX:=fun s=>frOf 0 59 [(1,.str t),(4,.optr (.s 0) e0 3 0 0),(6,y.a),(8,.int .i64 (v:Int))]) (hX:=fun s=>⟨[.vec e0 [[.int .i64 0,.bool false,.bool false]],.hole,.hole],[]⟩)
    [4,5] [0] (S2:={ g:Bool×Bool // Q=some g }) (frR:=fun s=>frOf 0 59 [(4,.optr (.s 0) e0 3 0 0),(5,.int .i64 0)]) (hR:=fun s=>⟨[.vec e0 [[.int .i64 v,.bool s.1.1,.bool s.1.2]],.hole,.hole],[]⟩) ?_ ?_ ?_
   ·exact rfl
   ·exact rfl
   ·rintro ⟨k,hk,hq⟩;show aexR _ _ _ (frOf 0 59 [(1,.str t),(4,.optr (.s 0) e0 3 0 0),(6,y.a),(8,.int .i64 (v:Int)),(31,.oslc (.s 1) e1 3 0 3 false),(32,.int .i64 3),(33,.int .i64 (k:Int))]) ⟨[.vec e0 [[.int .i64 0,.bool false,.bool false]],.vec e1 [[.int .i64 v,.bool false,.bool false],[.int .i64 v,.bool true,.bool false],[.int .i64 v,.bool false,.bool true]],.hole],[]⟩ _;have hk4:k=0∨k=1∨k=2∨k=3:=by omega
    clear hQ
    rcases hk4 with rfl|rfl|rfl|rfl
    ·rw [ptI,ptV] at hq;have h1:=tw_spec y v false false (by omega) (by omega);have o1:ptOk y t v false false=((twS y v false false).2&&((twS y v false false).1==t)):=rfl;rw [o1] at hq;generalize twS y v false false=p1 at h1 hq;clear o1;obtain ⟨w1,b1⟩:=p1;cases b1
     all_goals (repeat' (first|exact rfl|((conv=>whnf);first|(refine ⟨_,h1,?_⟩)|exact rfl|exact ⟨rfl,rfl⟩|refine go1 ?_|(intro ep)|(refine ifB ?_ ?_<;>intro hb<;>(try simp only [qs] at hb)<;>(try simp (disch:=omega) only [wrapI] at hb)<;>(try (exfalso;omega)))|fail)))
     all_goals (conv=>whnf)
     all_goals (simp only [*,Bool.true_and,Bool.false_and,Bool.false_eq_true,if_false,if_true,beq_self_eq_true,beq_iff_eq] at hq)
     all_goals first
      |exact back_of ⟨(false,false),hq.symm⟩ ⟨rfl,rfl⟩
      |exact back_of ⟨1,by omega,by rw [ptI];exact hq⟩ ⟨rfl,rfl,by simp only;omega⟩
      |(exfalso;rename_i h0;simp [h0] at hb;done)
    ·rw [ptI] at hq;by_cases hv0:v=0
     ·subst hv0;rw [if_pos rfl] at hq
      (repeat' (first|exact rfl|((conv=>whnf);first|exact rfl|exact ⟨rfl,rfl⟩|refine go1 ?_|(intro ep)|(refine ifB ?_ ?_<;>intro hb<;>(try simp only [qs] at hb)<;>(try simp (disch:=omega) only [wrapI] at hb)<;>(try (exfalso;omega)))|fail)))
      all_goals (conv=>whnf)
      all_goals exact back_of ⟨2,by omega,by first|(rw [ptI,if_pos rfl];exact hq)|exact hq⟩ ⟨rfl,rfl,by simp only;omega⟩
     rw [if_neg hv0] at hq;have h1:=tw_spec y v true false (by omega) (by omega);have o1:ptOk y t v true false=((twS y v true false).2&&((twS y v true false).1==t)):=rfl;rw [o1] at hq;generalize twS y v true false=p1 at h1 hq;clear o1;obtain ⟨w1,b1⟩:=p1;cases b1
     all_goals (repeat' (first|exact rfl|((conv=>whnf);first|(refine ⟨_,h1,?_⟩)|exact rfl|exact ⟨rfl,rfl⟩|refine go1 ?_|(intro ep)|(refine ifB ?_ ?_<;>intro hb<;>(try simp only [qs] at hb)<;>(try simp (disch:=omega) only [wrapI] at hb)<;>(try (exfalso;omega)))|fail)))
     all_goals (conv=>whnf)
     all_goals (simp only [*,Bool.true_and,Bool.false_and,Bool.false_eq_true,if_false,if_true,beq_self_eq_true,beq_iff_eq] at hq)
     all_goals first
      |exact back_of ⟨(true,false),hq.symm⟩ ⟨rfl,rfl⟩
      |exact back_of ⟨2,by omega,by first|(rw [ptI,if_neg hv0];exact hq)|exact hq⟩ ⟨rfl,rfl,by simp only;omega⟩
    ·rw [ptI] at hq;by_cases hv0:v=0
     ·subst hv0;rw [if_pos rfl] at hq
      (repeat' (first|exact rfl|((conv=>whnf);first|exact rfl|exact ⟨rfl,rfl⟩|refine go1 ?_|(intro ep)|(refine ifB ?_ ?_<;>intro hb<;>(try simp only [qs] at hb)<;>(try simp (disch:=omega) only [wrapI] at hb)<;>(try (exfalso;omega)))|fail)))
      all_goals (conv=>whnf)
      all_goals exact back_of ⟨3,by omega,by first|(rw [ptI,if_pos rfl];exact hq)|exact hq⟩ ⟨rfl,rfl,by simp only;omega⟩
     rw [if_neg hv0] at hq;have h1:=tw_spec y v false true (by omega) (by omega);have o1:ptOk y t v false true=((twS y v false true).2&&((twS y v false true).1==t)):=rfl;rw [o1] at hq;generalize twS y v false true=p1 at h1 hq;clear o1;obtain ⟨w1,b1⟩:=p1;cases b1
     all_goals (repeat' (first|exact rfl|((conv=>whnf);first|(refine ⟨_,h1,?_⟩)|exact rfl|exact ⟨rfl,rfl⟩|refine go1 ?_|(intro ep)|(refine ifB ?_ ?_<;>intro hb<;>(try simp only [qs] at hb)<;>(try simp (disch:=omega) only [wrapI] at hb)<;>(try (exfalso;omega)))|fail)))
     all_goals (conv=>whnf)
     all_goals (simp only [*,Bool.true_and,Bool.false_and,Bool.false_eq_true,if_false,if_true,beq_self_eq_true,beq_iff_eq] at hq)
     all_goals first
      |exact back_of ⟨(false,true),hq.symm⟩ ⟨rfl,rfl⟩
      |exact back_of ⟨3,by omega,by first|(rw [ptI,if_neg hv0];exact hq)|exact hq⟩ ⟨rfl,rfl,by simp only;omega⟩
    ·(repeat' (first|exact rfl|((conv=>whnf);first|exact rfl|exact ⟨rfl,rfl⟩|refine go1 ?_|(intro ep)|(refine ifB ?_ ?_<;>intro hb<;>(try simp only [qs] at hb)<;>(try simp (disch:=omega) only [wrapI] at hb)<;>(try (exfalso;omega)))|fail)))
     all_goals (conv=>whnf)
     all_goals exact back_of ⟨0,hq.symm⟩ ⟨rfl,rfl,rfl⟩
   ·rintro ⟨g,hq⟩;rw [hq] at hu;(conv=>whnf);exact back_of ⟨(v,g),hu.symm⟩ ⟨rfl,rfl⟩
   ·rintro ⟨_,hq⟩;rw [hq] at hu
    (repeat' (first|exact rfl|((conv=>whnf);first|exact rfl|exact ⟨rfl,rfl⟩|refine go1 ?_|(intro ep)|fail)))
    all_goals (conv=>whnf)
    all_goals exact back_of ⟨v+1,by omega,by rw [←hm2];exact hu⟩ ⟨by (first|exact rfl|(simp (disch:=omega) only [wrapI];exact rfl)),rfl,by simp only;omega⟩
  ·have hR0:R=none:=by
    rw [←hu];have:8-v=0:=by omega
    rw [this];rfl
   (repeat' (first|exact rfl|((conv=>whnf);first|exact rfl|exact ⟨rfl,rfl⟩|refine go1 ?_|(intro ep)|(refine ifB ?_ ?_<;>intro hb<;>(try simp only [qs] at hb)<;>(try simp (disch:=omega) only [wrapI] at hb)<;>(try (exfalso;omega)))|fail)))
   all_goals (conv=>whnf)
   all_goals exact back_of ⟨0,hR0⟩ ⟨rfl,rfl,rfl⟩
 ·rintro ⟨p,hp⟩;subst hp
  (repeat' (first|exact rfl|((conv=>whnf);first|exact rfl|exact ⟨rfl,rfl⟩|refine go1 ?_|(intro ep)|fail)))
 ·rintro ⟨_,hp⟩;subst hp
  (repeat' (first|exact rfl|((conv=>whnf);first|exact rfl|exact ⟨rfl,rfl⟩|refine go1 ?_|(intro ep)|fail)))

theorem figS_len (f:Int):(figS f).1.length≤4:=by
 unfold figS
 split
 ·exact itoa3_len f
 ·split<;>simp
theorem symS_len (y:Sy) (c f:Int) (h1:c≤14) (h2:0≤f) (h3:f≤18):(symS y c f).1.length≤20:=by
 cases y
 ·show (symFr c f).1.length≤20;unfold symFr
  split
  ·have:=itoa3_len (c-7);simp only;omega
  ·simp only [List.length_append,repB_len,List.length_take,List.length_cons,List.length_nil];omega
 ·show (symIt c f).1.length≤20;unfold symIt
  split
  ·have:=figS_len f;omega
  ·split
   ·simp
   ·have:=itoa3_len c;simp only;omega
 ·show (symSp c f).1.length≤20;unfold symSp
  split
  ·simp
  ·have:=figS_len f;omega
 ·show (symGe c f).1.length≤20;unfold symGe
  split
  ·simp
  ·split
   ·simp
   ·split
    ·simp only [List.length_take];omega
    ·split
     ·have:=itoa3_len (6-c);simp only;omega
     ·rename_i g1 g2 g3 g4;simp only [repB_len,List.length_take];have hq:((f+4).tdiv 5).toNat≤4:=by
       have:=Int.tdiv_eq_ediv_of_nonneg (a:=f+4) (b:=5) (by omega);omega
      have:min 1 (smlGe.drop (atGe c f).toNat).length≤1:=Nat.min_le_left _ _;exact Nat.le_trans (Nat.mul_le_mul hq this) (by decide)
theorem mkd_len (l:List (List UInt8)) (m:Int) (h:∀x∈l,x.length≤1):(mkd l m).1.length≤1:=by
 unfold mkd;have hg:(l.getD m.toNat []).length≤1:=by
  rw [List.getD];cases hx:l[m.toNat]? with
  |none=>simp
  |some x=>exact h x (List.mem_of_getElem? hx)
 repeat' split
 all_goals first|exact hg|simp
theorem rgtS_len (y:Sy) (m:Int):(rgtS y m).1.length≤1:=by
 cases y
 ·exact mkd_len _ _ (by decide)
 ·exact mkd_len _ _ (by decide)
 ·simp [rgtS]
 ·exact mkd_len _ _ (by decide)
theorem grcS_len (y:Sy) (m:Int):(grcS y m).1.length≤1:=by
 cases y
 ·exact mkd_len _ _ (by decide)
 ·exact mkd_len _ _ (by decide)
 ·simp [grcS]
 ·exact mkd_len _ _ (by decide)
theorem holdSt_len (n l:Int):(holdSt n l).1.length≤5:=by
 unfold holdSt;repeat' split
 all_goals simp
theorem hldS_len (y:Sy) (n l:Int):(hldS y n l).1.length≤5:=by
 cases y
 ·show (holdFr n).1.length≤5;unfold holdFr;split
  ·simp
  ·have:=itoa3_len n;simp only [List.length_cons];omega
 ·exact holdSt_len n l
 ·simp [hldS]
 ·exact holdSt_len n l
def cellS (y:Sy) (s:Stp) (lg:Int):List UInt8×Bool:=((symS y s.c s.f).1++(rgtS y s.r).1++(grcS y s.g).1++(hldS y s.h lg).1,(symS y s.c s.f).2&&(rgtS y s.r).2&&(grcS y s.g).2&&(hldS y s.h lg).2)
structure Stp.In (s:Stp):Prop where
 c1:1≤s.c
 c2:s.c≤14
 f1:0≤s.f
 f2:s.f≤18
 r1:0≤s.r
 r2:s.r≤3
 g1:0≤s.g
 g2:s.g≤4
 h1:0≤s.h
 h2:s.h≤15
def A76:Ann:=fun r=>match r with
 |0=>{ slots:=[(0,0)] }
 |_=>{}
theorem cell_spec (y:Sy) (s:Stp) (lg:Int) (hs:s.In):PRet C.P 76 [y.a,.agg (stR s),.int .i64 lg] (sbA (cellS y s lg)):=by
 have a1:=sym_spec y s.c s.f hs.c1 hs.c2 hs.f1 hs.f2;have a2:=rgt_spec y s.r;have a3:=grc_spec y s.g;have a4:=hld_spec y s.h lg hs.h1 hs.h2;have l1:=symS_len y s.c s.f hs.c2 hs.f1 hs.f2;have l2:=rgtS_len y s.r;have l3:=grcS_len y s.g;have l4:=hldS_len y s.h lg;unfold cellS;generalize symS y s.c s.f=p1 at a1 l1;generalize rgtS y s.r=p2 at a2 l2;generalize grcS y s.g=p3 at a3 l3;generalize hldS y s.h lg=p4 at a4 l4;obtain ⟨w1,b1⟩:=p1;obtain ⟨w2,b2⟩:=p2;obtain ⟨w3,b3⟩:=p3;obtain ⟨w4,b4⟩:=p4;simp only at l1 l2 l3 l4;refine pret_of ok mixed (A:=A76) 1 Tryz.func76 rfl ?_;cases b1<;>cases b2<;>cases b3
 all_goals (repeat' (first|exact rfl|((conv=>whnf);first|(refine ⟨_,_,sym_mo y,a1,?_⟩)|(refine ⟨_,_,rgt_mo y,a2,?_⟩)|(refine ⟨_,_,grc_mo y,a3,?_⟩)|(refine ⟨_,_,hld_mo y,a4,?_⟩)|(refine ⟨(by show _+_≤strMax;simp only [List.length_append,strMax];omega),?_⟩)|exact rfl|exact ⟨rfl,rfl⟩|refine go1 ?_|(intro ep)|(refine ifB ?_ ?_<;>intro hb<;>(try simp only [qs] at hb)<;>(try simp (disch:=omega) only [wrapI] at hb)<;>(try (exfalso;omega)))|fail)))
def A40:Ann:=fun r=>match r with
 |0=>{ slots:=[(0,0)] }
 |_=>{}
def cellE (y:Sy) (s:Stp):List UInt8×Int:=if (cellS y s 0).2=true then ((cellS y s 0).1,0) else ([],31)
theorem Cell_spec (y:Sy) (s:Stp) (hs:s.In) (hh:s.h=0):PRet C.P 40 [.int .u8 y.n,.agg (stR s),.int .i64 0] (nsA (cellE y s).1 (cellE y s).2):=by
 have a1:=placed_spec y s.c s.f;have hp:plcd y s.c s.f= .ok y:=by unfold plcd;have:=hs.c1;have:=hs.c2;have:=hs.f1;have:=hs.f2;rw [if_neg (by omega),if_neg (by omega)]
 rw [hp] at a1;have a2:=cell_spec y s 0 hs;unfold cellE;generalize cellS y s 0=p1 at a2;obtain ⟨w1,b1⟩:=p1;obtain ⟨c,f,r,g,h⟩:=s;have r1:=hs.r1;have r2:=hs.r2;have g1:=hs.g1;have g2:=hs.g2;simp only at hh r1 r2 g1 g2;subst hh;refine pret_of ok mixed (A:=A40) 1 Tryz.func40 rfl ?_;cases b1
 all_goals (repeat' (first|exact rfl|((conv=>whnf);first|(refine ⟨_,a1,?_⟩)|(refine ⟨_,a2,?_⟩)|exact rfl|exact ⟨rfl,rfl⟩|refine go1 ?_|(intro ep)|(refine ifB ?_ ?_<;>intro hb<;>(try simp only [qs] at hb)<;>(try simp (disch:=omega) only [wrapI] at hb)<;>(try (exfalso;omega)))|fail)))

def A85b:Ann:=fun r=>match r with
 |4=>{ slots:=[(2,0)] }
 |5=>{ slots:=[(4,1),(5,2)] }
 |_=>{}
theorem mapped86_spec (l:List Evt) (hl:l.length≤100000) (hsp:∀e∈l,e.stops.length≤100000):
  HRet C.P 73 [evsA l,.fn (.func 74) [] []] (fun B eps=>.oslc (.d B) (eps 0) 6 0 l.length false) (fun B eps=>[.vec (eps 0) (l.map evR)]):=by
 refine hret_of ok mixed (A:=A85b) 3 Tryz.func73 rfl ?_ (fun B E eps=>⟨fun k=>eps k+E,rfl,by rw [List.map_cons,AObj.sh,sh_rows];rfl⟩)
 (repeat' (first|exact rfl|((conv=>whnf);first|exact rfl|refine ⟨by kernel_rfl,?_⟩|exact ⟨rfl,rfl⟩|refine go0 ?_|(intro ep)|fail)))
 (conv=>whnf);refine wk_lift 5 2 6 rfl ?_;intro e1;refine loopM ok mixed (A:=A85b) [1,5,8,9,10] [2] (S:={ x:Nat×Nat // x.1≤l.length })
  (fr:=fun s=>frOf 0 22 [(1,.fn (.func 74) [] []),(5,.oslc (.s 2) s.1.2 6 0 s.1.1 false),(8,evsA l),(9,.int .i64 l.length),(10,.int .i64 (s.1.1:Int))])
  (h:=fun s=>⟨[.hole,.hole,.vec s.1.2 ((l.take s.1.1).map evR)],[]⟩) (μ:=fun s=>l.length-s.1.1) ⟨(0,e1),by simp⟩ (by exact rfl) (by exact rfl) ?_
 rintro ⟨⟨k,ep⟩,hk⟩;simp only at hk;show aexR _ _ _ (frOf 0 22 [(1,.fn (.func 74) [] []),(5,.oslc (.s 2) ep 6 0 k false),(8,evsA l),(9,.int .i64 l.length),(10,.int .i64 (k:Int))]) ⟨[.hole,.hole,.vec ep ((l.take k).map evR)],[]⟩ _;(conv=>whnf);refine ifB (fun h1=>?_) (fun h1=>?_)
 ·simp only [decide_eq_true_eq] at h1;have hlt:k<l.length:=by omega
  have hc:=copied_spec l[k] (hsp _ (List.getElem_mem hlt))
  (repeat' (first|exact rfl|((conv=>whnf);first|refine ⟨_,hc,?_⟩|exact rfl|refine ⟨by kernel_rfl,?_⟩|exact ⟨rfl,rfl⟩|refine go0 ?_|(intro ep)|refine optS (mapR hlt) ?_|fail)))
  (conv=>whnf);have hT:List.take k ((l.take k).map evR)=(l.take k).map evR:=List.take_of_length_le (by simp;omega);have t4:(l.take (k+1)).map evR=(l.take k).map evR++[evR l[k]]:=by
   rw [List.take_add_one,List.getElem?_eq_getElem hlt];rw [List.map_append];rfl
  refine back_of ⟨(k+1,ep),by simp only;omega⟩ ⟨by (first|exact rfl|(simp (disch:=omega) only [wrapI];exact rfl)),?_,by simp only;omega⟩;simp only;rw [t4];refine Eq.trans (b:=⟨[.hole,.hole,.vec ep (List.take k (List.drop 0 ((l.take k).map evR))++[evR l[k]])],[]⟩) rfl ?_;rw [List.drop_zero,hT]
 ·simp only [decide_eq_false_iff_not] at h1;obtain rfl:k=l.length:=by omega
  rw [List.take_length]
  (repeat' ((conv=>whnf);first|refine ⟨rfl,?_⟩|(intro ep)|fail))
  exact ⟨fun _=>ep,rfl,rfl⟩
def appP (p q:Pc):Except Int Pc:=
 if chk p≠0 then .error (chk p) else if chk q≠0 then .error (chk q) else if p.ins≠q.ins then .error 11 else if 400<p.evs.length+q.evs.length then .error 2 else .ok ⟨p.ins,p.evs++q.evs⟩
theorem end_app {i:Ins} {ep n:Nat} {rows:List (List AV)} {ob:AObj} {l:List Evt} {h:Heap} (hr:rows=l.map evR) (hn:n=l.length) (hob:pureObj ob):
  (∀o∈[AObj.vec ep rows,ob],pureObj o)∧frzK h (fzV [.vec ep rows,ob] (.tup [.agg [crsA i.cs,intsA i.steps,.oslc (.d 0) ep 6 0 n false],.int .i64 0])) fun r' _=>r'.isPure2=true∧r'= .tup [pcA ⟨i,l⟩,.int .i64 0]:=by
 subst hr hn;refine ⟨fun o ho=>?_,?_⟩
 ·rcases List.mem_cons.1 ho with rfl|ho
  ·exact pure_map l fun x=>rfl
  ·obtain rfl:=List.mem_singleton.1 ho;exact hob
 ·have e:fzV [.vec ep (l.map evR),ob] (.tup [.agg [crsA i.cs,intsA i.steps,.oslc (.d 0) ep 6 0 l.length false],.int .i64 0])= .tup [pcA ⟨i,l⟩,.int .i64 0]:=by
   simp [fzV,fzC,pcA,crsA,intsA,evsA]
  rw [e];exact frzK_pure rfl ⟨rfl,rfl⟩
def A34:Ann:=fun r=>match r with
 |0=>{ slots:=[(0,0),(1,1),(2,2)] }
 |11=>{ slots:=[(9,3)],canon:=some [0,1,2,3,4,6,7,5,8,9,10,11,12] }
 |_=>{}
theorem append_spec (p q:Pc) (hp:p.Ok) (hq:q.Ok) (hs:p.Sm) (hs2:q.Sm):PRet C.P 34 [pcA p,pcA q] (pcE (appP p q)):=by
 have h1:=check_spec p hp;have h2:=check_spec q hq;have h3:=sameIn83_spec p.ins q.ins hs.two.cs hs.two.st;have h4:=copiedIn_spec p.ins hs.two.cs hs.two.st;have m1:=mapped86_spec p.evs hs.two.ev hs.two.sp;have m2:=mapped86_spec q.evs hs2.two.ev hs2.two.sp;have hle:=hs.ev;have hle2:=hs2.ev;have t1:=takeAll p.evs evR;have t2:=takeAll q.evs evR;unfold appP;have hn:∀{x:Pc},chk x=0→¬(chk x≠0):=fun h g=>g h;by_cases g1:chk p=0
 ·rw [if_neg (hn g1)];rw [g1] at h1;by_cases g2:chk q=0
  ·rw [if_neg (hn g2)];rw [g2] at h2;by_cases g3:p.ins=q.ins
   ·rw [if_neg (fun g=>g g3)];rw [decide_eq_true g3] at h3;by_cases g4:400<p.evs.length+q.evs.length
    ·rw [if_pos g4];refine pretD_of (okx [73] []) mixed (A:=A34) 4 Tryz.func34 rfl ?_
     (repeat' (first|exact rfl|((conv=>whnf);first|refine ⟨_,h1,?_⟩|refine ⟨_,h2,?_⟩|refine ⟨_,h3,?_⟩|exact rfl|refine ⟨by kernel_rfl,?_⟩|exact ⟨rfl,rfl⟩|refine go0 ?_|(intro ep)|refine ⟨fun o ho=>(List.not_mem_nil (a:=o) ho).elim,?_⟩|(refine ifB ?_ ?_<;>intro hb<;>(try simp only [qs] at hb)<;>(try simp (disch:=omega) only [wrapI] at hb)<;>(try (exfalso;omega)))|fail)))
    ·rw [if_neg g4];refine pretD_of (okx [73] []) mixed (A:=A34) 4 Tryz.func34 rfl ?_
     (repeat' (first|exact rfl|((conv=>whnf);first|refine ⟨_,h1,?_⟩|refine ⟨_,h2,?_⟩|refine ⟨_,h3,?_⟩|refine ⟨_,h4,?_⟩|refine ⟨_,_,m1,fun eps=>?_⟩|refine ⟨_,_,m2,fun eps=>?_⟩|exact rfl|refine ⟨by kernel_rfl,?_⟩|exact ⟨rfl,rfl⟩|refine go0 ?_|(intro ep)|(refine ifB ?_ ?_<;>intro hb<;>(try simp only [qs] at hb)<;>(try simp (disch:=omega) only [wrapI] at hb)<;>(try (exfalso;omega)))|fail)))
     (conv=>whnf);refine end_app (l:=p.evs++q.evs) ?_ ?_ ?_
     ·rw [t1,t2,List.map_append]
     ·rw [t2];simp
     ·exact pure_map q.evs fun x=>rfl
   ·rw [if_pos g3];rw [decide_eq_false g3] at h3;refine pretD_of (okx [73] []) mixed (A:=A34) 4 Tryz.func34 rfl ?_
    (repeat' (first|exact rfl|((conv=>whnf);first|refine ⟨_,h1,?_⟩|refine ⟨_,h2,?_⟩|refine ⟨_,h3,?_⟩|exact rfl|refine ⟨by kernel_rfl,?_⟩|exact ⟨rfl,rfl⟩|refine go0 ?_|(intro ep)|refine ⟨fun o ho=>(List.not_mem_nil (a:=o) ho).elim,?_⟩|(refine ifB ?_ ?_<;>intro hb<;>(try simp only [qs] at hb)<;>(try simp (disch:=omega) only [wrapI] at hb)<;>(try (exfalso;omega)))|fail)))
  ·rw [if_pos g2];refine pretD_of (okx [73] []) mixed (A:=A34) 4 Tryz.func34 rfl ?_
   (repeat' (first|exact rfl|((conv=>whnf);first|refine ⟨_,h1,?_⟩|refine ⟨_,h2,?_⟩|exact rfl|refine ⟨by kernel_rfl,?_⟩|exact ⟨rfl,rfl⟩|refine go0 ?_|(intro ep)|refine ⟨fun o ho=>(List.not_mem_nil (a:=o) ho).elim,?_⟩|(refine ifB ?_ ?_<;>intro hb<;>(try simp only [qs] at hb)<;>(try simp (disch:=omega) only [wrapI] at hb)<;>(try (exfalso;omega)))|fail)))
 ·rw [if_pos g1];refine pretD_of (okx [73] []) mixed (A:=A34) 4 Tryz.func34 rfl ?_
  (repeat' (first|exact rfl|((conv=>whnf);first|refine ⟨_,h1,?_⟩|exact rfl|refine ⟨by kernel_rfl,?_⟩|exact ⟨rfl,rfl⟩|refine go0 ?_|(intro ep)|refine ⟨fun o ho=>(List.not_mem_nil (a:=o) ho).elim,?_⟩|(refine ifB ?_ ?_<;>intro hb<;>(try simp only [qs] at hb)<;>(try simp (disch:=omega) only [wrapI] at hb)<;>(try (exfalso;omega)))|fail)))

structure Lck where
 e:Int
 c:Int
 w:Int
 deriving DecidableEq
def lkR (l:Lck):List AV:=[.int .i64 l.e,.int .i64 l.c,.int .i64 l.w]
def lksA (l:List Lck):AV:=.lslc 3 (l.map lkR) 0 l.length false
def ocA (i ep:Nat) (l:List Lck):AV:=match l with
 | []=>.nils
 |a::r=>.oslc (.s i) ep 3 0 (r.length+1) false
def ocO (ep:Nat) (l:List Lck):AObj:=match l with
 | []=>.hole
 |a::r=>.vec ep ((a::r).map lkR)
def lk1 (b:Bool) (e c w:Int):List Lck:=if b=true then [] else [⟨e,c,w⟩]
def A101:Ann:=fun r=>match r with
 |1=>{ slots:=[(5,6),(6,5)] }
 |_=>{}
theorem say_acalls (o0 o3 o4:AObj) (e1 e2 e5:Nat) (ev c w:Int) (b:Bool) (l:List Lck) (dy:List AObj) (hl:l.length≤100000) {K:AV→Heap→Prop}
  (hk:∀e5',K (.tup []) ⟨[o0,.vec e1 [[.int .i64 ev]],.vec e2 [[ocA 5 e5' (l++lk1 b ev c w)]],o3,o4,ocO e5' (l++lk1 b ev c w)],dy⟩):
  ACalls C.P 101 [.bool b,.int .i64 c,.int .i64 w,.optr (.s 2) e2 1 0 0,.optr (.s 1) e1 1 0 0] ⟨[o0,.vec e1 [[.int .i64 ev]],.vec e2 [[ocA 5 e5 l]],o3,o4,ocO e5 l],dy⟩ fun r h'=>K r (h'.trunc 6):=by
 cases b with
 |true=>
  have hk:=hk e5;unfold lk1 at hk;rw [if_pos rfl,List.append_nil] at hk;refine fn_of ok mixed (A:=A101) 1 Tryz.func101 rfl ?_
  (repeat' (first|exact hk|((conv=>whnf);first|exact rfl|exact ⟨rfl,rfl⟩|refine go1 ?_|(intro ep)|(refine ifB ?_ ?_<;>intro hb<;>(try simp only [qs] at hb)<;>(try simp (disch:=omega) only [wrapI] at hb)<;>(try (exfalso;omega)))|fail)))
 |false=>
  unfold lk1 at hk;simp only [Bool.false_eq_true,if_false] at hk;refine fn_of ok mixed (A:=A101) 1 Tryz.func101 rfl ?_;cases l with
  |nil=>
   (repeat' (first|exact hk _|((conv=>whnf);first|exact rfl|exact ⟨rfl,rfl⟩|refine go1 ?_|(intro ep)|(refine ifB ?_ ?_<;>intro hb<;>(try simp only [qs] at hb)<;>(try simp (disch:=omega) only [wrapI] at hb)<;>(try (exfalso;omega)))|fail)))
  |cons a r=>
   simp only [List.length_cons] at hl
   (repeat' (first|exact hk _|((conv=>whnf);first|(refine ⟨(by show (r.length+1+1) * 24≤_;omega),?_⟩)|exact rfl|exact ⟨rfl,rfl⟩|refine go1 ?_|(intro ep)|(refine ifB ?_ ?_<;>intro hb<;>(try simp only [qs] at hb)<;>(try simp (disch:=omega) only [wrapI] at hb)<;>(try (exfalso;omega)))|fail)))
   (conv=>whnf);have e6:List.take (r.length+1) ((a::r).map lkR)=(a::r).map lkR:=List.take_of_length_le (by simp);have h2:K (.tup []) ⟨[o0,.vec e1 [[.int .i64 ev]],.vec e2 [[.oslc (.s 5) ep 3 0 (r.length+1+1) false]],o3,o4,.vec ep (List.take (r.length+1) ((a::r).map lkR)++[[.int .i64 ev,.int .i64 c,.int .i64 w]])],dy⟩:=by
    have h:=hk ep;have h7:ocA 5 ep (a::r++[⟨ev,c,w⟩])= .oslc (.s 5) ep 3 0 (r.length+1+1) false:=by simp [ocA]
    have h8:ocO ep (a::r++[⟨ev,c,w⟩])= .vec ep ((a::r).map lkR++[[.int .i64 ev,.int .i64 c,.int .i64 w]]):=by simp [ocO,lkR]
    rw [h7,h8] at h;rw [e6];exact h
   exact h2
def lackSt (y:Sy) (evs:List Evt) (i:Int) (s:Stp):List Lck:=
 if (symS y s.c s.f).2=true then lk1 (rgtS y s.r).2 i s.c 2++lk1 (grcS y s.g).2 i s.c 3++lk1 (hldS y s.h (longest evs i s.c)).2 i s.c 4 else [⟨i,s.c,1⟩]
def lackHd (y:Sy) (i:Int) (e:Evt):List Lck:=
 (if e.v=0 then lk1 (hasS y 6) i 0 6 else [])++(if e.t=true then lk1 (hasS y 5) i 0 5 else [])++(if e.tie=true then lk1 (hasS y 7) i 0 7 else if (e.stops.length:Int)=0 then lk1 (hasS y 8) i 0 8 else [])
def lackEv (y:Sy) (evs:List Evt) (i:Int) (e:Evt):List Lck:=lackHd y i e++e.stops.flatMap (lackSt y evs i)
theorem hld_nil (y : Sy) : NilOk Tryz.prog y.t "theorbo/notation.hold" := by
 cases y
 ·exact ⟨fun w=>by kernel_rfl⟩
 ·exact ⟨fun w=>by kernel_rfl⟩
 ·exact ⟨fun w=>by kernel_rfl⟩
 ·exact ⟨fun w=>by kernel_rfl⟩
end Go.Ab.V
