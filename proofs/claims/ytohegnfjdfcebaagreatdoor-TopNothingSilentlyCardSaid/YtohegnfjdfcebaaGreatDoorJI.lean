/-
  What is proved here serves the law's text: each part says its own claim and its conditions. No condition is left open.
-/
import Derived.Test.YtohegnfjdfcebaaGreatDoorJB
set_option maxHeartbeats 32000000
set_option maxRecDepth 100000
set_option linter.unusedSimpArgs false
set_option linter.unusedVariables false

namespace Go.Ab.V
open Go.Proofs
def fifL:List Int:=[0,2,4,-1,1,3,5]
def basL:List Int:=[0,2,4,5,7,9,11]
def fif (l:Nat):Int:=fifL.getD l 0
def bas (l:Nat):Int:=basL.getD l 0
def sndR (l:Nat) (a o:Int):Int:=12 * (o+1)+bas l+a
def sndE (l:Nat) (a o:Int):Int:=if a < -1∨1<a∨o < -1∨9<o then 10 else if sndR l a o<0∨127<sndR l a o then 10 else 0
def sndV (l:Nat) (a o:Int):Int:=if sndE l a o=0 then sndR l a o else 0
def spA (l:Nat) (a o:Int):AV:=.agg [.int .i64 l,.int .i64 a,.int .i64 o]
theorem seven7 {l:Nat} (h:l≤6):l=0∨l=1∨l=2∨l=3∨l=4∨l=5∨l=6:=by omega
def A94:Ann:=fun r=>match r with
 |0=>{ slots:=[(0,0)] }
 |_=>{}
theorem snd_spec (l:Nat) (a o:Int) (hl:l≤6):PRet C.P 94 [spA l a o] (.tup [.int .i64 (sndV l a o),.int .i64 (sndE l a o)]):=by
 refine pret_of ok mixed (A:=A94) 1 Tryz.func94 rfl ?_;unfold sndV sndE;by_cases hb:a < -1∨1<a∨o < -1∨9<o
 ·rw [if_pos hb]
  rcases seven7 hl with rfl|rfl|rfl|rfl|rfl|rfl|rfl
  all_goals (repeat' (first|exact rfl|((conv=>whnf);first|exact rfl|exact ⟨rfl,rfl⟩|refine go1 ?_|(intro ep)|(refine ifB ?_ ?_<;>intro hb<;>(try simp only [qs] at hb)<;>(try simp (disch:=omega) only [wrapI] at hb)<;>(try (exfalso;omega)))|fail)))
 ·rw [if_neg hb]
  rcases seven7 hl with rfl|rfl|rfl|rfl|rfl|rfl|rfl
  all_goals (repeat' (first|exact rfl|((conv=>whnf);first|exact rfl|exact ⟨rfl,rfl⟩|refine go1 ?_|(intro ep)|(refine ifB (fun hc=>?_) (fun hc=>?_)<;>(try simp only [decide_eq_true_eq,decide_eq_false_iff_not] at hc)<;>(try simp (disch:=omega) only [wrapI] at hc)<;>(try (exfalso;omega))))))
  all_goals (unfold sndR bas basL)
  all_goals (try simp (disch:=omega) only [wrapI])
  all_goals (simp only [List.getD_cons_zero,List.getD_cons_succ])
  all_goals (simp (disch:=first|omega|trivial) only [if_pos,if_neg])
  all_goals (simp only [if_true])

def spO (l:Nat) (a p:Int):Int:=(p-a-bas l+12) / 12-2
def spOk (l:Nat) (a p:Int):Bool:=!decide (fif l+7 * a < -3)&& !decide (8<fif l+7 * a)&&decide (sndE l a (spO l a p)=0)&&decide (sndV l a (spO l a p)=p)
def spK (p:Int) (l:Nat):Nat→Nat→Option (Nat×Int×Int)
 |0,_=>none
 |n+1,k=>if spOk l ((k:Int)-1) p=true then some (l,(k:Int)-1,spO l ((k:Int)-1) p) else spK p l n (k+1)
def spL (p:Int):Nat→Nat→Option (Nat×Int×Int)
 |0,_=>none
 |n+1,l=>match spK p l 3 0 with
  |some r=>some r
  |none=>spL p n (l+1)
def spell (p:Int):Option (Nat×Int×Int):=if p<0∨127<p then none else spL p 7 0
def spR:Option (Nat×Int×Int)→AV
 |some r=>.tup [spA r.1 r.2.1 r.2.2,.int .i64 0]
 |none=>.tup [spA 0 0 0,.int .i64 10]
theorem spOk_eq {l:Nat} {a p W:Int} (hW:W=spO l a p):spOk l a p=(!decide (fif l+7 * a < -3)&& !decide (8<fif l+7 * a)&&decide (sndE l a W=0)&&decide (sndV l a W=p)):=by
 subst hW;rfl
theorem spK_hit {p:Int} {l k:Nat} {Q:Option (Nat×Int×Int)} (hk:k<3) {W:Int} (h1:¬fif l+7 * ((k:Int)-1) < -3) (h2:¬8<fif l+7 * ((k:Int)-1)) (h3:sndE l ((k:Int)-1) W=0) (h4:sndV l ((k:Int)-1) W=p)
  (hW:W=spO l ((k:Int)-1) p) (hq:spK p l (3-k) k=Q):Q=some (l,(k:Int)-1,W):=by
 obtain ⟨m,hm⟩:∃m,3-k=m+1:=⟨2-k,by omega⟩;rw [hm,spK,if_pos (by rw [spOk_eq hW,decide_eq_false h1,decide_eq_false h2,decide_eq_true h3,decide_eq_true h4];rfl),←hW] at hq;exact hq.symm
theorem spK_miss {p:Int} {l k:Nat} {Q:Option (Nat×Int×Int)} (hk:k<3) (h:spOk l ((k:Int)-1) p=false) (hq:spK p l (3-k) k=Q):spK p l (3-(k+1)) (k+1)=Q:=by
 obtain ⟨m,hm⟩:∃m,3-k=m+1:=⟨2-k,by omega⟩;rw [hm,spK,h] at hq;rw [show 3-(k+1)=m by omega];exact hq
theorem spK_out {p:Int} {l k:Nat} {Q:Option (Nat×Int×Int)} (hk:k<3) (h:(decide (fif l+7 * ((k:Int)-1) < -3)||decide (8<fif l+7 * ((k:Int)-1)))=true) (hq:spK p l (3-k) k=Q):spK p l (3-(k+1)) (k+1)=Q:=by
 refine spK_miss hk ?_ hq;rw [Bool.or_eq_true] at h
 rcases h with h|h<;>simp [spOk,h]<;>omega
theorem spK_e {p:Int} {l k:Nat} {Q:Option (Nat×Int×Int)} (hk:k<3) {W:Int} (h3:¬sndE l ((k:Int)-1) W=0) (hW:W=spO l ((k:Int)-1) p) (hq:spK p l (3-k) k=Q):spK p l (3-(k+1)) (k+1)=Q:=by
 refine spK_miss hk ?_ hq;rw [spOk_eq hW,decide_eq_false h3];simp
theorem spK_v {p:Int} {l k:Nat} {Q:Option (Nat×Int×Int)} (hk:k<3) {W:Int} (h3:¬sndV l ((k:Int)-1) W=p) (hW:W=spO l ((k:Int)-1) p) (hq:spK p l (3-k) k=Q):spK p l (3-(k+1)) (k+1)=Q:=by
 refine spK_miss hk ?_ hq;rw [spOk_eq hW,decide_eq_false h3];simp
theorem tdE {x:Int} (h:0≤x):x.tdiv 12=x / 12:=Int.tdiv_eq_ediv_of_nonneg h
def A81:Ann:=fun r=>match r with
 |0=>{ slots:=[(0,0)] }
 |14=>{ slots:=[(6,1)] }
 |_=>{}
theorem spell_spec (p:Int):PRet C.P 81 [.int .i64 p,.int .i64 0] (spR (spell p)):=by
 obtain ⟨R,hR⟩:∃R,R=spell p:=⟨_,rfl⟩;rw [←hR];refine pret_of ok mixed (A:=A81) 2 Tryz.func81 rfl ?_;by_cases hp:p<0∨127<p
 ·have hn:R=none:=by rw [hR];unfold spell;rw [if_pos hp]
  subst hn
  (repeat' (first|exact rfl|((conv=>whnf);first|exact rfl|exact ⟨rfl,rfl⟩|refine go1 ?_|(intro ep)|(refine ifB (fun hc=>?_) (fun hc=>?_)<;>(try simp only [decide_eq_true_eq,decide_eq_false_iff_not] at hc)<;>(try (exfalso;omega))))))
 rw [show spell p=spL p 7 0 by unfold spell;rw [if_neg hp]] at hR
 (repeat' (first|exact rfl|((conv=>whnf);first|exact rfl|exact ⟨rfl,rfl⟩|refine go1 ?_|(intro ep)|(refine ifB (fun hc=>?_) (fun hc=>?_)<;>(try simp only [decide_eq_true_eq,decide_eq_false_iff_not] at hc)<;>(try (exfalso;omega))))))
 obtain ⟨e0,he⟩:∃e0,e0=ep:=⟨_,rfl⟩;subst he;(conv=>whnf);refine loopY ok mixed (A:=A81) [0,1,4,27] [0] (S:={ l:Nat // l≤7∧spL p (7-l) l=R })
  (fr:=fun s=>frOf 0 79 [(0,.int .i64 p),(1,.int .i64 0),(4,.optr (.s 0) e0 3 0 0),(27,.int .i64 (s.1:Int))])
  (h:=fun s=>⟨[.vec e0 [[.int .i64 0,.int .i64 0,.int .i64 0]],.hole],[]⟩) (μ:=fun s=>7-s.1) ⟨0,by omega,hR.symm⟩ ?_ ?_
  [4] [0] (S':={ k:Nat // R=none }) (X:=fun _=>0) (frX:=fun s=>frOf 0 79 [(4,.optr (.s 0) e0 3 0 0)]) (hX:=fun s=>⟨[.vec e0 [[.int .i64 0,.int .i64 0,.int .i64 0]],.hole],[]⟩)
  [4,5] [0] (S2:={ r:Nat×Int×Int // R=some r }) (frR:=fun s=>frOf 0 79 [(4,.optr (.s 0) e0 3 0 0),(5,.int .i64 0)]) (hR:=fun s=>⟨[.vec e0 [[.int .i64 s.1.1,.int .i64 s.1.2.1,.int .i64 s.1.2.2]],.hole],[]⟩) ?_ ?_ ?_
 ·exact rfl
 ·exact rfl
 ·rintro ⟨l,hl,hu⟩;show aexR _ _ _ (frOf 0 79 [(0,.int .i64 p),(1,.int .i64 0),(4,.optr (.s 0) e0 3 0 0),(27,.int .i64 (l:Int))]) ⟨[.vec e0 [[.int .i64 0,.int .i64 0,.int .i64 0]],.hole],[]⟩ _;(conv=>whnf);refine ifB (fun g1=>?_) (fun g1=>?_)
  ·simp only [decide_eq_true_eq] at g1;obtain ⟨m,hm⟩:∃m,7-l=m+1:=⟨6-l,by omega⟩;rw [hm,spL] at hu;have hm2:m=7-(l+1):=by omega
   have hl6:l≤6:=by omega
   obtain ⟨Q,hQ⟩:∃Q,Q=spK p l 3 0:=⟨_,rfl⟩;rw [←hQ] at hu
   (repeat' (first|exact rfl|((conv=>whnf);first|exact rfl|exact ⟨rfl,rfl⟩|refine go1 ?_|(intro ep)|fail)))
   (conv=>whnf);refine loopY ok mixed (A:=A81) [0,1,4,6,7,27] [0] (S:={ k:Nat // k≤3∧spK p l (3-k) k=Q })
    (fr:=fun s=>frOf 0 79 [(0,.int .i64 p),(1,.int .i64 0),(4,.optr (.s 0) e0 3 0 0),(6,.int .i64 (l:Int)),(7,.int .i64 ((s.1:Int)-1)),(27,.int .i64 (l:Int))])
    (h:=fun s=>⟨[.vec e0 [[.int .i64 0,.int .i64 0,.int .i64 0]],.hole],[]⟩) (μ:=fun s=>3-s.1) ⟨0,by omega,hQ.symm⟩ ?_ ?_
    [0,1,4,27] [0] (S':={ k:Nat // Q=none }) (X:=fun _=>2) (frX:=fun s=>frOf 0 79 [(0,.int .i64 p),(1,.int .i64 0),(4,.optr (.s 0) e0 3 0 0),(27,.int .i64 (l:Int))]) (hX:=fun s=>⟨[.vec e0 [[.int .i64 0,.int .i64 0,.int .i64 0]],.hole],[]⟩)
    [4,5] [0] (S2:={ r:Nat×Int×Int // Q=some r }) (frR:=fun s=>frOf 0 79 [(4,.optr (.s 0) e0 3 0 0),(5,.int .i64 0)]) (hR:=fun s=>⟨[.vec e0 [[.int .i64 s.1.1,.int .i64 s.1.2.1,.int .i64 s.1.2.2]],.hole],[]⟩) ?_ ?_ ?_
   ·exact rfl
   ·exact rfl
   ·rintro ⟨k,hk,hq⟩;show aexR _ _ _ (frOf 0 79 [(0,.int .i64 p),(1,.int .i64 0),(4,.optr (.s 0) e0 3 0 0),(6,.int .i64 (l:Int)),(7,.int .i64 ((k:Int)-1)),(27,.int .i64 (l:Int))]) ⟨[.vec e0 [[.int .i64 0,.int .i64 0,.int .i64 0]],.hole],[]⟩ _;by_cases hk3:k=3
    ·subst hk3
     (repeat' (first|exact rfl|((conv=>whnf);first|exact rfl|exact ⟨rfl,rfl⟩|refine go1 ?_|(intro ep)|fail)))
     all_goals (conv=>whnf)
     all_goals exact back_of ⟨0,hq.symm⟩ ⟨rfl,rfl,rfl⟩
    ·skip
     have hks:k=0∨k=1∨k=2:=by omega
     rcases hks with h|h|h<;>subst h<;>rcases seven7 hl6 with h|h|h|h|h|h|h<;>subst h
     all_goals (repeat' (first|exact rfl|((conv=>whnf);first|(refine ⟨_,snd_spec _ _ _ hl6,?_⟩)|exact rfl|exact ⟨rfl,rfl⟩|refine go1 ?_|(intro ep)|(refine ifB ?_ ?_<;>intro hb<;>(try simp only [qs] at hb)<;>(try simp (disch:=omega) only [wrapI] at hb)<;>(try (exfalso;omega)))|fail)))
     all_goals (conv=>whnf)
     all_goals first
      |exact back_of ⟨_,by decide,spK_out (by decide) (by decide) hq⟩ ⟨by (first|exact rfl|(simp (disch:=omega) only [wrapI];exact rfl)),rfl,by simp only;omega⟩
      |(rename_i h0;exact back_of ⟨(_,_,_),spK_hit (by decide) (by decide) (by decide) h0 hb (by unfold spO;simp (disch:=omega) only [wrapI,tdE];rfl) hq⟩ ⟨rfl,by (simp (disch:=omega) only [wrapI];exact rfl)⟩)
      |(exact back_of ⟨_,by decide,spK_v (by decide) hb (by unfold spO;simp (disch:=omega) only [wrapI,tdE];rfl) hq⟩ ⟨by (first|exact rfl|(simp (disch:=omega) only [wrapI];exact rfl)),rfl,by simp only;omega⟩)
      |(exact back_of ⟨_,by decide,spK_e (by decide) hb (by unfold spO;simp (disch:=omega) only [wrapI,tdE];rfl) hq⟩ ⟨by (first|exact rfl|(simp (disch:=omega) only [wrapI];exact rfl)),rfl,by simp only;omega⟩)
   ·rintro ⟨r,hq⟩;rw [hq] at hu;(conv=>whnf);exact back_of ⟨r,hu.symm⟩ ⟨rfl,rfl⟩
   ·rintro ⟨_,hq⟩;rw [hq] at hu
    (repeat' (first|exact rfl|((conv=>whnf);first|exact rfl|exact ⟨rfl,rfl⟩|refine go1 ?_|(intro ep)|fail)))
    all_goals (conv=>whnf)
    all_goals exact back_of ⟨l+1,by omega,by rw [←hm2];exact hu⟩ ⟨by (first|exact rfl|(simp (disch:=omega) only [wrapI];exact rfl)),rfl,by simp only;omega⟩
  ·simp only [decide_eq_false_iff_not] at g1;have hR0:R=none:=by
    rw [←hu];have:7-l=0:=by omega
    rw [this];rfl
   (repeat' (first|exact rfl|((conv=>whnf);first|exact rfl|exact ⟨rfl,rfl⟩|refine go1 ?_|(intro ep)|fail)))
   all_goals (conv=>whnf)
   all_goals exact back_of ⟨0,hR0⟩ ⟨rfl,rfl,rfl⟩
 ·rintro ⟨r,hp⟩;subst hp
  (repeat' (first|exact rfl|((conv=>whnf);first|exact rfl|exact ⟨rfl,rfl⟩|refine go1 ?_|(intro ep)|fail)))
 ·rintro ⟨_,hp⟩;subst hp
  (repeat' (first|exact rfl|((conv=>whnf);first|exact rfl|exact ⟨rfl,rfl⟩|refine go1 ?_|(intro ep)|fail)))

def letN:List UInt8:=[67,68,69,70,71,65,66]
def sgnT (a:Int):List UInt8:=if a=1 then [35] else if a= -1 then [98] else []
def nmT (l:Nat) (a o:Int):List UInt8:=((letN.drop l).take 1++sgnT a)++itoa3 o
def A82:Ann:=fun r=>match r with
 |0=>{ slots:=[(0,0)] }
 |_=>{}
theorem name_spec (l:Nat) (a o:Int) (hl:l≤6) (hs:sndE l a o=0):PRet C.P 82 [spA l a o] (.tup [.str (nmT l a o),.int .i64 0]):=by
 have hn:=snd_spec l a o hl;rw [hs] at hn;have hr:¬(a < -1∨1<a∨o < -1∨9<o):=by
  intro h;unfold sndE at hs;rw [if_pos h] at hs;exact absurd hs (by decide)
 have hlen:=itoa3_len o;have hi:=itoa_spec o (by omega) (by omega);obtain ⟨w,hw⟩:∃w,w=nmT l a o:=⟨_,rfl⟩;rw [←hw];refine pret_of ok mixed (A:=A82) 1 Tryz.func82 rfl ?_;have ha:a=0∨a=1∨a= -1:=by omega
 rcases ha with rfl|rfl|rfl<;>rcases seven7 hl with rfl|rfl|rfl|rfl|rfl|rfl|rfl
 all_goals (repeat' (first|exact rfl|((conv=>whnf);first|(refine ⟨_,hn,?_⟩)|(refine ⟨_,hi,?_⟩)|exact rfl|exact ⟨rfl,rfl⟩|refine go1 ?_|(intro ep)|(refine ⟨(by decide:_∧_∧_),?_⟩)|(refine ⟨by decide,?_⟩)|(refine ⟨Nat.le_trans (Nat.add_le_add (show _≤10 from by decide) hlen) (show 10+4≤strMax from by decide),?_⟩)|(refine ifB ?_ ?_<;>intro hb<;>(try simp only [qs] at hb)<;>(try simp (disch:=omega) only [wrapI] at hb)<;>(try (exfalso;omega)))|fail)))
 all_goals (subst hw;exact rfl)

def num1 (x:Int):Int×Bool:=if x<48∨57<x then (0,false) else (x-48,true)
def num2 (x y:Int):Int×Bool:=if x≤48∨57<x∨y<48∨57<y then (0,false) else (10 * (x-48)+(y-48),true)
def num3 (x y z:Int):Int×Bool:=if x≤48∨57<x∨y<48∨57<y∨z<48∨57<z then (0,false) else (10 * (10 * (x-48)+(y-48))+(z-48),true)
def numS:List UInt8→Int×Bool
 | [a]=>num1 a.toNat
 | [a,b]=>num2 a.toNat b.toNat
 | [a,b,c]=>num3 a.toNat b.toNat c.toNat
 |_=>(0,false)
theorem numS_out {t:List UInt8} (h:t.length<1∨3<t.length):numS t=(0,false):=by
 match t,h with
 | [],_=>rfl
 |a::b::c::d::r,_=>rfl
 | [a],h=>exact absurd h (by simp)
 | [a,b],h=>exact absurd h (by simp)
 | [a,b,c],h=>exact absurd h (by simp)
theorem u8b (a:UInt8):0≤(a.toNat:Int)∧(a.toNat:Int)≤255:=⟨by omega,by have:=a.toNat_lt;omega⟩
def ibA (p:Int×Bool):AV:=.tup [.int .i64 p.1,.bool p.2]
theorem u8_in {x:Int} (h0:0≤x) (h1:x≤255):IntKind.u8.wrap x=x:=by
 show x % 256=x;omega
def A55:Ann:=fun _=>{}
theorem number_spec (t:List UInt8):PRet C.P 55 [.str t] (ibA (numS t)):=by
 obtain ⟨R,hR⟩:∃R,R=numS t:=⟨_,rfl⟩;rw [←hR];refine pret_of ok mixed (A:=A55) 0 Tryz.func55 rfl ?_;by_cases h1:t.length<1∨3<t.length
 ·rw [numS_out h1] at hR;subst hR
  (repeat' (first|exact rfl|((conv=>whnf);first|exact rfl|exact ⟨rfl,rfl⟩|refine go1 ?_|(intro ep)|(refine ifB ?_ ?_<;>intro hb<;>(try simp only [qs] at hb)<;>(try simp (disch:=omega) only [wrapI] at hb)<;>(try (exfalso;omega)))|fail)))
 match t,h1,hR with
 | [a],h1,hR=>
  have ha:=u8b a;have e0:nthB [a] (Int.toNat 0)=(a.toNat:Int):=rfl;have hR:R=num1 a.toNat:=hR;have hl:([a].length:Int)=1:=rfl
  (repeat' (first|exact rfl|((conv=>whnf);first|exact rfl|exact ⟨rfl,rfl⟩|refine go1 ?_|(intro ep)|(refine loopU ok mixed (A:=A55) 4 ?_)|(refine ifB ?_ ?_<;>intro hb<;>(try simp only [qs] at hb)<;>(try simp (disch:=omega) only [wrapI] at hb)<;>(try (exfalso;omega)))|fail)))
  all_goals (rw [hR,num1])
  all_goals (simp only [e0] at *)
  all_goals (try simp (disch:=omega) only [wrapI,u8_in])
  all_goals first
   |(refine absurd ?_ (by assumption:¬[a]=[48]);have:a=48:=UInt8.toNat_inj.1 (Int.ofNat.inj (by assumption));rw [this];done)
   |(rw [if_pos (by omega)];done)
   |(rw [if_pos (by omega)];exact rfl)
   |(rw [if_neg (by omega)];simp only [ibA];congr 3;omega)
 | [a,b],h1,hR=>
  have ha:=u8b a;have hb:=u8b b;have e0:nthB [a,b] (Int.toNat 0)=(a.toNat:Int):=rfl;have e1:nthB [a,b] (IntKind.i64.wrap (0+1)).toNat=(b.toNat:Int):=rfl;have e2:nthB [a,b] ((0:Int)+1).toNat=(b.toNat:Int):=rfl;have hR:R=num2 a.toNat b.toNat:=hR;have hl:([a,b].length:Int)=2:=rfl;have hne:¬[a,b]=[48]:=by simp
  (repeat' (first|exact rfl|(exact absurd (by assumption) hne)|((conv=>whnf);first|exact rfl|exact ⟨rfl,rfl⟩|refine go1 ?_|(intro ep)|(refine loopU ok mixed (A:=A55) 4 ?_)|(refine ifB ?_ ?_<;>intro hb<;>(try simp only [qs] at hb)<;>(try simp (disch:=omega) only [wrapI] at hb)<;>(try (exfalso;omega)))|fail)))
  all_goals (rw [hR,num2])
  all_goals (simp only [e0,e1,e2] at *)
  all_goals (try simp (disch:=omega) only [wrapI,u8_in])
  all_goals first
   |(rw [if_pos (by omega)];done)
   |(rw [if_pos (by omega)];exact rfl)
   |(rw [if_neg (by omega)];simp only [ibA];congr 3;omega)
 | [a,b,c],h1,hR=>
  have ha:=u8b a;have hb:=u8b b;have hc:=u8b c;have e0:nthB [a,b,c] (Int.toNat 0)=(a.toNat:Int):=rfl;have e1:nthB [a,b,c] (IntKind.i64.wrap (0+1)).toNat=(b.toNat:Int):=rfl;have e2:nthB [a,b,c] ((0:Int)+1).toNat=(b.toNat:Int):=rfl;have e3:nthB [a,b,c] (IntKind.i64.wrap (IntKind.i64.wrap (0+1)+1)).toNat=(c.toNat:Int):=rfl;have e4:nthB [a,b,c] ((0:Int)+1+1).toNat=(c.toNat:Int):=rfl;have e5:nthB [a,b,c] (IntKind.i64.wrap ((0:Int)+1)+1).toNat=(c.toNat:Int):=rfl;have e6:nthB [a,b,c] (IntKind.i64.wrap ((0:Int)+1+1)).toNat=(c.toNat:Int):=rfl;have hR:R=num3 a.toNat b.toNat c.toNat:=hR;have hl:([a,b,c].length:Int)=3:=rfl;have hne:¬[a,b,c]=[48]:=by simp
  (repeat' (first|exact rfl|(exact absurd (by assumption) hne)|((conv=>whnf);first|exact rfl|exact ⟨rfl,rfl⟩|refine go1 ?_|(intro ep)|(refine loopU ok mixed (A:=A55) 4 ?_)|(refine ifB ?_ ?_<;>intro hb<;>(try simp only [qs] at hb)<;>(try simp (disch:=omega) only [wrapI] at hb)<;>(try (exfalso;omega)))|fail)))
  all_goals (rw [hR,num3])
  all_goals (simp only [e0,e1,e2,e3,e4,e5,e6] at *)
  all_goals (try simp (disch:=omega) only [wrapI,u8_in])
  all_goals first
   |(rw [if_pos (by omega)];done)
   |(rw [if_pos (by omega)];exact rfl)
   |(rw [if_neg (by omega)];simp only [ibA];congr 3;omega)
 | [],h1,hR=>exact absurd h1 (by simp)
 |a::b::c::d::r,h1,hR=>exact absurd h1 (by simp)
end Go.Ab.V

namespace Go.Ab.V
open Go.Proofs Go.RowKit
def cutB (c:UInt8):List UInt8→List UInt8×List UInt8×Bool
 | []=>([],[],false)
 |x::r=>if x=c then ([],r,true) else if (cutB c r).2.2=true then (x::(cutB c r).1,(cutB c r).2.1,true) else (x::r,[],false)
theorem cutB_no {c:UInt8}:∀{l:List UInt8},c∉l→cutB c l=(l,[],false)
 | [],_=>rfl
 |x::r,h=>by
  have h1:¬x=c:=fun e=>h (by rw [e];exact List.mem_cons_self);have h2:c∉r:=fun e=>h (List.mem_cons_of_mem _ e);rw [cutB,if_neg h1,cutB_no h2];rfl
theorem cutB_at {c:UInt8}:∀{a b:List UInt8},c∉a→cutB c (a++c::b)=(a,b,true)
 | [],b,_=>by show cutB c (c::b)=_;rw [cutB,if_pos rfl]
 |x::r,b,h=>by
  have h1:¬x=c:=fun e=>h (by rw [e];exact List.mem_cons_self);have h2:c∉r:=fun e=>h (List.mem_cons_of_mem _ e);show cutB c (x::(r++c::b))=_;rw [cutB,if_neg h1,cutB_at h2];rfl
def ssbA (p:List UInt8×List UInt8×Bool):AV:=.tup [.str p.1,.str p.2.1,.bool p.2.2]
theorem idx_spec (s:List UInt8) (c:UInt8):PRet C.P 89 [.str s,.str [c]] (.int .i64 (Lib.indexByte s c)):=by
 refine pret_lib rfl fun σ w vs _ hv=>?_;obtain ⟨v,u,rfl,h1,h2⟩:=vrels2 hv;cases h1;cases h2;refine (Any.stringslite_Index_one (ρ:=Tryz.lays143_ren) { Tryz.lays143 with } (bA s) c w).mono ?_;rintro e w' ⟨rfl,rfl⟩;exact ⟨_,rfl,Below.refl _ _,.int⟩
theorem pre_spec (s p:List UInt8):PRet C.P 90 [.str s,.str p] (.bool (p.isPrefixOf s)):=by
 refine pret_lib rfl fun σ w vs _ hv=>?_;obtain ⟨v,u,rfl,h1,h2⟩:=vrels2 hv;cases h1;cases h2;refine (Any.stringslite_HasPrefix (ρ:=Tryz.lays99_ren) { Tryz.lays99 with } (bA s) (bA p) w).mono ?_;rintro e w' ⟨rfl,rfl⟩;exact ⟨_,rfl,Below.refl _ _,.bool⟩
def A119:Ann:=fun _=>{}
def A91:Ann:=fun _=>{}
theorem cutL_spec (s:List UInt8) (c:UInt8) (hs:s.length≤100000000):PRet C.P 119 [.str s,.str [c]] (ssbA (cutB c s)):=by
 have hi:=idx_spec s c;obtain ⟨R,hR⟩:∃R,R=cutB c s:=⟨_,rfl⟩;rw [←hR];refine pret_of ok mixed (A:=A119) 0 Tryz.func119 rfl ?_;by_cases hm:c∈s
 ·obtain ⟨a,b,e,ha⟩:=mem_cut hm;rw [show Lib.indexByte s c=a.length by rw [e];exact indexByte_at ha] at hi;have hl1:([c].length:Int)=1:=rfl;have hlen:s.length=a.length+(b.length+1):=by rw [e];simp
  (repeat' (first|exact rfl|((conv=>whnf);first|(refine ⟨_,hi,?_⟩)|exact rfl|exact ⟨rfl,rfl⟩|refine go1 ?_|(intro ep)|(refine ifB ?_ ?_<;>intro hb<;>(try simp only [qs] at hb)<;>(try simp (disch:=omega) only [wrapI] at hb)<;>(try (exfalso;omega)))|fail)))
  all_goals (rw [hR,e,cutB_at ha];simp only [ssbA,hl1])
  all_goals (rw [←e];(try simp (disch:=omega) only [wrapI]))
  all_goals (have e1:((a.length:Int)+1).toNat=a.length+1:=by omega)
  all_goals (rw [e1,e])
  all_goals simp
  all_goals exact List.take_of_length_le (by omega)
 ·rw [show Lib.indexByte s c= -1 from indexByte_no hm] at hi;rw [cutB_no hm] at hR;subst hR
  (repeat' (first|exact rfl|((conv=>whnf);first|(refine ⟨_,hi,?_⟩)|exact rfl|exact ⟨rfl,rfl⟩|refine go1 ?_|(intro ep)|(refine ifB ?_ ?_<;>intro hb<;>(try simp only [qs] at hb)<;>(try simp (disch:=omega) only [wrapI] at hb)<;>(try (exfalso;omega)))|fail)))
theorem cut_spec (s:List UInt8) (c:UInt8) (hs:s.length≤100000000):PRet C.P 91 [.str s,.str [c]] (ssbA (cutB c s)):=by
 have hi:=cutL_spec s c hs;generalize cutB c s=R at hi;obtain ⟨x,y,b⟩:=R;refine pret_of ok mixed (A:=A91) 0 Tryz.func91 rfl ?_
 (repeat' (first|exact rfl|((conv=>whnf);first|(refine ⟨_,hi,?_⟩)|exact rfl|exact ⟨rfl,rfl⟩|refine go1 ?_|(intro ep)|(refine ifB ?_ ?_<;>intro hb<;>(try simp only [qs] at hb)<;>(try simp (disch:=omega) only [wrapI] at hb)<;>(try (exfalso;omega)))|fail)))
def sfxB (c:UInt8) (s:List UInt8):List UInt8×Bool:=if s.getLast?=some c then (s.dropLast,true) else (s,false)
def sbA2 (p:List UInt8×Bool):AV:=.tup [.str p.1,.bool p.2]
def A132:Ann:=fun _=>{}
def A122:Ann:=fun _=>{}
def A93:Ann:=fun _=>{}
def A52:Ann:=fun _=>{}
def A22:Ann:=fun _=>{}
theorem hsfx_spec (s:List UInt8) (c:UInt8) (hs:s.length≤100000000):PRet C.P 132 [.str s,.str [c]] (.bool (decide (s.getLast?=some c))):=by
 refine pret_of ok mixed (A:=A132) 0 Tryz.func132 rfl ?_;have hl1:([c].length:Int)=1:=rfl
 rcases List.eq_nil_or_concat s with rfl|⟨a,x,rfl⟩
 ·(repeat' (first|exact rfl|((conv=>whnf);first|exact rfl|exact ⟨rfl,rfl⟩|refine go1 ?_|(intro ep)|(refine ifB ?_ ?_<;>intro hb<;>(try simp only [qs] at hb)<;>(try simp (disch:=omega) only [wrapI] at hb)<;>(try (exfalso;omega)))|fail)))
 ·have hlen:((a.concat x).length:Int)=a.length+1:=by simp
  (repeat' (first|exact rfl|((conv=>whnf);first|exact rfl|exact ⟨rfl,rfl⟩|refine go1 ?_|(intro ep)|(refine ifB ?_ ?_<;>intro hb<;>(try simp only [qs] at hb)<;>(try simp (disch:=omega) only [wrapI] at hb)<;>(try (exfalso;omega)))|fail)))
  ·have e1:(IntKind.i64.wrap (((a.concat x).length:Int)-([c].length:Int))).toNat=a.length:=by
    rw [hl1,hlen];simp (disch:=(simp at hs;omega)) only [wrapI];omega
   rw [e1];simp only [List.concat_eq_append];simp;by_cases h:x=c<;>simp [h]
theorem csfx_spec (s:List UInt8) (c:UInt8) (hs:s.length≤100000000):PRet C.P 122 [.str s,.str [c]] (sbA2 (sfxB c s)):=by
 have hi:=hsfx_spec s c hs;obtain ⟨R,hR⟩:∃R,R=sfxB c s:=⟨_,rfl⟩;rw [←hR];have hl1:([c].length:Int)=1:=rfl;by_cases h:s.getLast?=some c
 ·rw [decide_eq_true h] at hi;rw [sfxB,if_pos h] at hR;have hne:s≠[]:=by rintro rfl;simp at h
  have hlen:0<s.length:=List.length_pos_iff.2 hne;refine pret_of ok mixed (A:=A122) 0 Tryz.func122 rfl ?_
  (repeat' (first|exact rfl|((conv=>whnf);first|(refine ⟨_,hi,?_⟩)|exact rfl|exact ⟨rfl,rfl⟩|refine go1 ?_|(intro ep)|(refine ifB ?_ ?_<;>intro hb<;>(try simp only [qs] at hb)<;>(try simp (disch:=omega) only [wrapI] at hb)<;>(try (exfalso;omega)))|fail)))
  all_goals (rw [hR,hl1];simp only [sbA2])
  all_goals (have e1:(IntKind.i64.wrap ((s.length:Int)-1)).toNat=s.length-1:=by simp (disch:=omega) only [wrapI];omega)
  all_goals (rw [e1,List.dropLast_eq_take];rfl)
 ·rw [decide_eq_false h] at hi;rw [sfxB,if_neg h] at hR;subst hR;refine pret_of ok mixed (A:=A122) 0 Tryz.func122 rfl ?_
  (repeat' (first|exact rfl|((conv=>whnf);first|(refine ⟨_,hi,?_⟩)|exact rfl|exact ⟨rfl,rfl⟩|refine go1 ?_|(intro ep)|(refine ifB ?_ ?_<;>intro hb<;>(try simp only [qs] at hb)<;>(try simp (disch:=omega) only [wrapI] at hb)<;>(try (exfalso;omega)))|fail)))
theorem sfx_spec (s:List UInt8) (c:UInt8) (hs:s.length≤100000000):PRet C.P 93 [.str s,.str [c]] (sbA2 (sfxB c s)):=by
 have hi:=csfx_spec s c hs;generalize sfxB c s=R at hi;obtain ⟨x,b⟩:=R;refine pret_of ok mixed (A:=A93) 0 Tryz.func93 rfl ?_
 (repeat' (first|exact rfl|((conv=>whnf);first|(refine ⟨_,hi,?_⟩)|exact rfl|exact ⟨rfl,rfl⟩|refine go1 ?_|(intro ep)|(refine ifB ?_ ?_<;>intro hb<;>(try simp only [qs] at hb)<;>(try simp (disch:=omega) only [wrapI] at hb)<;>(try (exfalso;omega)))|fail)))
def pfxB (p s:List UInt8):List UInt8×Bool:=if p.isPrefixOf s=true then (s.drop p.length,true) else (s,false)
theorem cpfx_spec (s p:List UInt8) (hs:s.length≤100000000):PRet C.P 52 [.str s,.str p] (sbA2 (pfxB p s)):=by
 have hi:=pre_spec s p;obtain ⟨R,hR⟩:∃R,R=pfxB p s:=⟨_,rfl⟩;rw [←hR];by_cases h:p.isPrefixOf s=true
 ·rw [h] at hi;rw [pfxB,if_pos h] at hR;have hlen:p.length≤s.length:=(List.isPrefixOf_iff_prefix.1 h).length_le;refine pret_of ok mixed (A:=A52) 0 Tryz.func52 rfl ?_
  (repeat' (first|exact rfl|((conv=>whnf);first|(refine ⟨_,hi,?_⟩)|exact rfl|exact ⟨rfl,rfl⟩|refine go1 ?_|(intro ep)|(refine ifB ?_ ?_<;>intro hb<;>(try simp only [qs] at hb)<;>(try simp (disch:=omega) only [wrapI] at hb)<;>(try (exfalso;omega)))|fail)))
  all_goals (rw [hR,Int.toNat_natCast,List.take_of_length_le (by simp)];exact rfl)
 ·rw [Bool.not_eq_true] at h;rw [h] at hi;rw [pfxB,if_neg (by rw [h];decide)] at hR;subst hR;refine pret_of ok mixed (A:=A52) 0 Tryz.func52 rfl ?_
  (repeat' (first|exact rfl|((conv=>whnf);first|(refine ⟨_,hi,?_⟩)|exact rfl|exact ⟨rfl,rfl⟩|refine go1 ?_|(intro ep)|(refine ifB ?_ ?_<;>intro hb<;>(try simp only [qs] at hb)<;>(try simp (disch:=omega) only [wrapI] at hb)<;>(try (exfalso;omega)))|fail)))
theorem pfx_spec (s p:List UInt8) (hs:s.length≤100000000):PRet C.P 22 [.str s,.str p] (sbA2 (pfxB p s)):=by
 have hi:=cpfx_spec s p hs;generalize pfxB p s=R at hi;obtain ⟨x,b⟩:=R;refine pret_of ok mixed (A:=A22) 0 Tryz.func22 rfl ?_
 (repeat' (first|exact rfl|((conv=>whnf);first|(refine ⟨_,hi,?_⟩)|exact rfl|exact ⟨rfl,rfl⟩|refine go1 ?_|(intro ep)|(refine ifB ?_ ?_<;>intro hb<;>(try simp only [qs] at hb)<;>(try simp (disch:=omega) only [wrapI] at hb)<;>(try (exfalso;omega)))|fail)))

def altB:List UInt8→Int×List UInt8
 | []=>(0,[])
 |b::r=>if b=35 then (1,r) else if b=98 then (-1,r) else (0,b::r)
def octB:List UInt8→Option Int
 | [a]=>if (a.toNat:Int)<48∨57<(a.toNat:Int) then none else some ((a.toNat:Int)-48)
 |r=>if r=[45,49] then some (-1) else none
def lttI (b:UInt8):Int:=Lib.indexByte letN b
def pnm:List UInt8→(Nat×Int×Int) ⊕ Int
 | []=>.inr 4
 |b::r=>if lttI b<0 then .inr 4 else match octB (altB r).2 with
  |none=>.inr 4
  |some o=>if sndE (lttI b).toNat (altB r).1 o=0 then .inl ((lttI b).toNat,(altB r).1,o) else .inr (sndE (lttI b).toNat (altB r).1 o)
def pnmA:(Nat×Int×Int) ⊕ Int→AV
 | .inl r=>.tup [spA r.1 r.2.1 r.2.2,.int .i64 0]
 | .inr e=>.tup [spA 0 0 0,.int .i64 e]
theorem lttI_lt (b:UInt8): -1≤lttI b∧lttI b<7:=by
 have h:∀n:Fin 256,-1≤lttI (UInt8.ofNat n.1)∧lttI (UInt8.ofNat n.1)<7:=by decide+kernel
 have:=h ⟨b.toNat,b.toNat_lt⟩;simpa using this
theorem octC (u:List UInt8):u=[45,49]∨(∃a,u=[a])∨(octB u=none∧u≠[45,49]∧¬(u.length:Int)=1):=by
 by_cases h:u=[45,49]
 ·exact .inl h
 ·right
  match u,h with
  | [],_=>exact .inr ⟨rfl,by simp,by simp⟩
  | [a],_=>exact .inl ⟨a,rfl⟩
  |a::b::r,h=>exact .inr ⟨by rw [octB,if_neg h];simp,h,by simp;omega⟩
def A92:Ann:=fun r=>match r with
 |0=>{ slots:=[(0,0)] }
 |3=>{ slots:=[(4,1)] }
 |_=>{}
theorem parseName_spec (t:List UInt8) (ht:t.length≤100000000):PRet C.P 92 [.str t] (pnmA (pnm t)):=by
 obtain ⟨R,hR⟩:∃R,R=pnm t:=⟨_,rfl⟩;rw [←hR]
 match t,ht,hR with
 | [],ht,hR=>
  subst hR;refine pret_of ok mixed (A:=A92) 2 Tryz.func92 rfl ?_
  (repeat' (first|exact rfl|((conv=>whnf);first|exact rfl|exact ⟨rfl,rfl⟩|refine go1 ?_|(intro ep)|(refine ifB ?_ ?_<;>intro hb<;>(try simp only [qs] at hb)<;>(try simp (disch:=omega) only [wrapI] at hb)<;>(try (exfalso;omega)))|fail)))
 |b::r,ht,hR=>
  have hlen:((b::r).length:Int)=r.length+1:=by simp
  have hix:PRet C.P 120 [.str letN,.int .u8 (nthB (b::r) (Int.toNat 0))] (.int .i64 (lttI b)):=by
   have h:=indexByte_spec letN (nthB (b::r) 0);have e:(nthB (b::r) 0).toNat.toUInt8=b:=by
    show ((b.toNat:Int)).toNat.toUInt8=b;simp
   rw [e] at h;exact h
  have hl:=lttI_lt b;refine pret_of ok mixed (A:=A92) 2 Tryz.func92 rfl ?_;rw [pnm] at hR;by_cases hneg:lttI b<0
  ·rw [if_pos hneg] at hR;subst hR
   (repeat' (first|exact rfl|((conv=>whnf);first|(refine ⟨_,hix,?_⟩)|exact rfl|exact ⟨rfl,rfl⟩|refine go1 ?_|(intro ep)|(refine ifB ?_ ?_<;>intro hb<;>(try simp only [qs] at hb)<;>(try simp (disch:=omega) only [wrapI] at hb)<;>(try (exfalso;omega)))|fail)))
  ·rw [if_neg hneg] at hR;obtain ⟨l,hl⟩:∃l:Nat,lttI b=l:=⟨(lttI b).toNat,by omega⟩;rw [hl,Int.toNat_natCast] at hR;rw [hl] at hix;have hl6:l≤6:=by omega
   have hk1:List.take ((b::r).length-Int.toNat 1) (List.drop (Int.toNat 1) (b::r))=r:=by simp
   match r,hR,hk1,hlen,ht,hix with
   | [],hR,hk1,hlen,ht,hix=>
    have hp1:=prefix_spec [] [35];have hp2:=prefix_spec [] [98];have hR:R= .inr 4:=hR
    (repeat' (first|exact rfl|(rw [hk1])|(exact absurd (by assumption:([]:List UInt8)=[45,49]) (by simp))|((conv=>whnf);first|(refine ⟨_,hix,?_⟩)|(refine ⟨_,hp1,?_⟩)|(rw [hk1];refine ⟨_,hp1,?_⟩)|(refine ⟨_,hp2,?_⟩)|(refine ⟨_,snd_spec l _ _ hl6,?_⟩)|exact rfl|exact ⟨rfl,rfl⟩|refine go1 ?_|(intro ep)|(refine ifB ?_ ?_<;>intro hb<;>(try simp only [qs] at hb)<;>(try simp (disch:=omega) only [wrapI] at hb)<;>(try (exfalso;omega)))|fail)))
    all_goals (rw [hR];first|exact rfl|(rw [if_pos (by assumption)];exact rfl)|(rw [if_neg (by assumption)];exact rfl))
   |x::q,hR,hk1,hlen,ht,hix=>
    have hl2:((x::q).length:Int)=q.length+1:=by simp
    have hl3:∀a:UInt8,([a].length:Int)=1:=fun a=>rfl;by_cases h35:x=35
    ·subst h35;have hp1:PRet C.P 121 [.str (35::q),.str [35]] (.bool true):=prefix_spec (35::q) [35];have hp2:=hp1;have hR:R=(match octB q with
      |none=>.inr 4
      |some o=>if sndE l (1) o=0 then .inl (l,1,o) else .inr (sndE l (1) o)):=hR
     have hk2:List.take ((35::q).length-Int.toNat 1) (List.drop (Int.toNat 1) (35::q))=q:=by simp
     rcases octC q with hu|⟨a,hu⟩|⟨hu,hu1,hu2⟩
     ·subst hu;have hR:R=(if sndE l (1) (-1)=0 then .inl (l,1,-1) else .inr (sndE l (1) (-1))):=hR
      (repeat' (first|exact rfl|(rw [hk1])|(rw [hk2])|((conv=>whnf);first|(refine ⟨_,hix,?_⟩)|(refine ⟨_,hp1,?_⟩)|(rw [hk1];refine ⟨_,hp1,?_⟩)|(refine ⟨_,hp2,?_⟩)|(refine ⟨_,snd_spec l _ _ hl6,?_⟩)|exact rfl|exact ⟨rfl,rfl⟩|refine go1 ?_|(intro ep)|(refine ifB ?_ ?_<;>intro hb<;>(try simp only [qs] at hb)<;>(try simp (disch:=omega) only [wrapI] at hb)<;>(try (exfalso;omega)))|fail)))
      all_goals (rw [hR];first|exact rfl|(rw [if_pos (by assumption)];exact rfl)|(rw [if_neg (by assumption)];exact rfl))
     ·subst hu;have ha:=u8b a;have hl4:=hl3 a;have e0:nthB [a] (Int.toNat 0)=(a.toNat:Int):=rfl
      (repeat' (first|exact rfl|(rw [hk1])|(rw [hk2])|(exact absurd (by assumption:[a]=[45,49]) (by simp))|((conv=>whnf);first|(refine ⟨_,hix,?_⟩)|(refine ⟨_,hp1,?_⟩)|(rw [hk1];refine ⟨_,hp1,?_⟩)|(refine ⟨_,hp2,?_⟩)|(refine ⟨_,snd_spec l _ _ hl6,?_⟩)|exact rfl|exact ⟨rfl,rfl⟩|refine go1 ?_|(intro ep)|(refine ifB ?_ ?_<;>intro hb<;>(try simp only [qs] at hb)<;>(try simp (disch:=omega) only [wrapI] at hb)<;>(try (exfalso;omega)))|fail)))
      all_goals first
       |(rw [hR,show octB [a]=none from if_pos (by omega)];exact rfl)
       |(
         have ho:octB [a]=some ((a.toNat:Int)-48):=if_neg (by omega);have hw:IntKind.i64.wrap (IntKind.u8.wrap (nthB [a] (Int.toNat 0)-48))=(a.toNat:Int)-48:=by rw [e0];simp (disch:=omega) only [wrapI,u8_in]
         have hR2:=hR;rw [ho] at hR2;dsimp only at hR2;rw [hR2];rw [hw] at hb ⊢
         first|(rw [if_pos hb];exact rfl)|(rw [if_neg hb];exact rfl))
     ·rw [hu] at hR;have hu3:List.take ((35::q).length-Int.toNat 1) (List.drop (Int.toNat 1) (35::q))≠[45,49]:=by rw [hk2];exact hu1
      have hu4:¬((List.take ((35::q).length-Int.toNat 1) (List.drop (Int.toNat 1) (35::q))).length:Int)=1:=by rw [hk2];exact hu2
      (repeat' (first|exact rfl|(rw [hk1])|(rw [hk2])|(exact absurd (by assumption) hu1)|(exact absurd (by assumption) hu3)|((conv=>whnf);first|(refine ⟨_,hix,?_⟩)|(refine ⟨_,hp1,?_⟩)|(rw [hk1];refine ⟨_,hp1,?_⟩)|(refine ⟨_,hp2,?_⟩)|(refine ⟨_,snd_spec l _ _ hl6,?_⟩)|exact rfl|exact ⟨rfl,rfl⟩|refine go1 ?_|(intro ep)|(refine ifB ?_ ?_<;>intro hb<;>(try simp only [qs] at hb)<;>(try simp (disch:=omega) only [wrapI] at hb)<;>(try (exfalso;omega)))|fail)))
      all_goals (rw [hR];exact rfl)
    by_cases h98:x=98
    ·subst h98;have hp1:PRet C.P 121 [.str (98::q),.str [35]] (.bool false):=prefix_spec (98::q) [35];have hp2:PRet C.P 121 [.str (98::q),.str [98]] (.bool true):=prefix_spec (98::q) [98];have hR:R=(match octB q with
      |none=>.inr 4
      |some o=>if sndE l (-1) o=0 then .inl (l,-1,o) else .inr (sndE l (-1) o)):=hR
     have hk2:List.take ((98::q).length-Int.toNat 1) (List.drop (Int.toNat 1) (98::q))=q:=by simp
     rcases octC q with hu|⟨a,hu⟩|⟨hu,hu1,hu2⟩
     ·subst hu;have hR:R=(if sndE l (-1) (-1)=0 then .inl (l,-1,-1) else .inr (sndE l (-1) (-1))):=hR
      (repeat' (first|exact rfl|(rw [hk1])|(rw [hk2])|((conv=>whnf);first|(refine ⟨_,hix,?_⟩)|(refine ⟨_,hp1,?_⟩)|(rw [hk1];refine ⟨_,hp1,?_⟩)|(refine ⟨_,hp2,?_⟩)|(refine ⟨_,snd_spec l _ _ hl6,?_⟩)|exact rfl|exact ⟨rfl,rfl⟩|refine go1 ?_|(intro ep)|(refine ifB ?_ ?_<;>intro hb<;>(try simp only [qs] at hb)<;>(try simp (disch:=omega) only [wrapI] at hb)<;>(try (exfalso;omega)))|fail)))
      all_goals (rw [hR];first|exact rfl|(rw [if_pos (by assumption)];exact rfl)|(rw [if_neg (by assumption)];exact rfl))
     ·subst hu;have ha:=u8b a;have hl4:=hl3 a;have e0:nthB [a] (Int.toNat 0)=(a.toNat:Int):=rfl
      (repeat' (first|exact rfl|(rw [hk1])|(rw [hk2])|(exact absurd (by assumption:[a]=[45,49]) (by simp))|((conv=>whnf);first|(refine ⟨_,hix,?_⟩)|(refine ⟨_,hp1,?_⟩)|(rw [hk1];refine ⟨_,hp1,?_⟩)|(refine ⟨_,hp2,?_⟩)|(refine ⟨_,snd_spec l _ _ hl6,?_⟩)|exact rfl|exact ⟨rfl,rfl⟩|refine go1 ?_|(intro ep)|(refine ifB ?_ ?_<;>intro hb<;>(try simp only [qs] at hb)<;>(try simp (disch:=omega) only [wrapI] at hb)<;>(try (exfalso;omega)))|fail)))
      all_goals first
       |(rw [hR,show octB [a]=none from if_pos (by omega)];exact rfl)
       |(
         have ho:octB [a]=some ((a.toNat:Int)-48):=if_neg (by omega);have hw:IntKind.i64.wrap (IntKind.u8.wrap (nthB [a] (Int.toNat 0)-48))=(a.toNat:Int)-48:=by rw [e0];simp (disch:=omega) only [wrapI,u8_in]
         have hR2:=hR;rw [ho] at hR2;dsimp only at hR2;rw [hR2];rw [hw] at hb ⊢
         first|(rw [if_pos hb];exact rfl)|(rw [if_neg hb];exact rfl))
     ·rw [hu] at hR;have hu3:List.take ((98::q).length-Int.toNat 1) (List.drop (Int.toNat 1) (98::q))≠[45,49]:=by rw [hk2];exact hu1
      have hu4:¬((List.take ((98::q).length-Int.toNat 1) (List.drop (Int.toNat 1) (98::q))).length:Int)=1:=by rw [hk2];exact hu2
      (repeat' (first|exact rfl|(rw [hk1])|(rw [hk2])|(exact absurd (by assumption) hu1)|(exact absurd (by assumption) hu3)|((conv=>whnf);first|(refine ⟨_,hix,?_⟩)|(refine ⟨_,hp1,?_⟩)|(rw [hk1];refine ⟨_,hp1,?_⟩)|(refine ⟨_,hp2,?_⟩)|(refine ⟨_,snd_spec l _ _ hl6,?_⟩)|exact rfl|exact ⟨rfl,rfl⟩|refine go1 ?_|(intro ep)|(refine ifB ?_ ?_<;>intro hb<;>(try simp only [qs] at hb)<;>(try simp (disch:=omega) only [wrapI] at hb)<;>(try (exfalso;omega)))|fail)))
      all_goals (rw [hR];exact rfl)
    ·skip
     have hp1:PRet C.P 121 [.str (x::q),.str [35]] (.bool false):=by have h:=prefix_spec (x::q) [35];rwa [show ([35]:List UInt8).isPrefixOf (x::q)=false by simp [List.isPrefixOf];exact fun e=>h35 e.symm] at h
     have hp2:PRet C.P 121 [.str (x::q),.str [98]] (.bool false):=by have h:=prefix_spec (x::q) [98];rwa [show ([98]:List UInt8).isPrefixOf (x::q)=false by simp [List.isPrefixOf];exact fun e=>h98 e.symm] at h
     have hR:R=(match octB (x::q) with
      |none=>.inr 4
      |some o=>if sndE l (0) o=0 then .inl (l,0,o) else .inr (sndE l (0) o)):=by rw [hR,altB,if_neg h35,if_neg h98]
     rcases octC (x::q) with hu|⟨a,hu⟩|⟨hu,hu1,hu2⟩
     ·have hx:x=45∧q=[49]:=by simpa using hu
      obtain ⟨rfl,rfl⟩:=hx;have hR:R=(if sndE l (0) (-1)=0 then .inl (l,0,-1) else .inr (sndE l (0) (-1))):=hR
      (repeat' (first|exact rfl|(rw [hk1])|((conv=>whnf);first|(refine ⟨_,hix,?_⟩)|(refine ⟨_,hp1,?_⟩)|(rw [hk1];refine ⟨_,hp1,?_⟩)|(refine ⟨_,hp2,?_⟩)|(refine ⟨_,snd_spec l _ _ hl6,?_⟩)|exact rfl|exact ⟨rfl,rfl⟩|refine go1 ?_|(intro ep)|(refine ifB ?_ ?_<;>intro hb<;>(try simp only [qs] at hb)<;>(try simp (disch:=omega) only [wrapI] at hb)<;>(try (exfalso;omega)))|fail)))
      all_goals (rw [hR];first|exact rfl|(rw [if_pos (by assumption)];exact rfl)|(rw [if_neg (by assumption)];exact rfl))
     ·have hx:x=a∧q=[]:=by simpa using hu
      obtain ⟨rfl,rfl⟩:=hx;have ha:=u8b x;have hl4:=hl3 x;have e0:nthB [x] (Int.toNat 0)=(x.toNat:Int):=rfl
      (repeat' (first|exact rfl|(rw [hk1])|(exact absurd (by assumption:[x]=[45,49]) (by simp))|((conv=>whnf);first|(refine ⟨_,hix,?_⟩)|(refine ⟨_,hp1,?_⟩)|(rw [hk1];refine ⟨_,hp1,?_⟩)|(refine ⟨_,hp2,?_⟩)|(refine ⟨_,snd_spec l _ _ hl6,?_⟩)|exact rfl|exact ⟨rfl,rfl⟩|refine go1 ?_|(intro ep)|(refine ifB ?_ ?_<;>intro hb<;>(try simp only [qs] at hb)<;>(try simp (disch:=omega) only [wrapI] at hb)<;>(try (exfalso;omega)))|fail)))
      all_goals first
       |(rw [hR,show octB [x]=none from if_pos (by omega)];exact rfl)
       |(
         have ho:octB [x]=some ((x.toNat:Int)-48):=if_neg (by omega);have hw:IntKind.i64.wrap (IntKind.u8.wrap (nthB [x] (Int.toNat 0)-48))=(x.toNat:Int)-48:=by rw [e0];simp (disch:=omega) only [wrapI,u8_in]
         have hR2:=hR;rw [ho] at hR2;dsimp only at hR2;rw [hR2];rw [hw] at hb ⊢
         first|(rw [if_pos hb];exact rfl)|(rw [if_neg hb];exact rfl))
     ·rw [hu] at hR
      (repeat' (first|exact rfl|(rw [hk1])|(exact absurd (by assumption) hu1)|((conv=>whnf);first|(refine ⟨_,hix,?_⟩)|(refine ⟨_,hp1,?_⟩)|(rw [hk1];refine ⟨_,hp1,?_⟩)|(refine ⟨_,hp2,?_⟩)|(refine ⟨_,snd_spec l _ _ hl6,?_⟩)|exact rfl|exact ⟨rfl,rfl⟩|refine go1 ?_|(intro ep)|(refine ifB ?_ ?_<;>intro hb<;>(try simp only [qs] at hb)<;>(try simp (disch:=omega) only [wrapI] at hb)<;>(try (exfalso;omega)))|fail)))
      all_goals (rw [hR];exact rfl)
end Go.Ab.V
