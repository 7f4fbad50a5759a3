/-
  What is proved here serves the law's text: each part says its own claim and its conditions. No condition is left open.
-/
import Derived.Test.YtohegnfjdfcebaaGreatDoorJE
import Derived.Test.YtohegnfjdfcebaaGreatDoorJK
import Derived.Test.YtohegnfjdfcebaaGreatDoorKU
import Derived.Test.YtohegnfjdfcebaaGreatDoorJH
set_option maxHeartbeats 32000000
set_option maxRecDepth 100000
set_option linter.unusedSimpArgs false
set_option linter.unusedVariables false

namespace Go.Ab.V
open Go.Proofs
def kepS (y:Sy) (l:List Stp):List Stp:=(l.filter fun s=>!lostB y s).map (hndS y)
def ovR (y:Sy) (s:Stp):List AV:=if lostB y s=true then stR s++[.int .i64 s.c,.int .i64 s.h,.nils] else stR (hndS y s)++[.int .i64 s.c,.int .i64 s.h,intsA0 (hndL y s)]
def loR (y:Sy) (s:Stp):List AV:=[.bool (lostB y s)]
def ptB (b:Bool):AV:=.lptr 1 [[.bool b]] 0 0
def ptY (y:Sy):AV:=.lptr 1 [[.int .u8 y.n]] 0 0
def chgC (y:Sy) (ti re:Bool) (i:Ins):List AV:=[crsA i.cs,intsA i.steps,.bool (!ti),.fn (.func 38) [] [ptB ti,ptB re],.fn (.func 36) [] [ptY y],.fn (.func 39) [] [ptY y],.fn (.func 41) [] [ptY y]]
def oneE (y:Sy) (ti re first:Bool) (e:Evt):Evt:=
 if e.stops=[] then { e with tie:=(tieE ti re e.tie).2 } else { e with stops:=kepS y e.stops,tie:=if kepS y e.stops=[] then (!first&&ti) else e.tie }
def oneA (y:Sy) (ti re:Bool) (e:Evt):AV:=
 if e.stops=[] then .agg [.int .i64 (tieE ti re e.tie).1,.nils,.nils] else .agg [.int .i64 0,.lslc 8 (e.stops.map (ovR y)) 0 e.stops.length false,.lslc 1 (e.stops.map (loR y)) 0 e.stops.length false]
theorem kep_snoc {y:Sy} {l:List Stp} {k:Nat} (h:k<l.length):kepS y (l.take (k+1))=kepS y (l.take k)++(if lostB y l[k]=true then [] else [hndS y l[k]]):=by
 unfold kepS;rw [List.take_succ_eq_append_getElem h,List.filter_append,List.map_append];cases hb:lostB y l[k]<;>simp [List.filter,hb]
theorem kep_len (y:Sy) (l:List Stp):(kepS y l).length≤l.length:=by
 unfold kepS;rw [List.length_map];exact List.length_filter_le _ _
theorem kep_asc {y:Sy} {l:List Stp} (h:l.Pairwise fun a b=>a.c<b.c):(kepS y l).Pairwise fun a b=>a.c<b.c:=by
 unfold kepS;rw [List.pairwise_map];exact h.sublist List.filter_sublist
def A77:Ann:=fun r=>match r with
 |0=>{ slots:=[(0,2),(1,3)] }
 |1=>{ slots:=[(0,4)] }
 |10=>{ slots:=[(3,5)] }
 |11=>{ slots:=[(13,1)] }
 |12=>{ slots:=[(4,9),(5,6)] }
 |16=>{ slots:=[(7,10),(8,8)] }
 |17=>{ slots:=[(3,11),(4,7)] }
 |_=>{}
theorem pure_ovR (y:Sy) (x:Stp):(ovR y x).all AV.pure1=true:=by
 unfold ovR
 split
 ·rfl
 ·generalize hndL y x=L;cases L<;>rfl
theorem take_same {α:Type} {l:List α} {k:Nat} (h:l.length=k):List.take k (List.drop 0 l)=l:=by rw [List.drop_zero];exact List.take_of_length_le (by omega)
theorem map_snoc {f:Stp→List AV} {l:List Stp} {k:Nat} (h:k<l.length):(l.take (k+1)).map f=List.take k (List.drop 0 ((l.take k).map f))++[f l[k]]:=by
 rw [take_same (by rw [List.length_map,List.length_take];omega),List.take_succ_eq_append_getElem h,List.map_append];rfl
theorem one77 (y:Sy) (ti re first:Bool) (i:Ins) (ev:Evt) (hl:ev.stops.length≤1000) (hin:∀s∈ev.stops,s.In) (hasc:ev.stops.Pairwise fun a b=>a.c<b.c) {e0:Nat} {dy:List AObj} (hdy:∀o∈dy,noO o) {K:AV→Heap→Prop}
  (hK:∀ep rest,K (oneA y ti re ev) ⟨.vec e0 [evX (oneE y ti re first ev) (.oslc (.d dy.length) ep 5 0 (oneE y ti re first ev).stops.length false)]::rest,dy++[.vec ep ((oneE y ti re first ev).stops.map stR)]⟩):
  ACalls C.P 77 [.agg (chgC y ti re i),.optr (.s 0) e0 6 0 0,.bool first] ⟨[.vec e0 [evR ev]],dy⟩ K:=by
 obtain ⟨bar,v,d,th,tie,l⟩:=ev;dsimp only at hl hin hasc;refine ofP (fnPW_of (okx [] [107]) 11 Tryz.func77 rfl ?_);refine wk_seq (wkA (okx [] [107]) mixed (A:=A77) ?_)
 (repeat' (first|exact rfl|((conv=>whnf);first|exact rfl|exact ⟨rfl,rfl⟩|refine go1 ?_|(intro ep)|fail)))
 (conv=>whnf);rename_i e2;obtain ⟨e3,he⟩:∃e,e=ep:=⟨_,rfl⟩;subst he;refine wk_seq (wkA (okx [] [107]) mixed (A:=A77) ?_)
 (repeat' (first|exact rfl|((conv=>whnf);first|exact rfl|exact ⟨rfl,rfl⟩|refine go1 ?_|(intro ep)|fail)))
 (conv=>whnf);obtain ⟨e4,he⟩:∃e,e=ep:=⟨_,rfl⟩;subst he;refine wk_seq (wkA (okx [] [107]) mixed (A:=A77) ?_)
 (repeat' (first|exact rfl|((conv=>whnf);first|exact rfl|exact ⟨rfl,rfl⟩|refine go1 ?_|(intro ep)|fail)))
 (conv=>whnf);refine wk_seq (wkA (okx [] [107]) mixed (A:=A77) ?_)
 (repeat' (first|exact rfl|((conv=>whnf);first|exact rfl|exact ⟨rfl,rfl⟩|refine go1 ?_|(intro ep)|fail)))
 (conv=>whnf);refine wk_mask [1,2,3,6,7,8] [0,2,3,4] (fr':=frOf 0 112 [(1,.optr (.s 0) e0 6 0 0),(2,.bool first),(3,.optr (.s 2) e2 7 0 0),(6,.optr (.s 3) e3 3 0 0),(7,.optr (.s 4) e4 3 0 0),(8,stsA l)]) (h':=⟨[.vec e0 [[.bool bar,.int .i64 v,.bool d,.bool th,.bool tie,.nils]],.hole,.vec e2 [chgC y ti re i],.vec e3 [[.int .i64 0,.nils,.nils]],.vec e4 [[.int .i64 0,.nils,.nils]],.hole,.hole,.hole,.hole,.hole,.hole,.hole],dy⟩) rfl rfl ?_;refine wk_liftC 0 8 e0 5 0 5 (by decide) rfl rfl rfl fun e8=>?_;show WK _ _ _ ⟨[.vec e0 [[.bool bar,.int .i64 v,.bool d,.bool th,.bool tie,.oslc (.s 8) e8 5 0 0 false]],.hole,.vec e2 [chgC y ti re i],.vec e3 [[.int .i64 0,.nils,.nils]],.vec e4 [[.int .i64 0,.nils,.nils]],.hole,.hole,.hole,.vec e8 [],.hole,.hole,.hole],dy⟩ _;by_cases hl0:l=[]
 ·subst hl0;unfold oneE oneA at hK;rw [if_pos rfl,if_pos rfl] at hK;dsimp only at hK;refine wk_tr ?_;refine tr_mvG 8 e8 (o:=.vec e8 []) (by exact rfl) (by exact rfl) (by (repeat' (first|exact trivial|exact rfl|((conv=>whnf);first|exact trivial|exact rfl|refine ⟨?_,?_⟩|fail)))) (by (repeat' (first|exact trivial|exact rfl|((conv=>whnf);first|exact trivial|exact rfl|refine ⟨?_,?_⟩|fail)))) (by (repeat' (first|exact trivial|exact rfl|((conv=>whnf);first|exact trivial|exact rfl|refine ⟨?_,?_⟩|fail)))) hdy fun ep2=>?_;refine tr_eq (fr':=frOf 0 112 [(1,.optr (.s 0) e0 6 0 0),(2,.bool first),(3,.optr (.s 2) e2 7 0 0),(6,.optr (.s 3) e3 3 0 0),(7,.optr (.s 4) e4 3 0 0),(8,stsA [])]) (h':=⟨[.vec e0 [[.bool bar,.int .i64 v,.bool d,.bool th,.bool tie,.oslc (.d dy.length) ep2 5 0 0 false]],.hole,.vec e2 [chgC y ti re i],.vec e3 [[.int .i64 0,.nils,.nils]],.vec e4 [[.int .i64 0,.nils,.nils]],.hole,.hole,.hole,.hole,.hole,.hole,.hole],dy++[.vec ep2 []]⟩) rfl rfl (tr_done ?_);refine wk_seq (wkA (okx [] [107]) mixed (A:=A77) ?_)
  (repeat' (first|exact hK _ _|exact rfl|((conv=>whnf);first|(refine p38 ti re tie ?_)|exact rfl|exact ⟨rfl,rfl⟩|refine go1 ?_|(intro ep)|fail)))
 ·have hlp:0<l.length:=List.length_pos_iff.2 hl0;have h36:=p36 y l hl hl0;unfold oneE oneA at hK;rw [if_neg hl0,if_neg hl0] at hK;dsimp only at hK;refine wk_seq (wkA (okx [] [107]) mixed (A:=A77) ?_)
  (repeat' (first|exact rfl|((conv=>whnf);first|exact rfl|exact ⟨rfl,rfl⟩|refine go1 ?_|(intro ep)|(refine ifB ?_ ?_<;>intro hb<;>(try simp only [qs] at hb)<;>(try simp (disch:=omega) only [wrapI] at hb)<;>(try (exfalso;omega)))|fail)))
  (conv=>whnf);refine wk_seq (wkA (okx [] [107]) mixed (A:=A77) ?_)
  (repeat' (first|exact rfl|((conv=>whnf);first|(refine PRet.calls h36 ?_)|exact rfl|exact ⟨rfl,rfl⟩|refine go1 ?_|(intro ep)|fail)))
  (conv=>whnf);refine wk_mask [1,2,3,6,7,8,34,35,36] [0,2,3,4,8] (fr':=frOf 0 112 [(1,.optr (.s 0) e0 6 0 0),(2,.bool first),(3,.optr (.s 2) e2 7 0 0),(6,.optr (.s 3) e3 3 0 0),(7,.optr (.s 4) e4 3 0 0),(8,stsA l),(34,.lslc 6 (l.map (pl6 y)) 0 l.length false),(35,.int .i64 l.length),(36,.int .i64 0)]) (h':=⟨[.vec e0 [[.bool bar,.int .i64 v,.bool d,.bool th,.bool tie,.oslc (.s 8) e8 5 0 0 false]],.hole,.vec e2 [chgC y ti re i],.vec e3 [[.int .i64 0,.nils,.nils]],.vec e4 [[.int .i64 0,.nils,.nils]],.hole,.hole,.hole,.vec e8 [],.hole,.hole,.hole],dy⟩) rfl rfl ?_;refine wk_liftC 4 7 e4 8 0 1 (by decide) rfl rfl rfl fun e7=>?_;refine wk_liftC 4 6 e4 1 0 2 (by decide) rfl rfl rfl fun e6=>?_;show WK _ _ _ ⟨[.vec e0 [[.bool bar,.int .i64 v,.bool d,.bool th,.bool tie,.oslc (.s 8) e8 5 0 0 false]],.hole,.vec e2 [chgC y ti re i],.vec e3 [[.int .i64 0,.nils,.nils]],.vec e4 [[.int .i64 0,.oslc (.s 7) e7 8 0 0 false,.oslc (.s 6) e6 1 0 0 false]],.hole,.vec e6 [],.vec e7 [],.vec e8 [],.hole,.hole,.hole],dy⟩ _;refine loopY (okx [] [107]) mixed (A:=A77) [1,2,3,6,7,8,34,35,36] [0,2,3,4,6,7,8] (S:={ z:Nat×Nat×Nat×Nat // z.1≤l.length })
   (fr:=fun s=>frOf 0 112 [(1,.optr (.s 0) e0 6 0 0),(2,.bool first),(3,.optr (.s 2) e2 7 0 0),(6,.optr (.s 3) e3 3 0 0),(7,.optr (.s 4) e4 3 0 0),(8,stsA l),(34,.lslc 6 (l.map (pl6 y)) 0 l.length false),(35,.int .i64 l.length),(36,.int .i64 (s.1.1:Int))])
   (h:=fun s=>⟨[.vec e0 [[.bool bar,.int .i64 v,.bool d,.bool th,.bool tie,.oslc (.s 8) s.1.2.2.2 5 0 (kepS y (l.take s.1.1)).length false]],.hole,.vec e2 [chgC y ti re i],.vec e3 [[.int .i64 0,.nils,.nils]],.vec e4 [[.int .i64 0,.oslc (.s 7) s.1.2.2.1 8 0 s.1.1 false,.oslc (.s 6) s.1.2.1 1 0 s.1.1 false]],.hole,.vec s.1.2.1 ((l.take s.1.1).map (loR y)),.vec s.1.2.2.1 ((l.take s.1.1).map (ovR y)),.vec s.1.2.2.2 ((kepS y (l.take s.1.1)).map stR),.hole,.hole,.hole],dy⟩) (μ:=fun s=>l.length-s.1.1) ⟨(0,e6,e7,e8),by simp⟩ ?_ ?_
   [1,2,3,6,7] [0,2,3,4,6,7,8] (S':=Nat×Nat×Nat) (X:=fun _=>0) (frX:=fun s=>frOf 0 112 [(1,.optr (.s 0) e0 6 0 0),(2,.bool first),(3,.optr (.s 2) e2 7 0 0),(6,.optr (.s 3) e3 3 0 0),(7,.optr (.s 4) e4 3 0 0)])
   (hX:=fun s=>⟨[.vec e0 [[.bool bar,.int .i64 v,.bool d,.bool th,.bool tie,.oslc (.s 8) s.2.2 5 0 (kepS y l).length false]],.hole,.vec e2 [chgC y ti re i],.vec e3 [[.int .i64 0,.nils,.nils]],.vec e4 [[.int .i64 0,.oslc (.s 7) s.2.1 8 0 l.length false,.oslc (.s 6) s.1 1 0 l.length false]],.hole,.vec s.1 (l.map (loR y)),.vec s.2.1 (l.map (ovR y)),.vec s.2.2 ((kepS y l).map stR),.hole,.hole,.hole],dy⟩)
   [] [] (S2:={ x:Nat // False }) (frR:=fun s=>frOf 0 112 []) (hR:=fun s=>⟨[],[]⟩) ?_ ?_ ?_
  ·exact rfl
  ·exact rfl
  ·rintro ⟨⟨k,e6,e7,e8⟩,hk⟩;dsimp only at hk;show aexR _ _ _ (frOf 0 112 [(1,.optr (.s 0) e0 6 0 0),(2,.bool first),(3,.optr (.s 2) e2 7 0 0),(6,.optr (.s 3) e3 3 0 0),(7,.optr (.s 4) e4 3 0 0),(8,stsA l),(34,.lslc 6 (l.map (pl6 y)) 0 l.length false),(35,.int .i64 l.length),(36,.int .i64 (k:Int))]) ⟨[.vec e0 [[.bool bar,.int .i64 v,.bool d,.bool th,.bool tie,.oslc (.s 8) e8 5 0 (kepS y (l.take k)).length false]],.hole,.vec e2 [chgC y ti re i],.vec e3 [[.int .i64 0,.nils,.nils]],.vec e4 [[.int .i64 0,.oslc (.s 7) e7 8 0 k false,.oslc (.s 6) e6 1 0 k false]],.hole,.vec e6 ((l.take k).map (loR y)),.vec e7 ((l.take k).map (ovR y)),.vec e8 ((kepS y (l.take k)).map stR),.hole,.hole,.hole],dy⟩ _;(conv=>whnf);refine ifB (fun g1=>?_) (fun g1=>?_)
   ·simp only [decide_eq_true_eq] at g1;have hkl:k<l.length:=by omega
    have hm:=mapR (f:=stR) hkl;have hm6:=mapR (f:=pl6 y) hkl;have hins:=hin _ (List.getElem_mem hkl);have hap6:=map_snoc (f:=loR y) hkl;have hap7:=map_snoc (f:=ovR y) hkl;have hkp:=kep_snoc (y:=y) hkl;have hkn:(kepS y (l.take k)).length≤1000:=by
     have:=kep_len y (l.take k);rw [List.length_take] at this;omega
    have hwk:IntKind.i64.wrap ((k:Int)+1)=((k+1:Nat):Int):=by simp (disch:=omega) only [wrapI];omega
    obtain ⟨s,hs⟩:∃s,s=l[k]:=⟨_,rfl⟩;rw [←hs] at hm hm6 hins hap6 hap7 hkp;have hov:ovR y s=if lostB y s=true then stR s++[.int .i64 s.c,.int .i64 s.h,.nils] else stR (hndS y s)++[.int .i64 s.c,.int .i64 s.h,intsA0 (hndL y s)]:=rfl
    have hlo:loR y s=[.bool (lostB y s)]:=rfl;have hm6:(l.map (pl6 y))[0+((k:Nat):Int).toNat]? =some [.int .i64 s.c,.int .i64 s.f,.int .i64 s.r,.int .i64 s.g,.int .i64 s.h,.bool (lostB y s)]:=hm6;rw [hov] at hap7;rw [hlo] at hap6;generalize lostB y s=bl at hm6 hkp hap6 hap7;cases bl with
    |true=>
     rw [if_pos rfl,List.append_nil] at hkp;rw [if_pos rfl] at hap7
     (repeat' (first|exact rfl|((conv=>whnf);first|(refine optS hm6 ?_)|(refine optS hm ?_)|(rw [hwk])|exact rfl|exact ⟨rfl,rfl⟩|refine go1 ?_|(intro ep)|(refine ifB ?_ ?_<;>intro hb<;>(try simp only [qs] at hb)<;>(try simp (disch:=omega) only [wrapI] at hb)<;>(try (exfalso;omega)))|fail)))
     all_goals (conv=>whnf)
     all_goals rename_i ea eb ec e6n ed
     all_goals exact back_of ⟨(k+1,e6n,ep,e8),hkl⟩ ⟨rfl,by dsimp only;rw [hap6,hap7,hkp];exact rfl,by dsimp only;omega⟩
    |false=>
     rw [if_neg (by simp)] at hkp hap7;have hk8:(kepS y (l.take (k+1))).map stR=List.take (kepS y (l.take k)).length (List.drop 0 ((kepS y (l.take k)).map stR))++[stR (hndS y s)]:=by
      rw [hkp,List.map_append,take_same (List.length_map _)];rfl
     have hk9:(kepS y (l.take (k+1))).length=(kepS y (l.take k)).length+1:=by rw [hkp,List.length_append];rfl
     cases hh:hndL y s with
     |nil=>
      rw [hh] at hap7
      (repeat' (first|exact rfl|((conv=>whnf);first|(refine optS hm6 ?_)|(refine optS hm ?_)|(refine p39L y s hins hh ?_)|(rw [hwk])|exact rfl|exact ⟨rfl,rfl⟩|refine go1 ?_|(intro ep)|(refine ifB ?_ ?_<;>intro hb<;>(try simp only [qs] at hb)<;>(try simp (disch:=omega) only [wrapI] at hb)<;>(try (exfalso;omega)))|fail)))
      all_goals (conv=>whnf)
      all_goals rename_i ea eb ec e6n ed e8n ef
      all_goals exact back_of ⟨(k+1,e6n,ep,e8n),hkl⟩ ⟨rfl,by dsimp only;rw [hap6,hap7,hk8,hk9];exact rfl,by dsimp only;omega⟩
     |cons a r=>
      rw [hh] at hap7
      (repeat' (first|exact rfl|((conv=>whnf);first|(refine optS hm6 ?_)|(refine optS hm ?_)|(refine p39L y s hins hh ?_)|(rw [hwk])|exact rfl|exact ⟨rfl,rfl⟩|refine go1 ?_|(intro ep)|(refine ifB ?_ ?_<;>intro hb<;>(try simp only [qs] at hb)<;>(try simp (disch:=omega) only [wrapI] at hb)<;>(try (exfalso;omega)))|fail)))
      all_goals (conv=>whnf)
      all_goals rename_i ea eb ec e6n ed e8n ef
      all_goals exact back_of ⟨(k+1,e6n,ep,e8n),hkl⟩ ⟨rfl,by dsimp only;rw [hap6,hap7,hk8,hk9];exact rfl,by dsimp only;omega⟩
   ·simp only [decide_eq_false_iff_not] at g1;obtain rfl:k=l.length:=by omega
    rw [List.take_length]
    (repeat' (first|exact rfl|((conv=>whnf);first|exact rfl|exact ⟨rfl,rfl⟩|refine go1 ?_|(intro ep)|fail)))
    (conv=>whnf);exact back_of (e6,e7,e8) ⟨rfl,rfl,rfl⟩
  ·rintro ⟨_,h⟩;exact h.elim
  ·rintro ⟨e6,e7,e8⟩;dsimp only;have hkn:(kepS y l).length≤1000:=Nat.le_trans (kep_len y l) hl;have hso:=sort107 (h:=⟨[.vec e0 [[.bool bar,.int .i64 v,.bool d,.bool th,.bool tie,.oslc (.s 8) e8 5 0 (kepS y l).length false]],.hole,.vec e2 [chgC y ti re i],.vec e3 [[.int .i64 0,.nils,.nils]],.vec e4 [[.int .i64 0,.oslc (.s 7) e7 8 0 l.length false,.oslc (.s 6) e6 1 0 l.length false]],.hole,.vec e6 (l.map (loR y)),.vec e7 (l.map (ovR y)),.vec e8 ((kepS y l).map stR),.hole,.hole,.hole],dy⟩) (id:=.s 8) (ep:=e8) (kep_asc (y:=y) hasc) rfl (by omega);have n6:noO (.vec e6 (l.map (loR y))):=fun a ha=>by
    obtain ⟨r,hr,ha⟩:=List.mem_flatten.1 ha;obtain ⟨x,_,rfl⟩:=List.mem_map.1 hr;simp only [loR,List.mem_cons,List.not_mem_nil,or_false] at ha;subst ha;rfl
   have n8:noO (.vec e8 ((kepS y l).map stR)):=fun a ha=>by
    obtain ⟨r,hr,ha⟩:=List.mem_flatten.1 ha;obtain ⟨x,_,rfl⟩:=List.mem_map.1 hr;simp only [stR,List.mem_cons,List.not_mem_nil,or_false] at ha
    rcases ha with rfl|rfl|rfl|rfl|rfl<;>rfl
   refine wk_seq (wkA (okx [] [107]) mixed (A:=A77) ?_)
   (repeat' (first|exact rfl|((conv=>whnf);first|(refine hso.mono ?_)|(rintro r h' ⟨rfl,rfl⟩)|exact rfl|exact ⟨rfl,rfl⟩|refine go1 ?_|(intro ep)|fail)))
   (conv=>whnf);refine wk_mask [1,2,3,6,7] [0,2,3,4,6,7,8] (fr':=frOf 0 112 [(1,.optr (.s 0) e0 6 0 0),(2,.bool first),(3,.optr (.s 2) e2 7 0 0),(6,.optr (.s 3) e3 3 0 0),(7,.optr (.s 4) e4 3 0 0)]) (h':=⟨[.vec e0 [[.bool bar,.int .i64 v,.bool d,.bool th,.bool tie,.oslc (.s 8) e8 5 0 (kepS y l).length false]],.hole,.vec e2 [chgC y ti re i],.vec e3 [[.int .i64 0,.nils,.nils]],.vec e4 [[.int .i64 0,.oslc (.s 7) e7 8 0 l.length false,.oslc (.s 6) e6 1 0 l.length false]],.hole,.vec e6 (l.map (loR y)),.vec e7 (l.map (ovR y)),.vec e8 ((kepS y l).map stR),.hole,.hole,.hole],dy⟩) rfl rfl ?_;refine wk_tr ?_;refine tr_fz 7 e7 (rows:=l.map (ovR y)) (fr':=frOf 0 112 [(1,.optr (.s 0) e0 6 0 0),(2,.bool first),(3,.optr (.s 2) e2 7 0 0),(6,.optr (.s 3) e3 3 0 0),(7,.optr (.s 4) e4 3 0 0)]) (st':=[.vec e0 [[.bool bar,.int .i64 v,.bool d,.bool th,.bool tie,.oslc (.s 8) e8 5 0 (kepS y l).length false]],.hole,.vec e2 [chgC y ti re i],.vec e3 [[.int .i64 0,.nils,.nils]],.vec e4 [[.int .i64 0,.lslc 8 (l.map (ovR y)) 0 l.length false,.oslc (.s 6) e6 1 0 l.length false]],.hole,.vec e6 (l.map (loR y)),.hole,.vec e8 ((kepS y l).map stR),.hole,.hole,.hole])
    rfl (pure_map l (pure_ovR y)) (by (repeat' (first|exact trivial|exact eqsP_rows _ (fun x=>rfl)|((conv=>whnf);first|exact trivial|refine ⟨rfl,?_⟩|refine ⟨?_,?_⟩|fail)))) (by (repeat' (first|exact trivial|exact eqsP_rows _ (fun x=>rfl)|((conv=>whnf);first|exact trivial|refine ⟨rfl,?_⟩|refine ⟨?_,?_⟩|fail)))) hdy rfl ?_ ?_
   ·show [.vec e0 [[.bool bar,.int .i64 v,.bool d,.bool th,.bool tie,.oslc (.s 8) e8 5 0 (kepS y l).length false]],.hole,.vec e2 [chgC y ti re i],.vec e3 [[.int .i64 0,.nils,.nils]],.vec e4 [[.int .i64 0,.lslc 8 (l.map (ovR y)) 0 l.length false,.oslc (.s 6) e6 1 0 l.length false]],.hole,(AObj.vec e6 (l.map (loR y))).fcO 7 (l.map (ovR y)),.hole,(AObj.vec e8 ((kepS y l).map stR)).fcO 7 (l.map (ovR y)),.hole,.hole,.hole]=_;rw [fcO_noO n6,fcO_noO n8]
   refine tr_fz 6 e6 (rows:=l.map (loR y)) (fr':=frOf 0 112 [(1,.optr (.s 0) e0 6 0 0),(2,.bool first),(3,.optr (.s 2) e2 7 0 0),(6,.optr (.s 3) e3 3 0 0),(7,.optr (.s 4) e4 3 0 0)]) (st':=[.vec e0 [[.bool bar,.int .i64 v,.bool d,.bool th,.bool tie,.oslc (.s 8) e8 5 0 (kepS y l).length false]],.hole,.vec e2 [chgC y ti re i],.vec e3 [[.int .i64 0,.nils,.nils]],.vec e4 [[.int .i64 0,.lslc 8 (l.map (ovR y)) 0 l.length false,.lslc 1 (l.map (loR y)) 0 l.length false]],.hole,.hole,.hole,.vec e8 ((kepS y l).map stR),.hole,.hole,.hole])
    rfl (pure_map l fun x=>rfl) (by (repeat' (first|exact trivial|exact eqsP_rows _ (fun x=>rfl)|((conv=>whnf);first|exact trivial|refine ⟨rfl,?_⟩|refine ⟨?_,?_⟩|fail)))) (by (repeat' (first|exact trivial|exact eqsP_rows _ (fun x=>rfl)|((conv=>whnf);first|exact trivial|refine ⟨rfl,?_⟩|refine ⟨?_,?_⟩|fail)))) hdy rfl ?_ ?_
   ·show [.vec e0 [[.bool bar,.int .i64 v,.bool d,.bool th,.bool tie,.oslc (.s 8) e8 5 0 (kepS y l).length false]],.hole,.vec e2 [chgC y ti re i],.vec e3 [[.int .i64 0,.nils,.nils]],.vec e4 [[.int .i64 0,.lslc 8 (l.map (ovR y)) 0 l.length false,.lslc 1 (l.map (loR y)) 0 l.length false]],.hole,.hole,.hole,(AObj.vec e8 ((kepS y l).map stR)).fcO 6 (l.map (loR y)),.hole,.hole,.hole]=_;rw [fcO_noO n8]
   refine tr_mvG 8 e8 (o:=.vec e8 ((kepS y l).map stR)) (by exact rfl) (by exact rfl) (by (repeat' (first|exact trivial|exact rfl|((conv=>whnf);first|exact trivial|exact rfl|refine ⟨?_,?_⟩|fail)))) (by (repeat' (first|exact trivial|exact rfl|((conv=>whnf);first|exact trivial|exact rfl|refine ⟨?_,?_⟩|fail)))) (noO_eqs n8) hdy fun ep2=>?_;refine tr_eq (fr':=frOf 0 112 [(1,.optr (.s 0) e0 6 0 0),(2,.bool first),(3,.optr (.s 2) e2 7 0 0),(6,.optr (.s 3) e3 3 0 0),(7,.optr (.s 4) e4 3 0 0)]) (h':=⟨[.vec e0 [[.bool bar,.int .i64 v,.bool d,.bool th,.bool tie,.oslc (.d dy.length) ep2 5 0 (kepS y l).length false]],.hole,.vec e2 [chgC y ti re i],.vec e3 [[.int .i64 0,.nils,.nils]],.vec e4 [[.int .i64 0,.lslc 8 (l.map (ovR y)) 0 l.length false,.lslc 1 (l.map (loR y)) 0 l.length false]],.hole,.hole,.hole,.hole,.hole,.hole,.hole],dy++[.vec ep2 ((kepS y l).map stR)]⟩) rfl ?_ (tr_done ?_)
   ·show (⟨[.vec e0 [[.bool bar,.int .i64 v,.bool d,.bool th,.bool tie,.oslc (.d dy.length) ep2 5 0 (kepS y l).length false]],.hole,.vec e2 [chgC y ti re i],.vec e3 [[.int .i64 0,.nils,.nils]],.vec e4 [[.int .i64 0,.lslc 8 (l.map (ovR y)) 0 l.length false,.lslc 1 (l.map (loR y)) 0 l.length false]],.hole,.hole,.hole,.hole,.hole,.hole,.hole],dy++[(AObj.vec ep2 ((kepS y l).map stR)).mapc (mcG 8 dy.length ep2)]⟩:Heap)=_;rw [noO_map (show noO (.vec ep2 ((kepS y l).map stR)) from n8)]
   by_cases hk0:kepS y l=[]
   ·rw [if_pos hk0] at hK;have hkl0:(kepS y l).length=0:=by rw [hk0];rfl
    cases first<;>cases ti
    all_goals refine wk_seq (wkA (okx [] [107]) mixed (A:=A77) ?_)
    all_goals (repeat' (first|exact hK _ _|exact rfl|((conv=>whnf);first|exact rfl|exact ⟨rfl,rfl⟩|refine go1 ?_|(intro ep)|(refine ifB ?_ ?_<;>intro hb<;>(try simp only [qs] at hb)<;>(try simp (disch:=omega) only [wrapI] at hb)<;>(try (exfalso;omega)))|fail)))
    all_goals (conv=>whnf)
    all_goals refine wk_seq (wkA (okx [] [107]) mixed (A:=A77) ?_)
    all_goals (repeat' (first|exact hK _ _|exact rfl|((conv=>whnf);first|exact rfl|exact ⟨rfl,rfl⟩|refine go1 ?_|(intro ep)|(refine wkA (okx [] [107]) mixed (A:=A77) ?_)|fail)))
   ·rw [if_neg hk0] at hK;have hkl0:0<(kepS y l).length:=List.length_pos_iff.2 hk0;refine wk_seq (wkA (okx [] [107]) mixed (A:=A77) ?_)
    (repeat' (first|exact hK _ _|exact rfl|((conv=>whnf);first|exact rfl|exact ⟨rfl,rfl⟩|refine go1 ?_|(intro ep)|(refine ifB ?_ ?_<;>intro hb<;>(try simp only [qs] at hb)<;>(try simp (disch:=omega) only [wrapI] at hb)<;>(try (exfalso;omega)))|fail)))
    all_goals (conv=>whnf)
    all_goals refine wk_seq (wkA (okx [] [107]) mixed (A:=A77) ?_)
    all_goals (repeat' (first|exact hK _ _|exact rfl|((conv=>whnf);first|exact rfl|exact ⟨rfl,rfl⟩|refine go1 ?_|(intro ep)|(refine wkA (okx [] [107]) mixed (A:=A77) ?_)|fail)))

def outS (y:Sy) (ti re:Bool):Bool→List Evt→List Evt
 |_,[]=>[]
 |b,e::r=>oneE y ti re b e::outS y ti re false r
def oneR (y:Sy) (ti re:Bool) (e:Evt):List AV:=
 if e.stops=[] then [.int .i64 (tieE ti re e.tie).1,.nils,.nils] else [.int .i64 0,.lslc 8 (e.stops.map (ovR y)) 0 e.stops.length false,.lslc 1 (e.stops.map (loR y)) 0 e.stops.length false]
theorem outS_len (y:Sy) (ti re:Bool):∀(b:Bool) (l:List Evt),(outS y ti re b l).length=l.length
 |_,[]=>rfl
 |b,e::r=>by simp [outS,outS_len y ti re false r]
theorem outS_snoc (y:Sy) (ti re:Bool):∀(l:List Evt) (b:Bool) (k:Nat) (h:k<l.length),outS y ti re b (l.take (k+1))=outS y ti re b (l.take k)++[oneE y ti re (b&&k==0) l[k]]
 |e::r,b,0,h=>by simp [outS]
 |e::r,b,k+1,h=>by
  have:=outS_snoc y ti re r false k (by simpa using h);rw [List.take_succ_cons,outS,this,List.take_succ_cons,outS];simp
def A42:Ann:=fun r=>match r with
 |0=>{ slots:=[(0,1),(1,2),(2,3)] }
 |1=>{ slots:=[(3,4)] }
 |5=>{ slots:=[(3,0)] }
 |6=>{ slots:=[(4,5)] }
 |7=>{ slots:=[(2,6),(3,7)] }
 |8=>{ slots:=[(3,8),(4,9)] }
 |19=>{ plan:=some (.one 0 (.one 1 (.one 2 (.one 3 (.one 5 (.one 6 (.one 7 (.one 8 (.one 9 (.one 10 (.br 4 11 (.one 11 (.one 12 (.one 13 (.one 14 (.one 15 (.done)))))) (.one 4 (.one 12 (.one 13 (.one 14 (.one 15 (.done)))))))))))))))))  }
 |25=>{ slots:=[(2,10)] }
 |_=>{}
noncomputable def bod42:Code:=Tryz.f42.body.getD .skip
noncomputable def car42:Code:=sndC (sndC (sndC bod42))
noncomputable def res42:Code:=sndC car42
theorem one77p {y:Sy} {ti re first:Bool} {i:Ins} {ev:Evt} (hl:ev.stops.length≤1000) (hin:∀s∈ev.stops,s.In) (hasc:ev.stops.Pairwise fun a b=>a.c<b.c) {e0:Nat} {tl dy:List AObj} (hdy:∀o∈dy,noO o) {R:List AV} (hR:oneR y ti re ev=R) {K:AV→Heap→Prop}
  (hK:∀ep,K (.agg R) ⟨.vec e0 [evX (oneE y ti re first ev) (.oslc (.d dy.length) ep 5 0 (oneE y ti re first ev).stops.length false)]::tl,dy++[.vec ep ((oneE y ti re first ev).stops.map stR)]⟩):
  ACalls C.P 77 [.agg (chgC y ti re i),.optr (.s 0) e0 6 0 0,.bool first] ⟨.vec e0 [evR ev]::tl,dy⟩ K:=by
 have hA:oneA y ti re ev= .agg R:=by
  rw [←hR];unfold oneA oneR;split<;>rfl
 refine ACalls.tail (st1:=[.vec e0 [evR ev]]) (tl:=tl) (one77 y ti re first i ev hl hin hasc hdy (K:=fun r h=>r= .agg R∧∃ep rest,h=⟨.vec e0 [evX (oneE y ti re first ev) (.oslc (.d dy.length) ep 5 0 (oneE y ti re first ev).stops.length false)]::rest,dy++[.vec ep ((oneE y ti re first ev).stops.map stR)]⟩) fun ep rest=>⟨hA,ep,rest,rfl⟩) ?_;rintro r h1 ⟨e1,ep,rest,e2⟩;subst e1 e2;exact hK ep
theorem carA (y:Sy) (ti re:Bool) (q:Pc) (hc:chk q=0) {c0 p0 r0 p6:Nat} {K:AE→List AV→Heap→Prop}
  (hK:∀e7 e9 eps,WK C res42 (frOf 0 131 [(2,.optr (.s 1) c0 7 0 0),(4,.optr (.s 3) r0 3 0 0),(6,.optr (.s 4) p6 3 0 0),(7,.oslc (.s 7) e7 3 0 q.evs.length false)])
   ⟨[.hole,.vec c0 [chgC y ti re q.ins],.hole,.vec r0 [[.nils,.nils,.nils]],.vec p6 [[crsA q.ins.cs,intsA q.ins.steps,.oslc (.s 9) e9 6 0 q.evs.length false]],.hole,.hole,.vec e7 (q.evs.map (oneR y ti re)),.hole,.vec e9 (rowsD memL 0 eps 0 (outS y ti re true q.evs)),.hole],objsD memL eps 0 (outS y ti re true q.evs)⟩ K):
  WK C car42 (frOf 0 131 [(2,.optr (.s 1) c0 7 0 0),(3,.optr (.s 2) p0 3 0 0),(4,.optr (.s 3) r0 3 0 0),(6,.optr (.s 4) p6 3 0 0),(7,.nils)])
   ⟨[.hole,.vec c0 [chgC y ti re q.ins],.vec p0 [[crsA q.ins.cs,intsA q.ins.steps,evsA q.evs]],.vec r0 [[.nils,.nils,.nils]],.vec p6 [[crsA q.ins.cs,intsA q.ins.steps,.nils]],.hole,.hole,.hole,.hole,.hole,.hole],[]⟩ K:=by
 have v:=vp hc;have hvl:=v.len;refine wk_seq (wkA ok mixed (A:=A42) ?_)
 (repeat' (first|exact rfl|((conv=>whnf);first|exact rfl|exact ⟨rfl,rfl⟩|refine go1 ?_|(intro ep)|fail)))
 (conv=>whnf);refine wk_mask [2,4,6,7,21,22,23] [1,3,4] (fr':=frOf 0 131 [(2,.optr (.s 1) c0 7 0 0),(4,.optr (.s 3) r0 3 0 0),(6,.optr (.s 4) p6 3 0 0),(7,.nils),(21,evsA q.evs),(22,.int .i64 q.evs.length),(23,.int .i64 0)]) (h':=⟨[.hole,.vec c0 [chgC y ti re q.ins],.hole,.vec r0 [[.nils,.nils,.nils]],.vec p6 [[crsA q.ins.cs,intsA q.ins.steps,.nils]],.hole,.hole,.hole,.hole,.hole,.hole],[]⟩) rfl rfl ?_;refine wk_lift 7 7 3 rfl fun e7=>?_;refine wk_liftC 4 9 p6 6 0 2 (by decide) rfl rfl rfl fun e9=>?_;refine loopY ok mixed (A:=A42) [2,4,6,7,21,22,23] [1,3,4,7,9] (S:={ z:Nat×Nat×Nat×(Nat→Nat) // z.1≤q.evs.length })
  (fr:=fun s=>frOf 0 131 [(2,.optr (.s 1) c0 7 0 0),(4,.optr (.s 3) r0 3 0 0),(6,.optr (.s 4) p6 3 0 0),(7,.oslc (.s 7) s.1.2.1 3 0 s.1.1 false),(21,evsA q.evs),(22,.int .i64 q.evs.length),(23,.int .i64 (s.1.1:Int))])
  (h:=fun s=>⟨[.hole,.vec c0 [chgC y ti re q.ins],.hole,.vec r0 [[.nils,.nils,.nils]],.vec p6 [[crsA q.ins.cs,intsA q.ins.steps,.oslc (.s 9) s.1.2.2.1 6 0 s.1.1 false]],.hole,.hole,.vec s.1.2.1 ((q.evs.take s.1.1).map (oneR y ti re)),.hole,.vec s.1.2.2.1 (rowsD memL 0 s.1.2.2.2 0 (outS y ti re true (q.evs.take s.1.1))),.hole],objsD memL s.1.2.2.2 0 (outS y ti re true (q.evs.take s.1.1))⟩) (μ:=fun s=>q.evs.length-s.1.1) ⟨(0,e7,e9,fun _=>0),by simp⟩ ?_ ?_
  [2,4,6,7] [1,3,4,7,9] (S':=Nat×Nat×(Nat→Nat)) (X:=fun _=>0) (frX:=fun s=>frOf 0 131 [(2,.optr (.s 1) c0 7 0 0),(4,.optr (.s 3) r0 3 0 0),(6,.optr (.s 4) p6 3 0 0),(7,.oslc (.s 7) s.1 3 0 q.evs.length false)])
  (hX:=fun s=>⟨[.hole,.vec c0 [chgC y ti re q.ins],.hole,.vec r0 [[.nils,.nils,.nils]],.vec p6 [[crsA q.ins.cs,intsA q.ins.steps,.oslc (.s 9) s.2.1 6 0 q.evs.length false]],.hole,.hole,.vec s.1 (q.evs.map (oneR y ti re)),.hole,.vec s.2.1 (rowsD memL 0 s.2.2 0 (outS y ti re true q.evs)),.hole],objsD memL s.2.2 0 (outS y ti re true q.evs)⟩)
  [] [] (S2:={ x:Nat // False }) (frR:=fun s=>frOf 0 131 []) (hR:=fun s=>⟨[],[]⟩) ?_ ?_ ?_
 ·exact rfl
 ·exact rfl
 ·rintro ⟨⟨k,e7,e9,eps⟩,hk⟩;dsimp only at hk;show aexR _ _ _ (frOf 0 131 [(2,.optr (.s 1) c0 7 0 0),(4,.optr (.s 3) r0 3 0 0),(6,.optr (.s 4) p6 3 0 0),(7,.oslc (.s 7) e7 3 0 k false),(21,evsA q.evs),(22,.int .i64 q.evs.length),(23,.int .i64 (k:Int))]) ⟨[.hole,.vec c0 [chgC y ti re q.ins],.hole,.vec r0 [[.nils,.nils,.nils]],.vec p6 [[crsA q.ins.cs,intsA q.ins.steps,.oslc (.s 9) e9 6 0 k false]],.hole,.hole,.vec e7 ((q.evs.take k).map (oneR y ti re)),.hole,.vec e9 (rowsD memL 0 eps 0 (outS y ti re true (q.evs.take k))),.hole],objsD memL eps 0 (outS y ti re true (q.evs.take k))⟩ _;(conv=>whnf);refine ifB (fun g1=>?_) (fun g1=>?_)
  ·simp only [decide_eq_true_eq] at g1;have hkl:k<q.evs.length:=by omega
   have hm:=mapR (f:=evR) hkl;have hwk:IntKind.i64.wrap ((k:Int)+1)=((k+1:Nat):Int):=by simp (disch:=omega) only [wrapI];omega
   have hol:(outS y ti re true (q.evs.take k)).length=k:=by rw [outS_len,List.length_take];omega
   have hdl:(objsD memL eps 0 (outS y ti re true (q.evs.take k))).length=k:=by rw [objsD_len,hol];simp [memL]
   have hsl:=v.sl k hkl;have hin:=stp_in hc hkl;have hasc:=v.asc k hkl;have hsn:=outS_snoc y ti re q.evs true k hkl;have hap7:(q.evs.take (k+1)).map (oneR y ti re)=List.take k (List.drop 0 ((q.evs.take k).map (oneR y ti re)))++[oneR y ti re q.evs[k]]:=by
    rw [take_same (by rw [List.length_map,List.length_take];omega),List.take_succ_eq_append_getElem hkl,List.map_append];rfl
   have hfk:((k:Int)==0)=(true&&k==0):=by
    cases k with
    |zero=>rfl
    |succ n=>simp;omega
   rw [←hfk] at hsn;obtain ⟨ev,hev⟩:∃ev,ev=q.evs[k]:=⟨_,rfl⟩;rw [←hev] at hm hin hasc hsn hsl hap7;have fin:∀(a b ep2:Nat),∃eps',rowsD memL 0 eps' 0 (outS y ti re true (q.evs.take (k+1)))=List.take k (List.drop 0 (rowsD memL 0 eps 0 (outS y ti re true (q.evs.take k))))++[evX (oneE y ti re ((k:Int)==0) ev) (.oslc (.d (objsD memL eps 0 (outS y ti re true (q.evs.take k))).length) ep2 5 0 (oneE y ti re ((k:Int)==0) ev).stops.length false)]∧
     objsD memL eps' 0 (outS y ti re true (q.evs.take (k+1)))=objsD memL eps 0 (outS y ti re true (q.evs.take k))++[.vec ep2 ((oneE y ti re ((k:Int)==0) ev).stops.map stR)]:=by
    intro a b ep2;obtain ⟨eps',h1,h2⟩:=layS memL 0 eps ep2 (outS y ti re true (q.evs.take k)) (oneE y ti re ((k:Int)==0) ev);refine ⟨eps',?_,?_⟩
    ·rw [hsn,h1,take_same (by rw [rowsD_len,hol]),hdl,hol,show 0+memL.c * k=k by show 0+1 * k=k;omega];rfl
    ·rw [hsn,h2];rfl
   by_cases hst:ev.stops=[]
   ·have hR:oneR y ti re ev=[.int .i64 (tieE ti re ev.tie).1,.nils,.nils]:=by unfold oneR;rw [if_pos hst]
    rw [hR] at hap7
    (repeat' (first|exact rfl|((conv=>whnf);first|(refine optS hm ?_)|(refine one77p (ev:=ev) (by omega) hin hasc (objsM_no _ _) hR fun ep2=>?_)|(rw [hwk])|exact rfl|exact ⟨rfl,rfl⟩|refine go1 ?_|(intro ep)|fail)))
    (conv=>whnf);rename_i ea eb ec e7n ed;obtain ⟨eps',h1,h2⟩:=fin 0 0 ep2;exact back_of ⟨(k+1,e7n,ep,eps'),hkl⟩ ⟨rfl,by dsimp only;rw [hap7,h1,h2];exact rfl,by dsimp only;omega⟩
   ·have hR:oneR y ti re ev=[.int .i64 0,.lslc 8 (ev.stops.map (ovR y)) 0 ev.stops.length false,.lslc 1 (ev.stops.map (loR y)) 0 ev.stops.length false]:=by unfold oneR;rw [if_neg hst]
    rw [hR] at hap7
    (repeat' (first|exact rfl|((conv=>whnf);first|(refine optS hm ?_)|(refine one77p (ev:=ev) (by omega) hin hasc (objsM_no _ _) hR fun ep2=>?_)|(rw [hwk])|exact rfl|exact ⟨rfl,rfl⟩|refine go1 ?_|(intro ep)|fail)))
    (conv=>whnf);rename_i ea eb ec e7n ed;obtain ⟨eps',h1,h2⟩:=fin 0 0 ep2;exact back_of ⟨(k+1,e7n,ep,eps'),hkl⟩ ⟨rfl,by dsimp only;rw [hap7,h1,h2];exact rfl,by dsimp only;omega⟩
  ·simp only [decide_eq_false_iff_not] at g1;obtain rfl:k=q.evs.length:=by omega
   rw [List.take_length]
   (repeat' (first|exact rfl|((conv=>whnf);first|exact rfl|exact ⟨rfl,rfl⟩|refine go1 ?_|(intro ep)|fail)))
   (conv=>whnf);exact back_of (e7,e9,eps) ⟨rfl,rfl,rfl⟩
 ·rintro ⟨_,h⟩;exact h.elim
 ·rintro ⟨e7,e9,eps⟩;exact hK e7 e9 eps
end Go.Ab.V
