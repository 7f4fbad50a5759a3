/-
  What is proved here serves the law's text: each part says its own claim and its conditions. No condition is left open.
-/
import Derived.Test.YtohegnfjdfcebaaGreatDoorJL
import Derived.Test.YtohegnfjdfcebaaGreatDoorKV
import Derived.Test.YtohegnfjdfcebaaGreatDoorKU
import Derived.Test.YtohegnfjdfcebaaGreatDoorJE
import Derived.Test.YtohegnfjdfcebaaGreatDoorJJ
set_option maxHeartbeats 32000000
set_option maxRecDepth 100000
set_option linter.unusedSimpArgs false
set_option linter.unusedVariables false

namespace Go.Ab.V
open Go.Proofs
def losSt (y:Sy) (out:List Stp) (e:Int) (s:Stp):List Lck:=
 if lostB y s=true then [⟨e,s.c,1⟩] else (hndL y s).map (fun w=>⟨e,s.c,w⟩)++(match out[(idxC s.c out 0).toNat]? with
  |some st=>if st.h=s.h then [] else [⟨e,s.c,4⟩]
  |none=>[])
def losSs (y:Sy) (out:List Stp) (e:Int) (l:List Stp):List Lck:=l.flatMap (losSt y out e)
def losEv (y:Sy) (ti re:Bool) (out:List Stp) (e:Int) (ev:Evt):List Lck:=
 if ev.stops=[] then (if (tieE ti re ev.tie).1≠0 then [⟨e,0,(tieE ti re ev.tie).1⟩] else []) else losSs y out e ev.stops
def losL (y:Sy) (ti re:Bool) (outs:List Evt):Nat→List Evt→List Lck
 |_,[]=>[]
 |j,e::r=>losEv y ti re ((outs[j]?.map Evt.stops).getD []) j e++losL y ti re outs (j+1) r
def KepOk (y:Sy) (out:List Stp) (l:List Stp):Prop:=∀s∈l,lostB y s=false→∃k st,idxC s.c out 0=(k:Nat)∧out[k]? =some st
def A80:Ann:=fun r=>match r with
 |0=>{ slots:=[(0,0)] }
 |4=>{ slots:=[(3,1)] }
 |6=>{ slots:=[(5,2),(6,3)] }
 |9=>{ slots:=[(3,4)] }
 |11=>{ slots:=[(5,5),(6,3)] }
 |15=>{ slots:=[(6,6),(7,3)] }
 |19=>{ slots:=[(5,7),(6,3)] }
 |_=>{}
theorem lk_snoc {acc:List Lck} {x:Lck}:(acc++[x]).map lkR=List.take acc.length (List.drop 0 (acc.map lkR))++[lkR x]:=by
 rw [take_same (List.length_map _),List.map_append];rfl
theorem fcP_no {n:Nat} {rows:List (List AV)} {a:AV} (h:noSt a=true):fcP n rows a=a:=by
 unfold fcP
 split
 ·simp [noSt] at h
 ·rfl
theorem mapc_fcP {n e:Nat} {rows rs:List (List AV)} (h:noO (.vec e rs)):(AObj.vec e rs).mapc (fcP n rows)= .vec e rs:=by
 show AObj.vec e (rs.map fun r=>r.map (fcP n rows))=_
 congr 1
 conv=>rhs;rw [←List.map_id rs]
 refine List.map_congr_left fun r hr=>?_
 conv=>rhs;rw [id,←List.map_id r]
 exact List.map_congr_left fun a ha=>fcP_no (h a (List.mem_flatten.2 ⟨r,hr,ha⟩))
theorem lks_no (e:Nat) (l:List Lck):noO (.vec e (l.map lkR)):=fun a ha=>by
 obtain ⟨r,hr,ha⟩:=List.mem_flatten.1 ha;obtain ⟨x,_,rfl⟩:=List.mem_map.1 hr;simp only [lkR,List.mem_cons,List.not_mem_nil,or_false] at ha
 rcases ha with rfl|rfl|rfl<;>rfl
theorem pure_ints0 (l:List Int):(intsA0 l).pure1=true:=by cases l<;>rfl
theorem losses80 (y:Sy) (ti re:Bool) (i:Ins) (evs outs:List Evt) (hn:evs.length≤1000) (hol:outs.length=evs.length) (hl:∀e∈evs,e.stops.length≤1000) (hlo:∀e∈outs,e.stops.length≤1000)
  (hk:∀j (h:j<evs.length) (h2:j<outs.length),KepOk y outs[j].stops evs[j].stops) (hR:(losL y ti re outs 0 evs).length≤1000000):
  ACalls C.P 80 [pcA ⟨i,outs⟩,.lslc 3 (evs.map (oneR y ti re)) 0 evs.length false] Heap.nil fun r h'=>∃id ep,r= .oslc id ep 3 0 (losL y ti re outs 0 evs).length false∧h'[id]? =some (.vec ep ((losL y ti re outs 0 evs).map lkR)):=by
 obtain ⟨R,hRR⟩:∃R,R=losL y ti re outs 0 evs:=⟨_,rfl⟩;rw [←hRR] at hR ⊢;refine fn_of ok mixed (A:=A80) 8 Tryz.func80 rfl ?_
 (repeat' (first|exact rfl|((conv=>whnf);first|exact rfl|exact ⟨rfl,rfl⟩|refine go1 ?_|(intro ep)|fail)));(conv=>whnf)
 obtain ⟨c0,he⟩:∃e,e=ep:=⟨_,rfl⟩;subst he;refine wk_lift 5 3 3 rfl fun e3=>?_;refine loopY ok mixed (A:=A80) [2,5,13,14,15] [0,3] (S:={ z:Nat×Nat×List Lck // z.1≤evs.length∧R=z.2.2++losL y ti re outs z.1 (evs.drop z.1) })
  (fr:=fun s=>frOf 0 97 [(2,.optr (.s 0) c0 3 0 0),(5,.oslc (.s 3) s.1.2.1 3 0 s.1.2.2.length false),(13,.lslc 3 (evs.map (oneR y ti re)) 0 evs.length false),(14,.int .i64 evs.length),(15,.int .i64 (s.1.1:Int))])
  (h:=fun s=>⟨[.vec c0 [[crsA i.cs,intsA i.steps,evsA outs]],.hole,.hole,.vec s.1.2.1 (s.1.2.2.map lkR),.hole,.hole,.hole,.hole],[]⟩) (μ:=fun s=>evs.length-s.1.1) ⟨(0,e3,[]),by simp,hRR⟩ ?_ ?_
  [5] [3] (S':=Nat) (X:=fun _=>0) (frX:=fun s=>frOf 0 97 [(5,.oslc (.s 3) s 3 0 R.length false)]) (hX:=fun s=>⟨[.hole,.hole,.hole,.vec s (R.map lkR),.hole,.hole,.hole,.hole],[]⟩)
  [] [] (S2:={ x:Nat // False }) (frR:=fun s=>frOf 0 97 []) (hR:=fun s=>⟨[],[]⟩) ?_ ?_ ?_
 ·exact rfl
 ·exact rfl
 ·rintro ⟨⟨j,e3,acc⟩,hj,hu⟩;dsimp only at hj hu;show aexR _ _ _ (frOf 0 97 [(2,.optr (.s 0) c0 3 0 0),(5,.oslc (.s 3) e3 3 0 acc.length false),(13,.lslc 3 (evs.map (oneR y ti re)) 0 evs.length false),(14,.int .i64 evs.length),(15,.int .i64 (j:Int))]) ⟨[.vec c0 [[crsA i.cs,intsA i.steps,evsA outs]],.hole,.hole,.vec e3 (acc.map lkR),.hole,.hole,.hole,.hole],[]⟩ _;(conv=>whnf);refine ifB (fun g1=>?_) (fun g1=>?_)
  ·simp only [decide_eq_true_eq] at g1;have hjl:j<evs.length:=by omega
   have hm:=mapR (f:=oneR y ti re) hjl;have hwj:IntKind.i64.wrap ((j:Int)+1)=((j+1:Nat):Int):=by simp (disch:=omega) only [wrapI];omega
   rw [drop_at hjl,losL] at hu;have hal:acc.length≤1000000:=by
    have:=congrArg List.length hu;rw [List.length_append] at this;omega
   have hjo:j<outs.length:=by omega
   have hkj:=hk j hjl hjo;have hlj:=hl _ (List.getElem_mem hjl);rw [show (outs[j]?.map Evt.stops).getD []=outs[j].stops by rw [List.getElem?_eq_getElem hjo];rfl] at hu;obtain ⟨ev,hev⟩:∃ev,ev=evs[j]:=⟨_,rfl⟩;rw [←hev] at hm hu hkj hlj;by_cases hst:ev.stops=[]
   ·have hm2:(evs.map (oneR y ti re))[0+((j:Nat):Int).toNat]? =some [.int .i64 (tieE ti re ev.tie).1,.nils,.nils]:=by
     rw [hm];unfold oneR;rw [if_pos hst]
    unfold losEv at hu;rw [if_pos hst] at hu;by_cases ht:(tieE ti re ev.tie).1=0
    ·rw [if_neg (fun h=>h ht),List.nil_append] at hu
     (repeat' (first|exact rfl|((conv=>whnf);first|(refine optS hm2 ?_)|(exact absurd ht hb)|exact rfl|exact ⟨rfl,rfl⟩|refine go1 ?_|(intro ep)|(refine ifB ?_ ?_<;>intro hb<;>(try simp only [qs] at hb)<;>(try simp (disch:=omega) only [wrapI] at hb)<;>(try (exfalso;omega)))|fail)))
     all_goals (conv=>whnf)
     refine loopU ok mixed (A:=A80) 1 ?_
     (repeat' (first|exact rfl|((conv=>whnf);first|(rw [hwj])|exact rfl|exact ⟨rfl,rfl⟩|refine go1 ?_|(intro ep)|(refine ifB ?_ ?_<;>intro hb<;>(try simp only [qs] at hb)<;>(try simp (disch:=omega) only [wrapI] at hb)<;>(try (exfalso;omega)))|fail)))
     all_goals (conv=>whnf)
     all_goals exact back_of ⟨(j+1,e3,acc),hjl,hu⟩ ⟨rfl,rfl,by dsimp only;omega⟩
    ·rw [if_pos ht] at hu
     (repeat' (first|exact rfl|((conv=>whnf);first|(refine optS hm2 ?_)|(exact absurd hb ht)|exact rfl|exact ⟨rfl,rfl⟩|refine go1 ?_|(intro ep)|(refine ifB ?_ ?_<;>intro hb<;>(try simp only [qs] at hb)<;>(try simp (disch:=omega) only [wrapI] at hb)<;>(try (exfalso;omega)))|fail)))
     all_goals (conv=>whnf)
     obtain ⟨e3n,he⟩:∃e,e=ep:=⟨_,rfl⟩;subst he;refine loopU ok mixed (A:=A80) 1 ?_
     (repeat' (first|exact rfl|((conv=>whnf);first|(rw [hwj])|exact rfl|exact ⟨rfl,rfl⟩|refine go1 ?_|(intro ep)|(refine ifB ?_ ?_<;>intro hb<;>(try simp only [qs] at hb)<;>(try simp (disch:=omega) only [wrapI] at hb)<;>(try (exfalso;omega)))|fail)))
     all_goals (conv=>whnf)
     all_goals exact back_of ⟨(j+1,e3n,acc++[⟨j,0,(tieE ti re ev.tie).1⟩]),hjl,by dsimp only;rw [hu,List.append_assoc]⟩ ⟨by dsimp only;rw [List.length_append];rfl,by dsimp only;rw [lk_snoc];exact rfl,by dsimp only;omega⟩
   ·obtain ⟨l,hle⟩:∃l,l=ev.stops:=⟨_,rfl⟩;obtain ⟨out,hoe⟩:∃out,out=outs[j].stops:=⟨_,rfl⟩;have hm2:(evs.map (oneR y ti re))[0+((j:Nat):Int).toNat]? =some [.int .i64 0,.lslc 8 (l.map (ovR y)) 0 l.length false,.lslc 1 (l.map (loR y)) 0 l.length false]:=by
     rw [hm,hle];unfold oneR;rw [if_neg hst]
    unfold losEv at hu;rw [if_neg hst,←hle,←hoe,←List.append_assoc] at hu;rw [←hle] at hlj hkj;rw [←hoe] at hkj;have hmev:(outs.map evR)[0+((j:Nat):Int).toNat]? =some [.bool outs[j].bar,.int .i64 outs[j].v,.bool outs[j].d,.bool outs[j].t,.bool outs[j].tie,stsA out]:=by
     rw [mapR (f:=evR) hjo,hoe];rfl
    have hout:out.length≤1000:=by rw [hoe];exact hlo _ (List.getElem_mem hjo)
    (repeat' (first|exact rfl|((conv=>whnf);first|(refine optS hm2 ?_)|exact rfl|exact ⟨rfl,rfl⟩|refine go1 ?_|(intro ep)|fail)))
    (conv=>whnf);obtain ⟨e1,he⟩:∃e,e=ep:=⟨_,rfl⟩;subst he;obtain ⟨RM,hRM⟩:∃RM,RM=acc++losSs y out j l:=⟨_,rfl⟩;rw [←hRM] at hu;have hRMl:RM.length≤1000000:=by
     have:=congrArg List.length hu;rw [List.length_append] at this;omega
    refine loopK [2,5,6,7,13,14,15,31,32,33] [0,1,3] (S:={ z:Nat×Nat×List Lck // z.1≤l.length∧RM=z.2.2++losSs y out j (l.drop z.1) })
     (fun s=>frOf 0 97 [(2,.optr (.s 0) c0 3 0 0),(5,.oslc (.s 3) s.1.2.1 3 0 s.1.2.2.length false),(6,.int .i64 (j:Int)),(7,.optr (.s 1) e1 3 0 0),(13,.lslc 3 (evs.map (oneR y ti re)) 0 evs.length false),(14,.int .i64 evs.length),(15,.int .i64 (j:Int)),(31,.lslc 8 (l.map (ovR y)) 0 l.length false),(32,.int .i64 l.length),(33,.int .i64 (s.1.1:Int))])
     (fun s=>⟨[.vec c0 [[crsA i.cs,intsA i.steps,evsA outs]],.vec e1 [[.int .i64 0,.lslc 8 (l.map (ovR y)) 0 l.length false,.lslc 1 (l.map (loR y)) 0 l.length false]],.hole,.vec s.1.2.1 (s.1.2.2.map lkR),.hole,.hole,.hole,.hole],[]⟩) (fun s=>l.length-s.1.1) ⟨(0,e3,acc),by simp,hRM⟩ rfl rfl ?_
    rintro ⟨⟨k,e3,acc⟩,hkk,hu1⟩;dsimp only at hkk hu1;dsimp only;refine wk_seq (wkA ok mixed (A:=A80) ?_)
    (repeat' (first|exact rfl|((conv=>whnf);first|exact rfl|exact ⟨rfl,rfl⟩|refine go1 ?_|(intro ep)|fail)));(conv=>whnf)
    by_cases hkl:k<l.length
    ·refine wk_seq (wk_cond (t:=true) (by show AV.bool (decide ((k:Int)<(l.length:Int)))=_;rw [decide_eq_true (by omega)]) (wk_skip ?_));(conv=>whnf);have hmk:=mapR (f:=ovR y) hkl;have hmb:=mapR (f:=loR y) hkl;have hkj1:=hkj _ (List.getElem_mem hkl);have hwk:IntKind.i64.wrap ((k:Int)+1)=((k+1:Nat):Int):=by simp (disch:=omega) only [wrapI];omega
     have hal:acc.length≤1000000:=by
      have:=congrArg List.length hu1;rw [List.length_append] at this;omega
     rw [drop_at hkl] at hu1;have hu1:RM=acc++(losSt y out j l[k]++losSs y out j (l.drop (k+1))):=hu1;obtain ⟨s,hs⟩:∃s,s=l[k]:=⟨_,rfl⟩;rw [←hs] at hmk hmb hkj1 hu1;have hmb:(l.map (loR y))[0+((k:Nat):Int).toNat]? =some [.bool (lostB y s)]:=hmb;unfold ovR at hmk;unfold losSt at hu1;cases hlb:lostB y s with
     |true=>
      rw [hlb] at hmb;rw [if_pos hlb] at hu1;have hmk:(l.map (ovR y))[0+((k:Nat):Int).toNat]? =some (stR s++[.int .i64 s.c,.int .i64 s.h,.nils]):=by
       have:=mapR (f:=ovR y) hkl;rw [this,←hs];unfold ovR;rw [if_pos hlb]
      refine wk_seq (wkA ok mixed (A:=A80) ?_)
      (repeat' (first|exact rfl|((conv=>whnf);first|(refine optS hmk ?_)|(refine optS hmb ?_)|exact rfl|exact ⟨rfl,rfl⟩|refine go1 ?_|(intro ep)|fail)))
      (conv=>whnf);obtain ⟨e3n,he⟩:∃e,e=ep:=⟨_,rfl⟩;subst he;refine wkA ok mixed (A:=A80) ?_
      (repeat' (first|exact rfl|((conv=>whnf);first|(rw [hwk])|exact rfl|exact ⟨rfl,rfl⟩|refine go1 ?_|(intro ep)|fail)))
      (conv=>whnf);exact back_of ⟨(k+1,e3n,acc++[⟨j,s.c,1⟩]),hkl,by dsimp only;rw [hu1,List.append_assoc]⟩ ⟨by dsimp only;rw [List.length_append];rfl,by dsimp only;rw [lk_snoc];exact rfl,by dsimp only;omega⟩
     |false=>
      rw [hlb] at hmb;rw [if_neg (by rw [hlb];simp)] at hu1;obtain ⟨kk,st,hidx,hst2⟩:=hkj1 hlb;have hx:out[(idxC s.c out 0).toNat]? =some st:=by rw [hidx,Int.toNat_natCast];exact hst2
      rw [hx] at hu1;dsimp only at hu1;have hmk:(l.map (ovR y))[0+((k:Nat):Int).toNat]? =some (stR (hndS y s)++[.int .i64 s.c,.int .i64 s.h,intsA0 (hndL y s)]):=by
       have:=mapR (f:=ovR y) hkl;rw [this,←hs];unfold ovR;rw [if_neg (by rw [hlb];simp)]
      obtain ⟨W,hW⟩:∃W,W=hndL y s:=⟨_,rfl⟩;rw [←hW] at hmk hu1;obtain ⟨q,hq⟩:∃q,q=hndS y s:=⟨_,rfl⟩;have hqc:q.c=s.c:=by rw [hq];rfl
      rw [←hq] at hmk;obtain ⟨hkk2,hst3⟩:=List.getElem?_eq_some_iff.1 hst2;have hmo:(out.map stR)[0+((kk:Nat):Int).toNat]? =some (stR st):=by rw [mapR (f:=stR) hkk2,hst3]
      have hpx:=pure_ints0 W;obtain ⟨X,hX⟩:∃X,X=intsA0 W:=⟨_,rfl⟩;rw [←hX] at hmk hpx;have h78:PRet C.P 78 [stsA out,.fn (.func 110) [] [.lptr 8 [stR q++[.int .i64 s.c,.int .i64 s.h,X]] 0 0]] (.int .i64 (kk:Int)):=by
       rw [←hidx,←hqc];exact p78b out (by omega) q q.c s.h X
      refine wk_seq (wk_block (wk_seq (wkA ok mixed (A:=A80) ?_)))
      (repeat' (first|exact rfl|((conv=>whnf);first|(refine optS hmk ?_)|exact rfl|exact ⟨rfl,rfl⟩|refine go1 ?_|(intro ep)|fail)))
      (conv=>whnf);obtain ⟨e4,he⟩:∃e,e=ep:=⟨_,rfl⟩;subst he;refine wk_seq (wkA ok mixed (A:=A80) ?_)
      (repeat' (first|exact rfl|((conv=>whnf);first|(refine optS hmb ?_)|exact rfl|exact ⟨rfl,rfl⟩|refine go1 ?_|(intro ep)|fail)))
      (conv=>whnf);refine wk_mask [2,5,6,7,9,13,14,15,31,32,33] [0,1,3,4] (fr':=frOf 0 97 [(2,.optr (.s 0) c0 3 0 0),(5,.oslc (.s 3) e3 3 0 acc.length false),(6,.int .i64 (j:Int)),(7,.optr (.s 1) e1 3 0 0),(9,.optr (.s 4) e4 8 0 0),(13,.lslc 3 (evs.map (oneR y ti re)) 0 evs.length false),(14,.int .i64 evs.length),(15,.int .i64 (j:Int)),(31,.lslc 8 (l.map (ovR y)) 0 l.length false),(32,.int .i64 l.length),(33,.int .i64 (k:Int))])
       (h':=⟨[.vec c0 [[crsA i.cs,intsA i.steps,evsA outs]],.vec e1 [[.int .i64 0,.lslc 8 (l.map (ovR y)) 0 l.length false,.lslc 1 (l.map (loR y)) 0 l.length false]],.hole,.vec e3 (acc.map lkR),.vec e4 [stR q++[.int .i64 s.c,.int .i64 s.h,X]],.hole,.hole,.hole],[]⟩) rfl rfl ?_
      refine wk_tr (tr_fp 4 e4 (row:=stR q++[.int .i64 s.c,.int .i64 s.h,X])
       (fr':=frOf 0 97 [(2,.optr (.s 0) c0 3 0 0),(5,.oslc (.s 3) e3 3 0 acc.length false),(6,.int .i64 (j:Int)),(7,.optr (.s 1) e1 3 0 0),(9,.lptr 8 [stR q++[.int .i64 s.c,.int .i64 s.h,X]] 0 0),(13,.lslc 3 (evs.map (oneR y ti re)) 0 evs.length false),(14,.int .i64 evs.length),(15,.int .i64 (j:Int)),(31,.lslc 8 (l.map (ovR y)) 0 l.length false),(32,.int .i64 l.length),(33,.int .i64 (k:Int))])
       (st':=[.vec c0 [[crsA i.cs,intsA i.steps,evsA outs]],.vec e1 [[.int .i64 0,.lslc 8 (l.map (ovR y)) 0 l.length false,.lslc 1 (l.map (loR y)) 0 l.length false]],.hole,.vec e3 (acc.map lkR),.hole,.hole,.hole,.hole]) (dy':=[])
       rfl ?_ (by (repeat' (first|exact trivial|exact rfl|((conv=>whnf);first|exact trivial|exact rfl|refine ⟨?_,?_⟩|fail)))) ?_ trivial rfl ?_ rfl (tr_done ?_))
      ·intro r hr c hc;rw [List.mem_singleton.1 hr] at hc;simp only [stR,List.cons_append,List.nil_append,List.mem_cons,List.not_mem_nil,or_false] at hc
       rcases hc with rfl|rfl|rfl|rfl|rfl|rfl|rfl|rfl<;>first|rfl|exact hpx
      ·exact ⟨by (repeat' (first|exact trivial|exact rfl|((conv=>whnf);first|exact trivial|exact rfl|refine ⟨?_,?_⟩|fail))),by (repeat' (first|exact trivial|exact rfl|((conv=>whnf);first|exact trivial|exact rfl|refine ⟨?_,?_⟩|fail))),trivial,noO_eqs (lks_no _ _),trivial,trivial,trivial,trivial,trivial⟩
      ·obtain ⟨RW,hRW⟩:∃RW:List (List AV),RW=[stR q++[.int .i64 s.c,.int .i64 s.h,X]]:=⟨_,rfl⟩;rw [←hRW];show [.vec c0 [[crsA i.cs,intsA i.steps,evsA outs]],.vec e1 [[.int .i64 0,.lslc 8 (l.map (ovR y)) 0 l.length false,.lslc 1 (l.map (loR y)) 0 l.length false]],.hole,((AObj.vec e3 (acc.map lkR)).fcO 4 RW).mapc (fcP 4 RW),.hole,.hole,.hole,.hole]=_;rw [fcO_noO (lks_no _ _),mapc_fcP (lks_no _ _)]
      have hu2:RM=(acc++W.map (fun w=>(⟨j,s.c,w⟩:Lck)))++((if st.h=s.h then [] else [(⟨j,s.c,4⟩:Lck)])++losSs y out j (l.drop (k+1))):=by
       rw [hu1];simp only [List.append_assoc]
      have hAl:(acc++W.map (fun w=>(⟨j,s.c,w⟩:Lck))).length≤1000000:=by
       have:=congrArg List.length hu2;rw [List.length_append] at this;omega
      obtain ⟨AC,hAC⟩:∃AC,AC=acc++W.map (fun w=>(⟨j,s.c,w⟩:Lck)):=⟨_,rfl⟩;rw [←hAC] at hu2 hAl;refine wk_cut [2,5,6,7,9,13,14,15,31,32,33] [0,1,3] (S:=Nat)
       (fun z=>frOf 0 97 [(2,.optr (.s 0) c0 3 0 0),(5,.oslc (.s 3) z 3 0 AC.length false),(6,.int .i64 (j:Int)),(7,.optr (.s 1) e1 3 0 0),(9,.lptr 8 [stR q++[.int .i64 s.c,.int .i64 s.h,X]] 0 0),(13,.lslc 3 (evs.map (oneR y ti re)) 0 evs.length false),(14,.int .i64 evs.length),(15,.int .i64 (j:Int)),(31,.lslc 8 (l.map (ovR y)) 0 l.length false),(32,.int .i64 l.length),(33,.int .i64 (k:Int))])
       (fun z=>⟨[.vec c0 [[crsA i.cs,intsA i.steps,evsA outs]],.vec e1 [[.int .i64 0,.lslc 8 (l.map (ovR y)) 0 l.length false,.lslc 1 (l.map (loR y)) 0 l.length false]],.hole,.vec z (AC.map lkR),.hole,.hole,.hole,.hole],[]⟩) (wkA ok mixed (A:=A80) ?_) ?_
      ·cases W with
       |nil=>
        rw [List.map_nil,List.append_nil] at hAC;subst hAC;have hX:X= .nils:=hX;subst hX
        (repeat' (first|exact rfl|((conv=>whnf);first|exact rfl|exact ⟨rfl,rfl⟩|refine go1 ?_|(intro ep)|fail)))
        (conv=>whnf);refine loopU ok mixed (A:=A80) 1 ?_
        (repeat' (first|exact rfl|((conv=>whnf);first|exact rfl|exact ⟨rfl,rfl⟩|refine go1 ?_|(intro ep)|(refine ifB ?_ ?_<;>intro hb<;>(try simp only [qs] at hb)<;>(try simp (disch:=omega) only [wrapI] at hb)<;>(try (exfalso;omega)))|fail)))
        all_goals (conv=>whnf)
        all_goals exact back_of e3 ⟨rfl,rfl⟩
       |cons wa wr=>
        obtain ⟨V,hV⟩:∃V,V=wa::wr:=⟨_,rfl⟩;have hX:X=intsA V:=by rw [hX,hV];rfl
        rw [←hV] at hAC;have hVl:V.length≤1000000:=by
         have:=congrArg List.length hAC;rw [List.length_append,List.length_map] at this;omega
        clear hpx h78;subst hX
        (repeat' (first|exact rfl|((conv=>whnf);first|exact rfl|exact ⟨rfl,rfl⟩|refine go1 ?_|(intro ep)|fail)))
        (conv=>whnf);refine loopY ok mixed (A:=A80) [2,5,6,7,9,13,14,15,31,32,33,51,52,53] [0,1,3] (S:={ z:Nat×Nat×List Lck // z.1≤V.length∧AC=z.2.2++(V.drop z.1).map (fun w=>(⟨j,s.c,w⟩:Lck)) })
         (fr:=fun z=>frOf 0 97 [(2,.optr (.s 0) c0 3 0 0),(5,.oslc (.s 3) z.1.2.1 3 0 z.1.2.2.length false),(6,.int .i64 (j:Int)),(7,.optr (.s 1) e1 3 0 0),(9,.lptr 8 [stR q++[.int .i64 s.c,.int .i64 s.h,intsA V]] 0 0),(13,.lslc 3 (evs.map (oneR y ti re)) 0 evs.length false),(14,.int .i64 evs.length),(15,.int .i64 (j:Int)),(31,.lslc 8 (l.map (ovR y)) 0 l.length false),(32,.int .i64 l.length),(33,.int .i64 (k:Int)),(51,intsA V),(52,.int .i64 V.length),(53,.int .i64 (z.1.1:Int))])
         (h:=fun z=>⟨[.vec c0 [[crsA i.cs,intsA i.steps,evsA outs]],.vec e1 [[.int .i64 0,.lslc 8 (l.map (ovR y)) 0 l.length false,.lslc 1 (l.map (loR y)) 0 l.length false]],.hole,.vec z.1.2.1 (z.1.2.2.map lkR),.hole,.hole,.hole,.hole],[]⟩) (μ:=fun z=>V.length-z.1.1) ⟨(0,e3,acc),by simp,hAC⟩ ?_ ?_
         [2,5,6,7,9,13,14,15,31,32,33] [0,1,3] (S':=Nat) (X:=fun _=>4) (frX:=fun z=>frOf 0 97 [(2,.optr (.s 0) c0 3 0 0),(5,.oslc (.s 3) z 3 0 AC.length false),(6,.int .i64 (j:Int)),(7,.optr (.s 1) e1 3 0 0),(9,.lptr 8 [stR q++[.int .i64 s.c,.int .i64 s.h,intsA V]] 0 0),(13,.lslc 3 (evs.map (oneR y ti re)) 0 evs.length false),(14,.int .i64 evs.length),(15,.int .i64 (j:Int)),(31,.lslc 8 (l.map (ovR y)) 0 l.length false),(32,.int .i64 l.length),(33,.int .i64 (k:Int))])
         (hX:=fun z=>⟨[.vec c0 [[crsA i.cs,intsA i.steps,evsA outs]],.vec e1 [[.int .i64 0,.lslc 8 (l.map (ovR y)) 0 l.length false,.lslc 1 (l.map (loR y)) 0 l.length false]],.hole,.vec z (AC.map lkR),.hole,.hole,.hole,.hole],[]⟩)
         [] [] (S2:={ x:Nat // False }) (frR:=fun s=>frOf 0 97 []) (hR:=fun s=>⟨[],[]⟩) ?_ ?_ ?_
        ·exact rfl
        ·exact rfl
        ·rintro ⟨⟨w,e3,acc⟩,hw,hv⟩;dsimp only at hw hv;dsimp only;have hal:acc.length≤1000000:=by
          have:=congrArg List.length hv;rw [List.length_append] at this;omega
         (conv=>whnf);refine ifB (fun g1=>?_) (fun g1=>?_)
         ·simp only [decide_eq_true_eq] at g1;have hwl:w<V.length:=by omega
          have hmv:=intsR hwl;have hww:IntKind.i64.wrap ((w:Int)+1)=((w+1:Nat):Int):=by simp (disch:=omega) only [wrapI];omega
          rw [drop_at hwl,List.map_cons] at hv
          (repeat' (first|exact rfl|((conv=>whnf);first|(refine optS hmv ?_)|(rw [hww])|exact rfl|exact ⟨rfl,rfl⟩|refine go1 ?_|(intro ep)|fail)))
          (conv=>whnf);exact back_of ⟨(w+1,ep,acc++[⟨j,s.c,V[w]⟩]),hwl,by dsimp only;rw [hv,List.append_assoc];rfl⟩ ⟨by dsimp only;rw [List.length_append];rfl,by dsimp only;rw [lk_snoc];exact rfl,by dsimp only;omega⟩
         ·simp only [decide_eq_false_iff_not] at g1;obtain rfl:w=V.length:=by omega
          rw [List.drop_length,List.map_nil,List.append_nil] at hv;subst hv
          (repeat' (first|exact rfl|((conv=>whnf);first|exact rfl|exact ⟨rfl,rfl⟩|refine go1 ?_|(intro ep)|fail)));(conv=>whnf)
          exact back_of e3 ⟨rfl,rfl,rfl⟩
        ·rintro ⟨_,h⟩;exact h.elim
        ·intro z;(conv=>whnf);exact back_of z ⟨rfl,rfl⟩
      ·intro e3;dsimp only;refine wk_seq (wkA ok mixed (A:=A80) ?_)
       (repeat' (first|exact rfl|((conv=>whnf);first|(refine optS hmev ?_)|(refine ⟨_,h78,?_⟩)|exact rfl|exact ⟨rfl,rfl⟩|refine go1 ?_|(intro ep)|fail)))
       (conv=>whnf);refine wkA ok mixed (A:=A80) ?_;by_cases hh:st.h=s.h
       ·rw [if_pos hh,List.nil_append] at hu2
        (repeat' (first|exact rfl|((conv=>whnf);first|(refine optS hmev ?_)|(refine optS hmo ?_)|(exact absurd hh hb)|exact rfl|exact ⟨rfl,rfl⟩|refine go1 ?_|(intro ep)|(refine ifB ?_ ?_<;>intro hb<;>(try simp only [qs] at hb)<;>(try simp (disch:=omega) only [wrapI] at hb)<;>(try (exfalso;omega)))|fail)))
        all_goals (conv=>whnf)
        all_goals refine wkA ok mixed (A:=A80) ?_
        all_goals (repeat' (first|exact rfl|((conv=>whnf);first|(rw [hwk])|exact rfl|exact ⟨rfl,rfl⟩|refine go1 ?_|(intro ep)|fail)))
        all_goals (conv=>whnf)
        all_goals exact back_of ⟨(k+1,e3,AC),hkl,hu2⟩ ⟨rfl,rfl,by dsimp only;omega⟩
       ·rw [if_neg hh] at hu2
        (repeat' (first|exact rfl|((conv=>whnf);first|(refine optS hmev ?_)|(refine optS hmo ?_)|(exact absurd hb hh)|exact rfl|exact ⟨rfl,rfl⟩|refine go1 ?_|(intro ep)|(refine ifB ?_ ?_<;>intro hb<;>(try simp only [qs] at hb)<;>(try simp (disch:=omega) only [wrapI] at hb)<;>(try (exfalso;omega)))|fail)))
        all_goals (conv=>whnf)
        all_goals obtain ⟨e3n,he⟩:∃e,e=ep:=⟨_,rfl⟩
        all_goals subst he
        all_goals refine wkA ok mixed (A:=A80) ?_
        all_goals (repeat' (first|exact rfl|((conv=>whnf);first|(rw [hwk])|exact rfl|exact ⟨rfl,rfl⟩|refine go1 ?_|(intro ep)|fail)))
        all_goals (conv=>whnf)
        all_goals exact back_of ⟨(k+1,e3n,AC++[⟨j,s.c,4⟩]),hkl,by dsimp only;rw [hu2,List.append_assoc]⟩ ⟨by dsimp only;rw [List.length_append];rfl,by dsimp only;rw [lk_snoc];exact rfl,by dsimp only;omega⟩
    ·refine wk_seq (wk_cond (t:=false) (by show AV.bool (decide ((k:Int)<(l.length:Int)))=_;rw [decide_eq_false (by omega)]) (wk_exit ?_));obtain rfl:k=l.length:=by omega
     rw [List.drop_length] at hu1;have hu1:RM=acc:=by rw [hu1];exact List.append_nil _
     subst hu1
     (repeat' (first|exact rfl|((conv=>whnf);first|(rw [hwj])|exact rfl|exact ⟨rfl,rfl⟩|refine go1 ?_|(intro ep)|fail)))
     (conv=>whnf);exact back_of ⟨(j+1,e3,_),hjl,hu⟩ ⟨rfl,rfl,by dsimp only;omega⟩
  ·simp only [decide_eq_false_iff_not] at g1;obtain rfl:j=evs.length:=by omega
   rw [List.drop_length,losL,List.append_nil] at hu;subst hu
   (repeat' (first|exact rfl|((conv=>whnf);first|exact rfl|exact ⟨rfl,rfl⟩|refine go1 ?_|(intro ep)|fail)));(conv=>whnf)
   exact back_of e3 ⟨rfl,rfl,rfl⟩
 ·rintro ⟨_,h⟩;exact h.elim
 ·intro e3
  (repeat' (first|exact ⟨.s 3,e3,rfl,rfl⟩|((conv=>whnf);first|exact rfl|exact ⟨rfl,rfl⟩|refine go1 ?_|(intro ep)|fail)))

def setE (e:Evt) (k:Nat) (v:Int):Evt:=match e.stops[k]? with
 |none=>e
 |some s=>{ e with stops:=e.stops.set k { s with h:=v } }
def setH (l:List Evt) (i k:Nat) (v:Int):List Evt:=match l[i]? with
 |none=>l
 |some e=>l.set i (setE e k v)
def hldW (ev:List Evt) (i k:Nat) (w:Wr):Option (List Evt):=
 if w.h=0 then some ev else if longest ev i w.c=0∨longest ev i w.c<w.h then none else some (setH ev i k (if w.h<0 then longest ev i w.c else w.h))
def hldN:List Evt→Nat→Nat→List Wr→Option (List Evt)
 |ev,_,_,[]=>some ev
 |ev,i,k,w::r=>match hldW ev i k w with
  |none=>none
  |some ev'=>hldN ev' i (k+1) r
def hldL:List Evt→Nat→List (List Wr)→Option (List Evt)
 |ev,_,[]=>some ev
 |ev,i,ns::r=>match hldN ev i 0 ns with
  |none=>none
  |some ev'=>hldL ev' (i+1) r
def shpE (l:List Evt):List Nat:=l.map fun e=>e.stops.length
theorem setE_len (e:Evt) (k:Nat) (v:Int):(setE e k v).stops.length=e.stops.length:=by
 unfold setE
 split
 ·rfl
 ·simp
theorem setH_shp (l:List Evt) (i k:Nat) (v:Int):shpE (setH l i k v)=shpE l:=by
 unfold setH shpE
 split
 ·rfl
 ·rename_i e he;refine List.ext_getElem? fun j=>?_;rw [List.getElem?_map,List.getElem?_map,List.getElem?_set];by_cases c:i=j
  ·subst c;obtain ⟨h1,h2⟩:=List.getElem?_eq_some_iff.1 he;rw [if_pos rfl,if_pos h1,he];simp only [Option.map_some,setE_len]
  ·rw [if_neg c]
theorem setH_obj {l:List Evt} {i k:Nat} {v:Int} {eps:Nat→Nat} (h:i<l.length) {s:Stp} (hs:l[i].stops[k]? =some s):
  (objsD memL eps 0 l).set i (.vec (eps i) ((l[i].stops.map stR).set k [.int .i64 s.c,.int .i64 s.f,.int .i64 s.r,.int .i64 s.g,.int .i64 v]))=objsD memL eps 0 (setH l i k v):=by
 have e0:setH l i k v=l.set i (setE l[i] k v):=by unfold setH;rw [List.getElem?_eq_getElem h]
 have e1:(setE l[i] k v).stops=l[i].stops.set k { s with h:=v }:=by unfold setE;rw [hs]
 have e2:(l[i].stops.map stR).set k [.int .i64 s.c,.int .i64 s.f,.int .i64 s.r,.int .i64 s.g,.int .i64 v]=(setE l[i] k v).stops.map stR:=by rw [e1,List.map_set];rfl
 have:=objsM_set (eps:=eps) (X:=[]) (e':=setE l[i] k v) (l:=l) (i:=0) (k:=i) h;rw [Nat.zero_add,List.append_nil,List.append_nil] at this;rw [e0,e2,this]
theorem setH_rows {l:List Evt} {i k:Nat} {v:Int} {eps:Nat→Nat}:rowsD memL 0 eps 0 (setH l i k v)=rowsD memL 0 eps 0 l:=by
 unfold setH
 split
 ·rfl
 ·rename_i e he;obtain ⟨h1,h2⟩:=List.getElem?_eq_some_iff.1 he;subst h2;have hg:=rowsM_get (B:=0) (eps:=eps) (l:=l) (i:=0) h1;have hs:=rowsM_set (B:=0) (eps:=eps) (e':=setE l[i] k v) (l:=l) (i:=0) h1 (setE_len _ _ _);have e3:evX (setE l[i] k v)=evX l[i]:=by
   funext x
   unfold setE
   split<;>rfl
  rw [e3] at hs;rw [←hs];obtain ⟨h4,h5⟩:=List.getElem?_eq_some_iff.1 hg;rw [←h5,List.set_getElem_self]
theorem hldW_shp {ev ev':List Evt} {i k:Nat} {w:Wr} (h:hldW ev i k w=some ev'):shpE ev'=shpE ev:=by
 unfold hldW at h
 split at h
 ·cases h;rfl
 ·split at h
  ·cases h
  ·cases h;exact setH_shp _ _ _ _
theorem shp_len {l m:List Evt} (h:shpE l=shpE m):l.length=m.length:=by
 have:=congrArg List.length h;simpa [shpE] using this
def A15:Ann:=fun r=>match r with
 |6=>{ slots:=[(3,7)] }
 |10=>{ pan:=[1] }
 |_=>{}
theorem longest_mem0 {i:Ins} {evs:List Evt} {N:Nat} (hN:evs.length=N) {id:Id} {e5:Nat} {eps:Nat→Nat} {h:Heap} (ho:h[id]? =some (.vec e5 (rowsD memL 0 eps 0 evs))) (hd:h.dy=objsD memL eps 0 evs) (hp:(⟨i,evs⟩:Pc).Ok) (k c:Int) {K:AV→Heap→Prop}
  (hK:K (.int .i64 (longest evs k c)) h):ACalls C.P 29 [.agg [crsA i.cs,intsA i.steps,.oslc id e5 6 0 N false],.int .i64 k,.int .i64 c] h K:=by
 subst hN;exact longest_mem (X:=[]) ho (by rw [hd,List.append_nil]) hp k c hK
theorem holds15b {q0 q1 q2 q3:AObj} {e e5 e6:Nat} {ln:Int} {L:List (List UInt8)} {n:Nat} {cl:Bool} (y:Sy) (i:Ins) (evs:List Evt) (nts:List (List Wr)) (eps:Nat→Nat) {N:Nat}
  (hi:i.cs.length≤100000) (hi2:i.steps.length≤100000) (hev:evs.length=N) (hnt:nts.length=N) (hN:N≤100000) (hsh:shpE evs=nts.map List.length) (hsl:∀l∈nts,l.length≤200000) {K:AV→Heap→Prop} {KP:Nat→Value→Heap→Prop}
  (hK:∀ev,hldL evs 0 nts=some ev→∀ln rest,K (.tup []) ⟨[q0,q1,q2,q3,.vec e [[.int .u8 y.n,y.a,crsA i.cs,intsA i.steps,.oslc (.s 5) e5 6 0 N false,.oslc (.s 6) e6 1 0 N false,.int .i64 ln,.lslc 1 (strR L) 0 n false,.bool cl]],.vec e5 (rowsD memL 0 eps 0 ev),.vec e6 (nts.map ntR)]++rest,objsD memL eps 0 ev⟩)
  (hP:hldL evs 0 nts=none→∀t v h',PanOk q0 q1 q2 q3 t v h'→KP t v h'):
  ACallsP C.P 15 [.optr (.s 4) e 9 0 0] ⟨[q0,q1,q2,q3,.vec e [[.int .u8 y.n,y.a,crsA i.cs,intsA i.steps,.oslc (.s 5) e5 6 0 N false,.oslc (.s 6) e6 1 0 N false,.int .i64 ln,.lslc 1 (strR L) 0 n false,.bool cl]],.vec e5 (rowsD memL 0 eps 0 evs),.vec e6 (nts.map ntR)],objsD memL eps 0 evs⟩ K KP:=by
 obtain ⟨R0,hR⟩:∃R,R=hldL evs 0 nts:=⟨_,rfl⟩;rw [←hR] at hK hP;refine fnP_of (okx [] [29]) mixed (A:=A15) 1 Tryz.func15 rfl ?_
 (repeat' (first|exact rfl|((conv=>whnf);first|exact rfl|exact ⟨rfl,rfl⟩|refine go1 ?_|(intro ep)|(refine ifB ?_ ?_<;>intro hb<;>(try simp only [qs] at hb)<;>(try simp (disch:=omega) only [wrapI] at hb)<;>(try (exfalso;omega)))|fail)))
 (conv=>whnf);refine loopYP (okx [] [29]) mixed (A:=A15) [0,10,11,12] [0,1,2,3,4,5,6] (S:={ z:Nat×Int×List Evt // z.1≤N∧shpE z.2.2=nts.map List.length∧R0=hldL z.2.2 z.1 (nts.drop z.1) })
  (fr:=fun s=>frOf 0 72 [(0,.optr (.s 4) e 9 0 0),(10,.oslc (.s 6) e6 1 0 N false),(11,.int .i64 (N:Nat)),(12,.int .i64 (s.1.1:Int))])
  (h:=fun s=>⟨[q0,q1,q2,q3,.vec e [[.int .u8 y.n,y.a,crsA i.cs,intsA i.steps,.oslc (.s 5) e5 6 0 N false,.oslc (.s 6) e6 1 0 N false,.int .i64 s.1.2.1,.lslc 1 (strR L) 0 n false,.bool cl]],.vec e5 (rowsD memL 0 eps 0 s.1.2.2),.vec e6 (nts.map ntR),.hole],objsD memL eps 0 s.1.2.2⟩) (μ:=fun s=>N-s.1.1) ⟨(0,ln,evs),by simp,hsh,hR⟩ ?_ ?_
  [] [0,1,2,3,4,5,6] (S':={ z:Int×List Evt // R0=some z.2 }) (X:=fun _=>0) (frX:=fun s=>frOf 0 72 [])
  (hX:=fun s=>⟨[q0,q1,q2,q3,.vec e [[.int .u8 y.n,y.a,crsA i.cs,intsA i.steps,.oslc (.s 5) e5 6 0 N false,.oslc (.s 6) e6 1 0 N false,.int .i64 s.1.1,.lslc 1 (strR L) 0 n false,.bool cl]],.vec e5 (rowsD memL 0 eps 0 s.1.2),.vec e6 (nts.map ntR),.hole],objsD memL eps 0 s.1.2⟩)
  [] [] (S2:={ x:Nat // False }) (frR:=fun s=>frOf 0 72 []) (hR:=fun s=>⟨[],[]⟩) (fun t v _ h=>R0=none∧PanOk q0 q1 q2 q3 t v h) ?_ ?_ ?_ ?_
 ·exact rfl
 ·exact rfl
 ·rintro ⟨⟨j,ln,ev⟩,hj,hs,hu⟩;dsimp only at hj hs hu;show aexR _ _ _ (frOf 0 72 [(0,.optr (.s 4) e 9 0 0),(10,.oslc (.s 6) e6 1 0 N false),(11,.int .i64 (N:Nat)),(12,.int .i64 (j:Int))]) ⟨[q0,q1,q2,q3,.vec e [[.int .u8 y.n,y.a,crsA i.cs,intsA i.steps,.oslc (.s 5) e5 6 0 N false,.oslc (.s 6) e6 1 0 N false,.int .i64 ln,.lslc 1 (strR L) 0 n false,.bool cl]],.vec e5 (rowsD memL 0 eps 0 ev),.vec e6 (nts.map ntR),.hole],objsD memL eps 0 ev⟩ _;(conv=>whnf);refine ifB (fun g1=>?_) (fun g1=>?_)
  ·simp only [decide_eq_true_eq] at g1;have hjn:j<nts.length:=by omega
   have hm:=mapR (f:=ntR) hjn;rw [List.drop_eq_getElem_cons hjn,hldL] at hu;have hwl:IntKind.i64.wrap ((j:Int)+3)=((j+3:Nat):Int):=by simp (disch:=omega) only [wrapI];omega
   have hwj:IntKind.i64.wrap ((j:Int)+1)=((j+1:Nat):Int):=by simp (disch:=omega) only [wrapI];omega
   have hnl:=hsl _ (List.getElem_mem hjn);have hel:ev.length=N:=by
    have:=congrArg List.length hs;simp only [shpE,List.length_map] at this;omega
   have hje:j<ev.length:=by omega
   have hnsj:(nts.map List.length)[j]? =some (nts[j]).length:=by rw [List.getElem?_map,List.getElem?_eq_getElem hjn];rfl
   have hsj:ev[j].stops.length=(nts[j]).length:=by
    have:=congrArg (fun l=>l[j]?) hs;simp only [shpE,List.getElem?_map,List.getElem?_eq_getElem hje,List.getElem?_eq_getElem hjn,Option.map_some,Option.some.injEq] at this;exact this
   generalize nts[j]=ns at hm hu hnl hsj hnsj
   (repeat' (first|exact rfl|((conv=>whnf);first|(refine optS hm ?_)|(rw [hwl])|exact rfl|exact ⟨rfl,rfl⟩|refine go1 ?_|(intro ep)|(refine ifB ?_ ?_<;>intro hb<;>(try simp only [qs] at hb)<;>(try simp (disch:=omega) only [wrapI] at hb)<;>(try (exfalso;omega)))|fail)))
   (conv=>whnf);obtain ⟨R1,hR1⟩:∃R,R=hldN ev j 0 ns:=⟨_,rfl⟩;rw [←hR1] at hu;refine loopYP (okx [] [29]) mixed (A:=A15) [0,2,10,11,12,22,23,24] [0,1,2,3,4,5,6] (S:={ z:Nat×List Evt // z.1≤ns.length∧shpE z.2=nts.map List.length∧R1=hldN z.2 j z.1 (ns.drop z.1) })
    (fr:=fun s=>frOf 0 72 [(0,.optr (.s 4) e 9 0 0),(2,.int .i64 (j:Int)),(10,.oslc (.s 6) e6 1 0 N false),(11,.int .i64 (N:Nat)),(12,.int .i64 (j:Int)),(22,wrsA ns),(23,.int .i64 (ns.length:Nat)),(24,.int .i64 (s.1.1:Int))])
    (h:=fun s=>⟨[q0,q1,q2,q3,.vec e [[.int .u8 y.n,y.a,crsA i.cs,intsA i.steps,.oslc (.s 5) e5 6 0 N false,.oslc (.s 6) e6 1 0 N false,.int .i64 ((j+3:Nat):Int),.lslc 1 (strR L) 0 n false,.bool cl]],.vec e5 (rowsD memL 0 eps 0 s.1.2),.vec e6 (nts.map ntR),.hole],objsD memL eps 0 s.1.2⟩) (μ:=fun s=>ns.length-s.1.1) ⟨(0,ev),by simp,hs,hR1⟩ ?_ ?_
    [0,10,11,12] [0,1,2,3,4,5,6] (S':={ z:List Evt // R1=some z∧shpE z=nts.map List.length }) (X:=fun _=>2) (frX:=fun s=>frOf 0 72 [(0,.optr (.s 4) e 9 0 0),(10,.oslc (.s 6) e6 1 0 N false),(11,.int .i64 (N:Nat)),(12,.int .i64 (j:Int))])
    (hX:=fun s=>⟨[q0,q1,q2,q3,.vec e [[.int .u8 y.n,y.a,crsA i.cs,intsA i.steps,.oslc (.s 5) e5 6 0 N false,.oslc (.s 6) e6 1 0 N false,.int .i64 ((j+3:Nat):Int),.lslc 1 (strR L) 0 n false,.bool cl]],.vec e5 (rowsD memL 0 eps 0 s.1),.vec e6 (nts.map ntR),.hole],objsD memL eps 0 s.1⟩)
    [] [] (S2:={ x:Nat // False }) (frR:=fun s=>frOf 0 72 []) (hR:=fun s=>⟨[],[]⟩) (fun t v _ h=>R0=none∧PanOk q0 q1 q2 q3 t v h) ?_ ?_ ?_ ?_
   ·exact rfl
   ·exact rfl
   ·rintro ⟨⟨k,ev⟩,hk,hs,hu1⟩;dsimp only at hk hs hu1;show aexR _ _ _ (frOf 0 72 [(0,.optr (.s 4) e 9 0 0),(2,.int .i64 (j:Int)),(10,.oslc (.s 6) e6 1 0 N false),(11,.int .i64 (N:Nat)),(12,.int .i64 (j:Int)),(22,wrsA ns),(23,.int .i64 (ns.length:Nat)),(24,.int .i64 (k:Int))]) ⟨[q0,q1,q2,q3,.vec e [[.int .u8 y.n,y.a,crsA i.cs,intsA i.steps,.oslc (.s 5) e5 6 0 N false,.oslc (.s 6) e6 1 0 N false,.int .i64 ((j+3:Nat):Int),.lslc 1 (strR L) 0 n false,.bool cl]],.vec e5 (rowsD memL 0 eps 0 ev),.vec e6 (nts.map ntR),.hole],objsD memL eps 0 ev⟩ _;(conv=>whnf);refine ifB (fun g2=>?_) (fun g2=>?_)
    ·simp only [decide_eq_true_eq] at g2;have hkn:k<ns.length:=by omega
     have hmk:=mapR (f:=Wr.row) hkn;rw [List.drop_eq_getElem_cons hkn,hldN] at hu1;have hwk:IntKind.i64.wrap ((k:Int)+1)=((k+1:Nat):Int):=by simp (disch:=omega) only [wrapI];omega
     have hel:ev.length=N:=by
      have:=congrArg List.length hs;simp only [shpE,List.length_map] at this;omega
     have hje:j<ev.length:=by omega
     have hsj:ev[j].stops.length=ns.length:=by
      have h1:(shpE ev)[j]? =some ev[j].stops.length:=by unfold shpE;rw [List.getElem?_map,List.getElem?_eq_getElem hje];rfl
      rw [hs,hnsj] at h1;exact (Option.some.inj h1).symm
     have hpok:(⟨i,ev⟩:Pc).Ok:=⟨by dsimp only;omega,by dsimp only;omega,by dsimp only;omega,fun x hx=>by
      have h1:x.stops.length∈shpE ev:=List.mem_map.2 ⟨x,hx,rfl⟩;rw [hs] at h1;obtain ⟨l,hl,hle⟩:=List.mem_map.1 h1;have:=hsl l hl;omega⟩
     have hks:k<ev[j].stops.length:=by omega
     have hob:(objsD memL eps 0 ev)[j]? =some (.vec (eps j) (ev[j].stops.map stR)):=by
      have:=objsM_get (eps:=eps) (X:=[]) (l:=ev) (i:=0) hje;rw [Nat.zero_add,List.append_nil] at this;exact this
     have hmr:(rowsD memL 0 eps 0 ev)[0+((j:Nat):Int).toNat]? =some (evX ev[j] (.oslc (.d j) (eps j) 5 0 ns.length false)):=by
      rw [Nat.zero_add,Int.toNat_natCast,rowsM_get hje,show 0+memL.c * (0+j)=j by show 0+1 * (0+j)=j;omega,Nat.zero_add,hsj]
     have hsr:(ev[j].stops.map stR)[0+((k:Nat):Int).toNat]? =some (stR ev[j].stops[k]):=by
      rw [Nat.zero_add,Int.toNat_natCast,List.getElem?_map,List.getElem?_eq_getElem hks];rfl
     have hset:∀v,(objsD memL eps 0 ev).set j (.vec (eps j) ((ev[j].stops.map stR).set (0+((k:Nat):Int).toNat) [.int .i64 ev[j].stops[k].c,.int .i64 ev[j].stops[k].f,.int .i64 ev[j].stops[k].r,.int .i64 ev[j].stops[k].g,.int .i64 v]))=objsD memL eps 0 (setH ev j k v):=fun v=>by
      rw [Nat.zero_add,Int.toNat_natCast];exact setH_obj hje (List.getElem?_eq_getElem hks)
     have hrow:∀v,rowsD memL 0 eps 0 ev=rowsD memL 0 eps 0 (setH ev j k v):=fun v=>setH_rows.symm;have hshp:∀v,shpE (setH ev j k v)=nts.map List.length:=fun v=>by rw [setH_shp];exact hs
     generalize hw:ns[k]=w at hmk hu1;generalize hst:ev[j].stops[k]=st at hsr hset;generalize hee:ev[j]=ee at hob hmr hsr hset;unfold hldW at hu1;by_cases hz:w.h=0
     ·rw [if_pos hz] at hu1;dsimp only at hu1
      (repeat' (first|exact rfl|((conv=>whnf);first|(refine optS hmk ?_)|(rw [hwk])|(exact absurd hz hb)|exact rfl|exact ⟨rfl,rfl⟩|refine go1 ?_|(intro ep)|(refine ifB ?_ ?_<;>intro hb<;>(try simp only [qs] at hb)<;>(try simp (disch:=omega) only [wrapI] at hb)<;>(try (exfalso;omega)))|fail)))
      all_goals (conv=>whnf)
      all_goals exact back_of ⟨(k+1,ev),by dsimp only;omega,hs,hu1⟩ ⟨rfl,rfl,by dsimp only;omega⟩
     ·rw [if_neg hz] at hu1;generalize hlg:longest ev j w.c=lg at hu1;by_cases hf:lg=0∨lg<w.h
      ·rw [if_pos hf] at hu1;dsimp only at hu1;rw [hu1] at hu;dsimp only at hu;subst hlg
       (repeat' (first|exact rfl|((conv=>whnf);first|(refine optS hmk ?_)|(refine optS hmr ?_)|(rw [hwk])|(exact absurd hb hz)|(refine longest_mem0 hel (by exact rfl) (by exact rfl) hpok _ _ ?_)|(exact fail12 24 (by decide) fun t v h' hx=>⟨hu,hx.trunc (Nat.le_of_ble_eq_true rfl)⟩)|(exfalso;rcases hf with hf|hf<;>omega)|exact rfl|exact ⟨rfl,rfl⟩|refine go1 ?_|(intro ep)|(refine ifB ?_ ?_<;>intro hb<;>(try simp only [qs] at hb)<;>(try simp (disch:=omega) only [wrapI] at hb)<;>(try (exfalso;omega)))|fail)))
      ·rw [if_neg hf] at hu1;have hf1:¬lg=0:=fun h=>hf (.inl h);have hf2:¬lg<w.h:=fun h=>hf (.inr h);subst hlg;by_cases hng:w.h<0
       ·rw [if_pos hng] at hu1;dsimp only at hu1
        (repeat' (first|exact rfl|((conv=>whnf);first|(refine optS hmk ?_)|(refine optS hmr ?_)|(refine optO hob ?_)|(refine optS hsr ?_)|(rw [hwk])|(exact absurd hb hz)|(exact absurd hb hf1)|(exact absurd hb hf2)|(exact absurd hb hng)|(exact absurd hng hb)|(refine longest_mem0 hel (by exact rfl) (by exact rfl) hpok _ _ ?_)|exact rfl|exact ⟨rfl,rfl⟩|refine go1 ?_|(intro ep)|(refine ifB ?_ ?_<;>intro hb<;>(try simp only [qs] at hb)<;>(try simp (disch:=omega) only [wrapI] at hb)<;>(try (exfalso;omega)))|fail)))
        all_goals (conv=>whnf)
        all_goals exact back_of ⟨(k+1,setH ev j k (longest ev j w.c)),by dsimp only;omega,hshp _,hu1⟩ ⟨rfl,by dsimp only;rw [←hset,←hrow];rfl,by dsimp only;omega⟩
       ·rw [if_neg hng] at hu1;dsimp only at hu1
        (repeat' (first|exact rfl|((conv=>whnf);first|(refine optS hmk ?_)|(refine optS hmr ?_)|(refine optO hob ?_)|(refine optS hsr ?_)|(rw [hwk])|(exact absurd hb hz)|(exact absurd hb hf1)|(exact absurd hb hf2)|(exact absurd hb hng)|(exact absurd hng hb)|(refine longest_mem0 hel (by exact rfl) (by exact rfl) hpok _ _ ?_)|exact rfl|exact ⟨rfl,rfl⟩|refine go1 ?_|(intro ep)|(refine ifB ?_ ?_<;>intro hb<;>(try simp only [qs] at hb)<;>(try simp (disch:=omega) only [wrapI] at hb)<;>(try (exfalso;omega)))|fail)))
        all_goals (conv=>whnf)
        all_goals exact back_of ⟨(k+1,setH ev j k w.h),by dsimp only;omega,hshp _,hu1⟩ ⟨rfl,by dsimp only;rw [←hset,←hrow];rfl,by dsimp only;omega⟩
    ·simp only [decide_eq_false_iff_not] at g2;rw [List.drop_eq_nil_of_le (by omega),hldN] at hu1
     (repeat' (first|exact rfl|((conv=>whnf);first|exact rfl|exact ⟨rfl,rfl⟩|refine go1 ?_|(intro ep)|(refine ifB ?_ ?_<;>intro hb<;>(try simp only [qs] at hb)<;>(try simp (disch:=omega) only [wrapI] at hb)<;>(try (exfalso;omega)))|fail)))
     all_goals (conv=>whnf)
     all_goals exact back_of ⟨ev,hu1,hs⟩ ⟨rfl,rfl,rfl⟩
   ·rintro t v fr h ⟨h1,h2⟩;exact ⟨h1,h2⟩
   ·rintro ⟨_,h⟩;exact h.elim
   ·rintro ⟨ev2,he2,hs2⟩;rw [he2] at hu;dsimp only at hu
    (repeat' (first|exact rfl|((conv=>whnf);first|(rw [hwj])|exact rfl|exact ⟨rfl,rfl⟩|refine go1 ?_|(intro ep)|(refine ifB ?_ ?_<;>intro hb<;>(try simp only [qs] at hb)<;>(try simp (disch:=omega) only [wrapI] at hb)<;>(try (exfalso;omega)))|fail)))
    all_goals (conv=>whnf)
    all_goals exact back_of ⟨(j+1,_,ev2),by dsimp only;omega,hs2,hu⟩ ⟨rfl,rfl,by dsimp only;omega⟩
  ·simp only [decide_eq_false_iff_not] at g1;rw [List.drop_eq_nil_of_le (by omega),hldL] at hu
   (repeat' (first|exact rfl|((conv=>whnf);first|exact rfl|exact ⟨rfl,rfl⟩|refine go1 ?_|(intro ep)|(refine ifB ?_ ?_<;>intro hb<;>(try simp only [qs] at hb)<;>(try simp (disch:=omega) only [wrapI] at hb)<;>(try (exfalso;omega)))|fail)))
   all_goals (conv=>whnf)
   all_goals exact back_of ⟨(ln,ev),hu⟩ ⟨rfl,rfl,rfl⟩
 ·rintro t v fr h ⟨h1,h2⟩;exact hP h1 t v h h2
 ·rintro ⟨_,h⟩;exact h.elim
 ·rintro ⟨⟨ln,ev⟩,hv⟩;have hk:=fun rest=>hK _ hv ln rest
  (repeat' (first|exact hk _|((conv=>whnf);first|exact rfl|exact ⟨rfl,rfl⟩|refine go1 ?_|(intro ep)|(refine ifB ?_ ?_<;>intro hb<;>(try simp only [qs] at hb)<;>(try simp (disch:=omega) only [wrapI] at hb)<;>(try (exfalso;omega)))|fail)))
end Go.Ab.V
