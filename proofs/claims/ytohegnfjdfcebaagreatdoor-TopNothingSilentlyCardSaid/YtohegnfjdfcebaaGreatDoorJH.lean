/-
  What is proved here serves the law's text: each part says its own claim and its conditions. No condition is left open.
-/
import Derived.Test.YtohegnfjdfcebaaGreatDoorJG
import Derived.Test.YtohegnfjdfcebaaGreatDoorKZ
import Derived.Test.YtohegnfjdfcebaaGreatDoorKU
import Derived.Test.YtohegnfjdfcebaaGreatDoorJC
import Derived.Test.YtohegnfjdfcebaaGreatDoorJA
set_option maxHeartbeats 32000000
set_option maxRecDepth 100000
set_option linter.unusedSimpArgs false
set_option linter.unusedVariables false

namespace Go.Ab
theorem wk_sub {C:Ctx} {c:Code} {fr fr':List AV} {h:Heap} {K:AE→List AV→Heap→Prop} (hs:SubL fr fr') (hc:WK C c fr' h K):WK C c fr h K:=
 ⟨fun rd B σ w a Q hrd hy hB s hf hd hQ=>hc.use rd B σ w a Q hrd hy hB s (hs.rels hf) hd hQ⟩
end Go.Ab
namespace Go.Ab.V
open Go.Proofs
def sndC:Code→Code
 | .seq _ b=>b
 |c=>c
def Wr.stp (w:Wr):Stp:=⟨w.c,w.f,w.r,w.g,0⟩
def colF (i:Ins) (first bar:Bool) (v:Int) (d th tie:Bool) (ns:List Wr):Option (Evt×List Wr):=
 if first=true∧v=0 then none else if first=true∧tie=true then none else if ns.all (chkW i)=true then some (⟨bar,v,d,th,tie,ns.map Wr.stp⟩,ns) else none
def ntR (l:List Wr):List AV:=[wrsA l]
noncomputable def bod13:Code:=Tryz.f13.body.getD .skip
noncomputable def rest13a:Code:=sndC (sndC (sndC bod13))
noncomputable def rest13b:Code:=sndC (sndC (sndC (sndC (sndC (sndC rest13a)))))
def A13:Ann:=fun r=>match r with
 |1=>{ slots:=[(0,7)] }
 |5=>{ pan:=[1] }
 |6=>{ slots:=[(11,8)] }
 |8=>{ pan:=[1] }
 |11=>{ pan:=[2] }
 |17=>{ pan:=[1] }
 |19=>{ pan:=[1] }
 |22=>{ slots:=[(2,9)] }
 |23=>{ pan:=[2] }
 |24=>{ slots:=[(4,10),(5,11)] }
 |26=>{ slots:=[(7,12),(8,13)] }
 |27=>{ slots:=[(6,14),(7,15)] }
 |_=>{}
theorem rowsM_no (eps:Nat→Nat) (ep:Nat):∀(l:List Evt) (k:Nat) {B:Nat},noO (.vec ep (rowsD memL B eps k l))
 | [],k,B=>fun a ha=>by simp [celO,rowsD] at ha
 |e::r,k,B=>fun a ha=>by
  simp only [celO,rowsD,List.flatten_cons,List.mem_append] at ha
  rcases ha with ha|ha
  ·simp only [evX,memL,List.mem_cons,List.not_mem_nil,or_false] at ha
   rcases ha with rfl|rfl|rfl|rfl|rfl|rfl<;>rfl
  ·exact rowsM_no eps ep r (k+1) a ha
theorem ntR_no {ep:Nat} (l:List (List Wr)):noO (.vec ep (l.map ntR)):=fun a ha=>by
 obtain ⟨r,hr,ha⟩:=List.mem_flatten.1 ha;obtain ⟨s,_,rfl⟩:=List.mem_map.1 hr;simp only [ntR,List.mem_cons,List.not_mem_nil,or_false] at ha;subst ha;rfl
theorem objsM_no (eps:Nat→Nat):∀(l:List Evt) {k:Nat},∀o∈objsD memL eps k l,noO o
 | [],k,o,ho=>by cases ho
 |e::r,k,o,ho=>by
  rcases List.mem_append.1 ho with ho|ho
  ·rw [List.mem_singleton.1 ho];intro a ha;obtain ⟨r,hr,ha⟩:=List.mem_flatten.1 ha;obtain ⟨s,_,rfl⟩:=List.mem_map.1 hr;simp only [stR,List.mem_cons,List.not_mem_nil,or_false] at ha
   rcases ha with rfl|rfl|rfl|rfl|rfl<;>rfl
  ·exact objsM_no eps r o ho
theorem check28s {f g a b:AV} {q0 q1 q2 q3:AObj} {e:Nat} {tl dy:List AObj} (i:Ins) (w:Wr) (hi:i.cs.length≤100000) (hw:1≤w.c) (hc:chkW i w=true) {ln:Int} {L:List (List UInt8)} {n:Nat} {cl:Bool} {K:AV→Heap→Prop} {KP:Nat→Value→Heap→Prop}
  (hK:K (.tup []) ⟨q0::q1::q2::q3:: .vec e [[a,b,crsA i.cs,intsA i.steps,f,g,.int .i64 ln,.lslc 1 (strR L) 0 n false,.bool cl]]::tl,dy⟩):
  ACallsP C.P 28 [.optr (.s 4) e 9 0 0,.agg w.row] ⟨q0::q1::q2::q3:: .vec e [[a,b,crsA i.cs,intsA i.steps,f,g,.int .i64 ln,.lslc 1 (strR L) 0 n false,.bool cl]]::tl,dy⟩ K KP:=
 check28 i w hi hw (fun _=>hK) fun h=>by rw [hc] at h;cases h
theorem check28n {f g a b:AV} {q0 q1 q2 q3:AObj} {e:Nat} {tl dy:List AObj} (i:Ins) (w:Wr) (hi:i.cs.length≤100000) (hw:1≤w.c) (hc:chkW i w=false) {ln:Int} {L:List (List UInt8)} {n:Nat} {cl:Bool} {K:AV→Heap→Prop} {KP:Nat→Value→Heap→Prop}
  (hP:∀t v h',PanOk q0 q1 q2 q3 t v h'→KP t v h'):
  ACallsP C.P 28 [.optr (.s 4) e 9 0 0,.agg w.row] ⟨q0::q1::q2::q3:: .vec e [[a,b,crsA i.cs,intsA i.steps,f,g,.int .i64 ln,.lslc 1 (strR L) 0 n false,.bool cl]]::tl,dy⟩ K KP:=
 check28 i w hi hw (fun h=>by rw [hc] at h;cases h) fun _=>hP
theorem col_rest2 {q0 q1 q2 q3:AObj} {e e5 e6 e7:Nat} {ln:Int} {L:List (List UInt8)} {n:Nat} {cl:Bool} (y:Sy) (i:Ins) (evs:List Evt) (nts:List (List Wr)) (eps:Nat→Nat) (bar:Bool) (v:Int) (d th tie:Bool) (ns:List Wr)
  (hi:i.cs.length≤100000) (hev:evs.length≤100000) (hnt:nts.length≤100000) (hn:ns.length≤200000) (hw:∀w∈ns,w.Ok) (hq:∀o∈[q0,q1,q2,q3],noO o) {K:AE→List AV→Heap→Prop}
  (hK:∀ev nt,colF i (decide (evs.length=0)) bar v d th tie ns=some (ev,nt)→∀e5 e6 eps fr rest,K .normal fr ⟨[q0,q1,q2,q3,.vec e [[.int .u8 y.n,y.a,crsA i.cs,intsA i.steps,.oslc (.s 5) e5 6 0 (evs.length+1) false,.oslc (.s 6) e6 1 0 (nts.length+1) false,.int .i64 ln,.lslc 1 (strR L) 0 n false,.bool cl]],.vec e5 (rowsD memL 0 eps 0 (evs++[ev])),.vec e6 ((nts++[nt]).map ntR)]++rest,objsD memL eps 0 (evs++[ev])⟩)
  (hP:colF i (decide (evs.length=0)) bar v d th tie ns=none→∀t v fr h',PanOk q0 q1 q2 q3 t v h'→K (.pan t v) fr h'):
  WK C rest13b (frOf 0 145 [(0,.optr (.s 4) e 9 0 0),(5,.optr (.s 7) e7 6 0 0),(8,wrsA ns)])
   ⟨[q0,q1,q2,q3,.vec e [[.int .u8 y.n,y.a,crsA i.cs,intsA i.steps,.oslc (.s 5) e5 6 0 evs.length false,.oslc (.s 6) e6 1 0 nts.length false,.int .i64 ln,.lslc 1 (strR L) 0 n false,.bool cl]],.vec e5 (rowsD memL 0 eps 0 evs),.vec e6 (nts.map ntR),.vec e7 [[.bool bar,.int .i64 v,.bool d,.bool th,.bool tie,.nils]],.hole,.hole,.hole,.hole,.hole,.hole,.hole,.hole,.hole],objsD memL eps 0 evs⟩ K:=by
 obtain ⟨R0,hR⟩:∃R,R=colF i (decide (evs.length=0)) bar v d th tie ns:=⟨_,rfl⟩;rw [←hR] at hK hP;unfold colF at hR;obtain ⟨dy0,hdy⟩:∃x,x=objsD memL eps 0 evs:=⟨_,rfl⟩;obtain ⟨er0,her⟩:∃x,x=rowsD memL 0 eps 0 evs:=⟨_,rfl⟩;obtain ⟨nr0,hnr⟩:∃x,x=nts.map ntR:=⟨_,rfl⟩;rw [←hdy,←her,←hnr];simp only [decide_eq_true_eq] at hR;by_cases hA:evs.length=0∧v=0
 ·rw [if_pos hA] at hR;have hp:=hP hR;refine wk_seq (wkA ok mixed (A:=A13) ?_)
  (repeat' (first|exact rfl|((conv=>whnf);first|exact rfl|exact ⟨rfl,rfl⟩|refine go1 ?_|(intro ep)|fail)))
  (conv=>whnf);refine wk_seq (wkA ok mixed (A:=A13) ?_)
  (repeat' (first|exact rfl|((conv=>whnf);first|(exact fail12 20 (by decide) fun t v h' hx=>hp t v _ _ (hx.trunc (Nat.le_of_ble_eq_true rfl)))|exact rfl|exact ⟨rfl,rfl⟩|refine go1 ?_|(intro ep)|(refine ifB ?_ ?_<;>intro hb<;>(try simp only [qs] at hb)<;>(try simp (disch:=omega) only [wrapI] at hb)<;>(try (exfalso;omega)))|fail)))
 rw [if_neg hA] at hR;by_cases hB:evs.length=0∧tie=true
 ·rw [if_pos hB] at hR;have hp:=hP hR;refine wk_seq (wkA ok mixed (A:=A13) ?_)
  (repeat' (first|exact rfl|((conv=>whnf);first|(exact fail12 21 (by decide) fun t v h' hx=>hp t v _ _ (hx.trunc (Nat.le_of_ble_eq_true rfl)))|exact rfl|exact ⟨rfl,rfl⟩|refine go1 ?_|(intro ep)|(refine wk_seq (wkA ok mixed (A:=A13) ?_))|(exact absurd (And.intro hB.1 hb) hA)|(exfalso;rw [hB.2] at hb;cases hb)|(refine ifB ?_ ?_<;>intro hb<;>(try simp only [qs] at hb)<;>(try simp (disch:=omega) only [wrapI] at hb)<;>(try (exfalso;omega)))|fail)))
 rw [if_neg hB] at hR;refine wk_seq (wkA ok mixed (A:=A13) ?_)
 (repeat' (first|exact rfl|((conv=>whnf);first|exact rfl|exact ⟨rfl,rfl⟩|refine go1 ?_|(intro ep)|fail)))
 (conv=>whnf);refine wk_cut [0,5,8,9] [0,1,2,3,4,5,6,7] (S:=Unit) (fun _=>frOf 0 145 [(0,.optr (.s 4) e 9 0 0),(5,.optr (.s 7) e7 6 0 0),(8,wrsA ns),(9,.bool ((evs.length:Int)==0))]) (fun _=>⟨[q0,q1,q2,q3,.vec e [[.int .u8 y.n,y.a,crsA i.cs,intsA i.steps,.oslc (.s 5) e5 6 0 evs.length false,.oslc (.s 6) e6 1 0 nts.length false,.int .i64 ln,.lslc 1 (strR L) 0 n false,.bool cl]],.vec e5 er0,.vec e6 nr0,.vec e7 [[.bool bar,.int .i64 v,.bool d,.bool th,.bool tie,.nils]],.hole,.hole,.hole,.hole,.hole,.hole,.hole,.hole,.hole],dy0⟩) (wkA ok mixed (A:=A13) ?_) fun _=>?_
 ·(repeat' (first|exact rfl|((conv=>whnf);first|exact rfl|exact ⟨rfl,rfl⟩|refine go1 ?_|(intro ep)|(exfalso;exact hA ⟨by omega,hb⟩)|(exact back_of () ⟨rfl,rfl⟩)|(refine ifB ?_ ?_<;>intro hb<;>(try simp only [qs] at hb)<;>(try simp (disch:=omega) only [wrapI] at hb)<;>(try (exfalso;omega)))|fail)))
 refine wk_cut [0,5,8] [0,1,2,3,4,5,6,7] (S:=Unit) (fun _=>frOf 0 145 [(0,.optr (.s 4) e 9 0 0),(5,.optr (.s 7) e7 6 0 0),(8,wrsA ns)]) (fun _=>⟨[q0,q1,q2,q3,.vec e [[.int .u8 y.n,y.a,crsA i.cs,intsA i.steps,.oslc (.s 5) e5 6 0 evs.length false,.oslc (.s 6) e6 1 0 nts.length false,.int .i64 ln,.lslc 1 (strR L) 0 n false,.bool cl]],.vec e5 er0,.vec e6 nr0,.vec e7 [[.bool bar,.int .i64 v,.bool d,.bool th,.bool tie,.nils]],.hole,.hole,.hole,.hole,.hole,.hole,.hole,.hole,.hole],dy0⟩) (wkA ok mixed (A:=A13) ?_) fun _=>?_
 ·(repeat' (first|exact rfl|((conv=>whnf);first|exact rfl|exact ⟨rfl,rfl⟩|refine go1 ?_|(intro ep)|(exfalso;exact hB ⟨by omega,hb⟩)|(exact back_of () ⟨rfl,rfl⟩)|(refine ifB ?_ ?_<;>intro hb<;>(try simp only [qs] at hb)<;>(try simp (disch:=omega) only [wrapI] at hb)<;>(try (exfalso;omega)))|fail)))
 refine wk_seq (wkA ok mixed (A:=A13) ?_)
 (repeat' (first|exact rfl|((conv=>whnf);first|exact rfl|exact ⟨rfl,rfl⟩|refine go1 ?_|(intro ep)|fail)))
 (conv=>whnf);refine wk_liftC 7 16 e7 5 0 5 (by decide) rfl rfl rfl ?_;intro e16;refine loopYP ok mixed (A:=A13) [0,5,8,106,107,108] [0,1,2,3,4,5,6,7,16] (S:={ z:Nat×Nat // z.1≤ns.length∧(ns.take z.1).all (chkW i)=true })
  (fr:=fun s=>frOf 0 145 [(0,.optr (.s 4) e 9 0 0),(5,.optr (.s 7) e7 6 0 0),(8,wrsA ns),(106,wrsA ns),(107,.int .i64 (ns.length:Nat)),(108,.int .i64 (s.1.1:Int))])
  (h:=fun s=>⟨[q0,q1,q2,q3,.vec e [[.int .u8 y.n,y.a,crsA i.cs,intsA i.steps,.oslc (.s 5) e5 6 0 evs.length false,.oslc (.s 6) e6 1 0 nts.length false,.int .i64 ln,.lslc 1 (strR L) 0 n false,.bool cl]],.vec e5 er0,.vec e6 nr0,.vec e7 [[.bool bar,.int .i64 v,.bool d,.bool th,.bool tie,.oslc (.s 16) s.1.2 5 0 s.1.1 false]],.hole,.hole,.hole,.hole,.hole,.hole,.hole,.hole,.vec s.1.2 (((ns.take s.1.1).map Wr.stp).map stR)],dy0⟩) (μ:=fun s=>ns.length-s.1.1) ⟨(0,e16),by simp,by simp⟩ ?_ ?_
  [0,5,8] [0,1,2,3,4,5,6,7,16] (S':={ z:Nat // ns.all (chkW i)=true }) (X:=fun _=>1)
  (frX:=fun s=>frOf 0 145 [(0,.optr (.s 4) e 9 0 0),(5,.optr (.s 7) e7 6 0 0),(8,wrsA ns)])
  (hX:=fun s=>⟨[q0,q1,q2,q3,.vec e [[.int .u8 y.n,y.a,crsA i.cs,intsA i.steps,.oslc (.s 5) e5 6 0 evs.length false,.oslc (.s 6) e6 1 0 nts.length false,.int .i64 ln,.lslc 1 (strR L) 0 n false,.bool cl]],.vec e5 er0,.vec e6 nr0,.vec e7 [[.bool bar,.int .i64 v,.bool d,.bool th,.bool tie,.oslc (.s 16) s.1 5 0 ns.length false]],.hole,.hole,.hole,.hole,.hole,.hole,.hole,.hole,.vec s.1 ((ns.map Wr.stp).map stR)],dy0⟩)
  [] [] (S2:={ x:Nat // False }) (frR:=fun s=>frOf 0 145 []) (hR:=fun s=>⟨[],[]⟩) (fun t v _ h=>R0=none∧PanOk q0 q1 q2 q3 t v h) ?_ ?_ ?_ ?_
 ·exact rfl
 ·exact rfl
 ·rintro ⟨⟨k,e16⟩,hk,hal⟩;dsimp only at hk hal;show aexR _ _ _ (frOf 0 145 [(0,.optr (.s 4) e 9 0 0),(5,.optr (.s 7) e7 6 0 0),(8,wrsA ns),(106,wrsA ns),(107,.int .i64 (ns.length:Nat)),(108,.int .i64 (k:Int))]) ⟨[q0,q1,q2,q3,.vec e [[.int .u8 y.n,y.a,crsA i.cs,intsA i.steps,.oslc (.s 5) e5 6 0 evs.length false,.oslc (.s 6) e6 1 0 nts.length false,.int .i64 ln,.lslc 1 (strR L) 0 n false,.bool cl]],.vec e5 er0,.vec e6 nr0,.vec e7 [[.bool bar,.int .i64 v,.bool d,.bool th,.bool tie,.oslc (.s 16) e16 5 0 k false]],.hole,.hole,.hole,.hole,.hole,.hole,.hole,.hole,.vec e16 (((ns.take k).map Wr.stp).map stR)],dy0⟩ _;(conv=>whnf);refine ifB (fun g1=>?_) (fun g1=>?_)
  ·simp only [decide_eq_true_eq] at g1;have hkn:k<ns.length:=by omega
   have hm:=mapR (f:=Wr.row) hkn;have hwk:IntKind.i64.wrap ((k:Int)+1)=((k+1:Nat):Int):=by simp (disch:=omega) only [wrapI];omega
   have hwo:=hw _ (List.getElem_mem hkn);have htk:ns.take (k+1)=ns.take k++[ns[k]]:=by rw [List.take_add_one,List.getElem?_eq_getElem hkn];rfl
   have hal3:ns.all (chkW i)=true→chkW i ns[k]=true:=fun h=>List.all_eq_true.1 h _ (List.getElem_mem hkn);generalize ns[k]=w at hm hwo htk hal3;have hlen:((ns.take k).map Wr.stp).length=k:=by simp;omega
   have hap:((ns.take (k+1)).map Wr.stp).map stR=List.take k (List.drop 0 (((ns.take k).map Wr.stp).map stR))++[stR w.stp]:=by
    have e1:List.take k (List.drop 0 (((ns.take k).map Wr.stp).map stR))=((ns.take k).map Wr.stp).map stR:=by rw [List.drop_zero];exact List.take_of_length_le (by rw [List.length_map,hlen];exact Nat.le_refl _)
    rw [e1,htk,List.map_append,List.map_append];rfl
   cases hc:chkW i w with
   |false=>
    rw [if_neg (fun h=>by rw [hal3 h] at hc;cases hc)] at hR
    (repeat' (first|exact rfl|((conv=>whnf);first|(refine optS hm ?_)|(rw [hwk])|(exact check28n i w hi hwo.c1 hc fun t v h' hx=>⟨hR,hx.trunc (Nat.le_of_ble_eq_true rfl)⟩)|exact rfl|exact ⟨rfl,rfl⟩|refine go1 ?_|(intro ep)|(refine ifB ?_ ?_<;>intro hb<;>(try simp only [qs] at hb)<;>(try simp (disch:=omega) only [wrapI] at hb)<;>(try (exfalso;omega)))|fail)))
   |true=>
    (repeat' (first|exact rfl|((conv=>whnf);first|(refine optS hm ?_)|(rw [hwk])|(refine check28s i w hi hwo.c1 hc ?_)|exact rfl|exact ⟨rfl,rfl⟩|refine go1 ?_|(intro ep)|(refine ifB ?_ ?_<;>intro hb<;>(try simp only [qs] at hb)<;>(try simp (disch:=omega) only [wrapI] at hb)<;>(try (exfalso;omega)))|fail)))
    all_goals (conv=>whnf)
    all_goals exact back_of ⟨(k+1,ep),by dsimp only;omega,by dsimp only;rw [htk,List.all_append,hal];simp [hc]⟩ ⟨rfl,by dsimp only;rw [hap];rfl,by dsimp only;omega⟩
  ·simp only [decide_eq_false_iff_not] at g1;obtain rfl:k=ns.length:=by omega
   (repeat' (first|exact rfl|((conv=>whnf);first|exact rfl|exact ⟨rfl,rfl⟩|refine go1 ?_|(intro ep)|(refine ifB ?_ ?_<;>intro hb<;>(try simp only [qs] at hb)<;>(try simp (disch:=omega) only [wrapI] at hb)<;>(try (exfalso;omega)))|fail)))
   all_goals (conv=>whnf)
   all_goals exact back_of ⟨e16,by rw [List.take_length] at hal;exact hal⟩ ⟨rfl,rfl,by dsimp only;rw [List.take_length];rfl⟩
 ·rintro t v fr h ⟨h1,h2⟩;exact hP h1 t v fr h h2
 ·rintro ⟨_,h⟩;exact h.elim
 ·rintro ⟨e16,hall⟩;dsimp only;rw [if_pos hall] at hR;have hs4:∀a∈((ns.map Wr.stp).map stR).flatten,noSt a=true:=fun a ha=>by
   obtain ⟨r,hr,ha⟩:=List.mem_flatten.1 ha;obtain ⟨s,_,rfl⟩:=List.mem_map.1 hr;simp only [stR,List.mem_cons,List.not_mem_nil,or_false] at ha
   rcases ha with rfl|rfl|rfl|rfl|rfl<;>rfl
  have hn5:noO (.vec e5 er0):=by rw [her];exact rowsM_no _ _ _ _
  have hn6:noO (.vec e6 nr0):=by rw [hnr];exact ntR_no _
  have hnd:∀o∈dy0,noO o:=by rw [hdy];exact objsM_no _ _
  have hq0:=hq q0 (by simp);have hq1:=hq q1 (by simp);have hq2:=hq q2 (by simp);have hq3:=hq q3 (by simp);have hdl:dy0.length=evs.length:=by rw [hdy,objsD_len];simp [memL]
  refine wk_tr ?_;refine tr_mvG 16 e16 (o:=.vec e16 ((ns.map Wr.stp).map stR)) (by exact rfl) (by exact rfl) (by (repeat' (first|exact trivial|exact rfl|((conv=>whnf);first|exact trivial|exact rfl|refine ⟨?_,?_⟩|fail)))) ?_ (show eqsG 16 e16 (((ns.map Wr.stp).map stR).flatten) from eqsG_of fun a ha=>okG_no (hs4 a ha)) hnd fun ep2=>?_
  ·exact ⟨noO_eqs hq0,noO_eqs hq1,noO_eqs hq2,noO_eqs hq3,by (repeat' (first|exact trivial|exact rfl|((conv=>whnf);first|exact trivial|exact rfl|refine ⟨?_,?_⟩|fail))),noO_eqs hn5,noO_eqs hn6,by (repeat' (first|exact trivial|exact rfl|((conv=>whnf);first|exact trivial|exact rfl|refine ⟨?_,?_⟩|fail)))⟩
  have hmv:=fun (o:AObj) (h:noO o)=>noO_map (n:=16) (len:=dy0.length) (ep2:=ep2) h;have hst2:(AObj.vec ep2 ((ns.map Wr.stp).map stR)).mapc (mcG 16 dy0.length ep2)= .vec ep2 ((ns.map Wr.stp).map stR):=hmv _ hs4;refine tr_eq (fr':=frOf 0 145 [(0,.optr (.s 4) e 9 0 0),(5,.optr (.s 7) e7 6 0 0),(8,wrsA ns)]) (h':=⟨[q0,q1,q2,q3,.vec e [[.int .u8 y.n,y.a,crsA i.cs,intsA i.steps,.oslc (.s 5) e5 6 0 evs.length false,.oslc (.s 6) e6 1 0 nts.length false,.int .i64 ln,.lslc 1 (strR L) 0 n false,.bool cl]],.vec e5 er0,.vec e6 nr0,.vec e7 [[.bool bar,.int .i64 v,.bool d,.bool th,.bool tie,.oslc (.d evs.length) ep2 5 0 ns.length false]],.hole,.hole,.hole,.hole,.hole,.hole,.hole,.hole,.hole],dy0++[.vec ep2 ((ns.map Wr.stp).map stR)]⟩) rfl ?_ (tr_done ?_)
  ·show (⟨[q0.mapc (mcG 16 dy0.length ep2),q1.mapc (mcG 16 dy0.length ep2),q2.mapc (mcG 16 dy0.length ep2),q3.mapc (mcG 16 dy0.length ep2),.vec e [[.int .u8 y.n,y.a,crsA i.cs,intsA i.steps,.oslc (.s 5) e5 6 0 evs.length false,.oslc (.s 6) e6 1 0 nts.length false,.int .i64 ln,.lslc 1 (strR L) 0 n false,.bool cl]],(AObj.vec e5 er0).mapc (mcG 16 dy0.length ep2),(AObj.vec e6 nr0).mapc (mcG 16 dy0.length ep2),.vec e7 [[.bool bar,.int .i64 v,.bool d,.bool th,.bool tie,.oslc (.d dy0.length) ep2 5 0 ns.length false]],.hole,.hole,.hole,.hole,.hole,.hole,.hole,.hole,.hole],dy0++[(AObj.vec ep2 ((ns.map Wr.stp).map stR)).mapc (mcG 16 dy0.length ep2)]⟩:Heap)=_;rw [hmv _ hq0,hmv _ hq1,hmv _ hq2,hmv _ hq3,hmv _ hn5,hmv _ hn6,hst2,hdl]
  have t5:List.take evs.length (List.drop 0 er0)=er0:=by rw [List.drop_zero];exact List.take_of_length_le (by rw [her,rowsD_len];exact Nat.le_refl _)
  have t6:List.take nts.length (List.drop 0 nr0)=nr0:=by rw [List.drop_zero];exact List.take_of_length_le (by rw [hnr,List.length_map];exact Nat.le_refl _)
  have hk2:=hK _ _ hR;obtain ⟨eps',h1,h2⟩:=layS memL 0 eps ep2 evs ⟨bar,v,d,th,tie,ns.map Wr.stp⟩;have hk3:∀a b fr rest,K .normal fr ⟨[q0,q1,q2,q3,.vec e [[.int .u8 y.n,y.a,crsA i.cs,intsA i.steps,.oslc (.s 5) a 6 0 (evs.length+1) false,.oslc (.s 6) b 1 0 (nts.length+1) false,.int .i64 ln,.lslc 1 (strR L) 0 n false,.bool cl]],.vec a (List.take evs.length (List.drop 0 er0)++[[.bool bar,.int .i64 v,.bool d,.bool th,.bool tie,.oslc (.d evs.length) ep2 5 0 ns.length false]]),.vec b (List.take nts.length (List.drop 0 nr0)++[[wrsA ns]])]++rest,dy0++[.vec ep2 ((ns.map Wr.stp).map stR)]⟩:=by
   intro a b fr rest;rw [t5,t6];have h3:=hk2 a b eps' fr rest;rw [h1,h2,List.map_append,←her,←hnr,←hdy] at h3;have e1:evX ⟨bar,v,d,th,tie,ns.map Wr.stp⟩ (memL.stp (0+memL.c * evs.length) ep2 ⟨bar,v,d,th,tie,ns.map Wr.stp⟩)=[.bool bar,.int .i64 v,.bool d,.bool th,.bool tie,.oslc (.d evs.length) ep2 5 0 ns.length false]:=by
    show [AV.bool bar,.int .i64 v,.bool d,.bool th,.bool tie,.oslc (.d (0+1 * evs.length)) ep2 5 0 (ns.map Wr.stp).length false]=_;rw [Nat.one_mul,Nat.zero_add,List.length_map]
   rw [e1] at h3;exact h3
  refine wk_seq (wkA ok mixed (A:=A13) ?_)
  (repeat' (first|exact hk3 _ _ _ _|((conv=>whnf);first|exact rfl|exact ⟨rfl,rfl⟩|refine go1 ?_|(intro ep)|(refine wkA ok mixed (A:=A13) ?_)|(refine ifB ?_ ?_<;>intro hb<;>(try simp only [qs] at hb)<;>(try simp (disch:=omega) only [wrapI] at hb)<;>(try (exfalso;omega)))|fail)))
end Go.Ab.V

namespace Go.Ab
theorem SubL.set {a b:AV} (h:Sub a b):∀(l:List AV) (i:Nat),SubL (l.set i a) (l.set i b)
 | [],_=>.nil
 |x::l,0=>.cons h (SubL.refl l)
 |x::l,i+1=>.cons (Sub.refl x) (SubL.set h l i)
theorem ACallsP.sub {P:Program} {f:FuncId} {l m:List AV} {h:Heap} {K:AV→Heap→Prop} {KP:Nat→Value→Heap→Prop} (c:ACallsP P f m h K KP) (s:SubL l m):ACallsP P f l h K KP:=
 ⟨fun σ w vs sm v=>c.use σ w vs sm (s.rels v)⟩
end Go.Ab
namespace Go.Ab.V
open Go.Proofs
def colK (y:Sy) (i:Ins) (ws:List (List UInt8)):Option (Bool×List Wr):=
 if ws.length=1∧ws.getD 0 []=[126]∧hasS y 7=true then some (true,[])
 else if ws.length=1∧ws.getD 0 []=[37]∧hasS y 8=true then some (false,[])
 else match chordS y i ws with
  |none=>none
  |some l=>some (false,l)
def colB (y:Sy) (i:Ins) (first bar:Bool) (ws:List (List UInt8)):Option (Evt×List Wr):=
 if ws.length<2 then none else match parseTm y (ws.getD 0 []) with
  |none=>none
  |some p=>match colK y i (ws.drop 1) with
   |none=>none
   |some z=>colF i first bar p.1 p.2.1 p.2.2 z.1 z.2
def colR (y:Sy) (i:Ins) (first:Bool) (t:List UInt8):Option (Evt×List Wr):=
 if (splitC 32 t).getD 0 []=[124] then colB y i first true ((splitC 32 t).drop 1) else colB y i first false (splitC 32 t)
theorem chord_sub {W:List (List UInt8)} {o m:Nat} (h:o+m=W.length):Sub (.lslc 1 (strR W) o m false) (strsA (W.drop o)):=by
 have h1:=Sub.part (sz:=1) (rows:=strR W) (off:=o) (len:=m) (by unfold strR;rw [List.length_map];omega);have h2:((strR W).drop o).take m=strR (W.drop o):=by
  unfold strR;rw [←List.map_drop];exact List.take_of_length_le (by rw [List.length_map,List.length_drop];omega)
 rw [h2] at h1;have h3:(W.drop o).length=m:=by rw [List.length_drop];omega
 unfold strsA;rw [h3];exact h1
theorem chord27s {f g:AV} {q0 q1 q2 q3:AObj} {e:Nat} {ln:Int} {L:List (List UInt8)} {nn:Nat} {cl:Bool} {tl dy:List AObj} (y:Sy) (i:Ins) {W:List (List UInt8)} {o m:Nat} (hom:o+m=W.length) (hi:i.cs.length≤100000) (hw:m≤100000) (hx:∀x∈W,x.length≤100000) {l:List Wr} (hc:chordS y i (W.drop o)=some l) {K:AV→Heap→Prop} {KP:Nat→Value→Heap→Prop}
  (hK:K (wrsA l) ⟨q0::q1::q2::q3:: .vec e [[.int .u8 y.n,y.a,crsA i.cs,intsA i.steps,f,g,.int .i64 ln,.lslc 1 (strR L) 0 nn false,.bool cl]]::tl,dy⟩):
  ACallsP C.P 27 [.optr (.s 4) e 9 0 0,.lslc 1 (strR W) o m false] ⟨q0::q1::q2::q3:: .vec e [[.int .u8 y.n,y.a,crsA i.cs,intsA i.steps,f,g,.int .i64 ln,.lslc 1 (strR L) 0 nn false,.bool cl]]::tl,dy⟩ K KP:=
 (chord27 y i (W.drop o) hi (by rw [List.length_drop];omega) (fun x hx2=>hx x (List.mem_of_mem_drop hx2)) (fun l' h=>by rw [hc] at h;cases h;exact hK) (fun h=>by rw [hc] at h;cases h)).sub (.cons (Sub.refl _) (.cons (chord_sub hom) .nil))
theorem chord27n {f g:AV} {q0 q1 q2 q3:AObj} {e:Nat} {ln:Int} {L:List (List UInt8)} {nn:Nat} {cl:Bool} {tl dy:List AObj} (y:Sy) (i:Ins) {W:List (List UInt8)} {o m:Nat} (hom:o+m=W.length) (hi:i.cs.length≤100000) (hw:m≤100000) (hx:∀x∈W,x.length≤100000) (hc:chordS y i (W.drop o)=none) {K:AV→Heap→Prop} {KP:Nat→Value→Heap→Prop}
  (hP:∀t v h',PanOk q0 q1 q2 q3 t v h'→KP t v h'):
  ACallsP C.P 27 [.optr (.s 4) e 9 0 0,.lslc 1 (strR W) o m false] ⟨q0::q1::q2::q3:: .vec e [[.int .u8 y.n,y.a,crsA i.cs,intsA i.steps,f,g,.int .i64 ln,.lslc 1 (strR L) 0 nn false,.bool cl]]::tl,dy⟩ K KP:=
 (chord27 y i (W.drop o) hi (by rw [List.length_drop];omega) (fun x hx2=>hx x (List.mem_of_mem_drop hx2)) (fun l' h=>by rw [hc] at h;cases h) (fun _=>hP)).sub (.cons (Sub.refl _) (.cons (chord_sub hom) .nil))
theorem colK_ok {y:Sy} {i:Ins} {ws:List (List UInt8)} {z:Bool×List Wr} (h:colK y i ws=some z):∀w∈z.2,w.Ok:=by
 unfold colK at h
 split at h
 ·cases h;simp
 ·split at h
  ·cases h;simp
  ·split at h
   ·cases h
   ·rename_i l hl;cases h;exact chordS_ok hl
theorem stfA_len {y:Sy} {n:Nat} {O:List (List UInt8)}:∀{m c:Nat} {acc r:List Wr},stfA y n O acc m c=some r→r.length≤acc.length+m
 |0,c,acc,r,h=>by cases h;omega
 |m+1,c,acc,r,h=>by
  rw [stfA] at h
  split at h
  ·have:=stfA_len h;omega
  ·split at h
   ·cases h
   ·have:=stfA_len h;rw [List.length_append,List.length_singleton] at this;omega
theorem outA_len {y:Sy}:∀{X:List (List UInt8)} {last:Int} {acc r:List Wr},outA y acc last X=some r→r.length≤acc.length+X.length
 | [],last,acc,r,h=>by cases h;simp
 |t::X,last,acc,r,h=>by
  rw [outA] at h
  split at h
  ·cases h
  ·split at h
   ·cases h
   ·have:=outA_len h;rw [List.length_append,List.length_singleton] at this;rw [List.length_cons];omega
theorem chordS_len {y:Sy} {i:Ins} {ws:List (List UInt8)} {r:List Wr} (h:chordS y i ws=some r):r.length≤ws.length+ws.length:=by
 unfold chordS at h
 split at h
 ·cases h
 ·split at h
  ·cases h
  ·rename_i a ha
   split at h
   ·cases h
   ·rename_i b hb
    split at h
    ·cases h
    ·cases h;have h1:=stfA_len ha;have h2:=outA_len hb;have h3:(ouS y (nS y i) ws).length≤ws.length:=by unfold ouS;split<;>simp<;>omega
     simp only [List.length_nil] at h1;omega
theorem colK_len {y:Sy} {i:Ins} {ws:List (List UInt8)} {z:Bool×List Wr} (h:colK y i ws=some z):z.2.length≤ws.length+ws.length:=by
 unfold colK at h
 split at h
 ·cases h;simp
 ·split at h
  ·cases h;simp
  ·split at h
   ·cases h
   ·rename_i l hl;cases h;exact chordS_len hl
theorem col_rest1 {q0 q1 q2 q3:AObj} {e e5 e6 e7:Nat} {ln:Int} {L:List (List UInt8)} {n:Nat} {cl:Bool} (y:Sy) (i:Ins) (evs:List Evt) (nts:List (List Wr)) (eps:Nat→Nat) (bar:Bool) {W:List (List UInt8)} {o m:Nat} (hom:o+m=W.length)
  (hi:i.cs.length≤100000) (hev:evs.length≤100000) (hnt:nts.length≤100000) (hw:W.length≤70000) (hx:∀x∈W,x.length≤100000) (hq:∀o∈[q0,q1,q2,q3],noO o) {K:AE→List AV→Heap→Prop}
  (hK:∀ev nt,colB y i (decide (evs.length=0)) bar (W.drop o)=some (ev,nt)→∀e5 e6 eps fr rest,K .normal fr ⟨[q0,q1,q2,q3,.vec e [[.int .u8 y.n,y.a,crsA i.cs,intsA i.steps,.oslc (.s 5) e5 6 0 (evs.length+1) false,.oslc (.s 6) e6 1 0 (nts.length+1) false,.int .i64 ln,.lslc 1 (strR L) 0 n false,.bool cl]],.vec e5 (rowsD memL 0 eps 0 (evs++[ev])),.vec e6 ((nts++[nt]).map ntR)]++rest,objsD memL eps 0 (evs++[ev])⟩)
  (hP:colB y i (decide (evs.length=0)) bar (W.drop o)=none→∀t v fr h',PanOk q0 q1 q2 q3 t v h'→K (.pan t v) fr h'):
  WK C rest13a (frOf 0 145 [(0,.optr (.s 4) e 9 0 0),(4,.lslc 1 (strR W) o m false),(5,.optr (.s 7) e7 6 0 0)])
   ⟨[q0,q1,q2,q3,.vec e [[.int .u8 y.n,y.a,crsA i.cs,intsA i.steps,.oslc (.s 5) e5 6 0 evs.length false,.oslc (.s 6) e6 1 0 nts.length false,.int .i64 ln,.lslc 1 (strR L) 0 n false,.bool cl]],.vec e5 (rowsD memL 0 eps 0 evs),.vec e6 (nts.map ntR),.vec e7 [[.bool bar,.int .i64 0,.bool false,.bool false,.bool false,.nils]],.hole,.hole,.hole,.hole,.hole,.hole,.hole,.hole,.hole],objsD memL eps 0 evs⟩ K:=by
 obtain ⟨R0,hR⟩:∃R,R=colB y i (decide (evs.length=0)) bar (W.drop o):=⟨_,rfl⟩;rw [←hR] at hK hP;unfold colB at hR;have hlen:(W.drop o).length=m:=by rw [List.length_drop];omega
 rw [hlen] at hR;by_cases h2:m<2
 ·rw [if_pos h2] at hR;have hp:=hP hR;refine wk_seq (wkA ok mixed (A:=A13) ?_)
  (repeat' (first|exact rfl|((conv=>whnf);first|(exact fail12 4 (by decide) fun t v h' hx=>hp t v _ _ (hx.trunc (Nat.le_of_ble_eq_true rfl)))|exact rfl|exact ⟨rfl,rfl⟩|refine go1 ?_|(intro ep)|(refine ifB ?_ ?_<;>intro hb<;>(try simp only [qs] at hb)<;>(try simp (disch:=omega) only [wrapI] at hb)<;>(try (exfalso;omega)))|fail)))
 rw [if_neg h2] at hR;have hm0:(strR W)[o+(0:Int).toNat]? =some [.str ((W.drop o).getD 0 [])]:=by
  unfold strR;rw [List.getElem?_map,List.getD_eq_getElem?_getD,List.getElem?_drop,List.getElem?_eq_getElem (show o+(0:Int).toNat<W.length by show o+0<_;omega)];rw [List.getElem?_eq_getElem (show o+0<W.length by omega)];rfl
 have hpt:=parseTm_spec y ((W.drop o).getD 0 []);generalize (W.drop o).getD 0 []=w0 at hm0 hpt hR;obtain ⟨P0,hP0⟩:∃P,P=parseTm y w0:=⟨_,rfl⟩;rw [←hP0] at hpt hR;cases P0 with
 |none=>
  dsimp only at hR;have hp:=hP hR;refine wk_seq (wkA ok mixed (A:=A13) ?_)
  (repeat' (first|exact rfl|((conv=>whnf);first|(exact fail12 4 (by decide) fun t v h' hx=>hp t v _ _ (hx.trunc (Nat.le_of_ble_eq_true rfl)))|(refine optS hm0 ?_)|(refine ⟨_,hpt,?_⟩)|exact rfl|exact ⟨rfl,rfl⟩|refine go1 ?_|(intro ep)|(refine wk_seq (wkA ok mixed (A:=A13) ?_))|(refine ifB ?_ ?_<;>intro hb<;>(try simp only [qs] at hb)<;>(try simp (disch:=omega) only [wrapI] at hb)<;>(try (exfalso;omega)))|fail)))
 |some p=>
  obtain ⟨v,d,th⟩:=p;dsimp only at hR;rw [List.drop_drop] at hR;(refine wk_seq (wkA ok mixed (A:=A13) ?_));(repeat' (first|exact rfl|((conv=>whnf);first|(refine optS hm0 ?_)|(refine ⟨_,hpt,?_⟩)|exact rfl|exact ⟨rfl,rfl⟩|refine go1 ?_|(intro ep)|(refine ifB ?_ ?_<;>intro hb<;>(try simp only [qs] at hb)<;>(try simp (disch:=omega) only [wrapI] at hb)<;>(try (exfalso;omega)))|fail)));(conv=>whnf);(refine wk_seq (wkA ok mixed (A:=A13) ?_));(repeat' (first|exact rfl|((conv=>whnf);first|(refine optS hm0 ?_)|(refine ⟨_,hpt,?_⟩)|exact rfl|exact ⟨rfl,rfl⟩|refine go1 ?_|(intro ep)|(refine ifB ?_ ?_<;>intro hb<;>(try simp only [qs] at hb)<;>(try simp (disch:=omega) only [wrapI] at hb)<;>(try (exfalso;omega)))|fail)));(conv=>whnf);(refine wk_seq (wkA ok mixed (A:=A13) ?_));(repeat' (first|exact rfl|((conv=>whnf);first|(refine optS hm0 ?_)|(refine ⟨_,hpt,?_⟩)|exact rfl|exact ⟨rfl,rfl⟩|refine go1 ?_|(intro ep)|(refine ifB ?_ ?_<;>intro hb<;>(try simp only [qs] at hb)<;>(try simp (disch:=omega) only [wrapI] at hb)<;>(try (exfalso;omega)))|fail)));(conv=>whnf);(refine wk_seq (wkA ok mixed (A:=A13) ?_));(repeat' (first|exact rfl|((conv=>whnf);first|(refine optS hm0 ?_)|(refine ⟨_,hpt,?_⟩)|exact rfl|exact ⟨rfl,rfl⟩|refine go1 ?_|(intro ep)|(refine ifB ?_ ?_<;>intro hb<;>(try simp only [qs] at hb)<;>(try simp (disch:=omega) only [wrapI] at hb)<;>(try (exfalso;omega)))|fail)));(conv=>whnf);(refine wk_seq (wkA ok mixed (A:=A13) ?_));(repeat' (first|exact rfl|((conv=>whnf);first|(refine optS hm0 ?_)|(refine ⟨_,hpt,?_⟩)|exact rfl|exact ⟨rfl,rfl⟩|refine go1 ?_|(intro ep)|(refine ifB ?_ ?_<;>intro hb<;>(try simp only [qs] at hb)<;>(try simp (disch:=omega) only [wrapI] at hb)<;>(try (exfalso;omega)))|fail)));(conv=>whnf);have hm1:(strR W)[o+Int.toNat 1+Int.toNat 0]? =some [.str ((W.drop (o+1)).getD 0 [])]:=by
   show (strR W)[o+1+0]? =_;unfold strR;rw [List.getElem?_map,List.getD_eq_getElem?_getD,List.getElem?_drop,List.getElem?_eq_getElem (show o+1+0<W.length by omega)];rfl
  have h7:=has_spec y 7;have h8:=has_spec y 8;have hw1l:(W.drop (o+1)).length=m-1:=by rw [List.length_drop];omega
  have hcx:=hx;refine wk_cut [0,5,8] [0,1,2,3,4,5,6,7] (S:={ z:Bool×Bool×List Wr // colK y i (W.drop (o+1))=some z.2∧(z.1=true→z.2.2=[]) })
   (fun s=>frOf 0 145 [(0,.optr (.s 4) e 9 0 0),(5,.optr (.s 7) e7 6 0 0),(8,match s.1.1 with|true=>.nils|false=>wrsA s.1.2.2)])
   (fun s=>⟨[q0,q1,q2,q3,.vec e [[.int .u8 y.n,y.a,crsA i.cs,intsA i.steps,.oslc (.s 5) e5 6 0 evs.length false,.oslc (.s 6) e6 1 0 nts.length false,.int .i64 ln,.lslc 1 (strR L) 0 n false,.bool cl]],.vec e5 (rowsD memL 0 eps 0 evs),.vec e6 (nts.map ntR),.vec e7 [[.bool bar,.int .i64 v,.bool d,.bool th,.bool s.1.2.1,.nils]],.hole,.hole,.hole,.hole,.hole,.hole,.hole,.hole,.hole],objsD memL eps 0 evs⟩) (wkA ok mixed (A:=A13) ?_) ?_
  ·have hK0:colK y i (W.drop (o+1))=colK y i (W.drop (o+1)):=rfl
   conv at hK0=>rhs;unfold colK
   rw [hw1l] at hK0;generalize hwd:(W.drop (o+1)).getD 0 []=w1 at hm1 hK0;generalize hasS y 7=b7 at h7 hK0;generalize hasS y 8=b8 at h8 hK0;by_cases hl:m-1=1
   ·by_cases h126:w1=[126]
    ·cases b7 with
     |true=>
      rw [if_pos ⟨hl,h126,rfl⟩] at hK0
      (repeat' (first|exact rfl|((conv=>whnf);first|(refine optS hm1 ?_)|(refine ⟨_,_,has_mo y,h7,?_⟩)|(refine ⟨_,_,has_mo y,h8,?_⟩)|(exact absurd ‹w1=_› hb)|(exact absurd hb ‹¬w1=_›)|(exact chord27n y i (W:=W) (o:=o+Int.toNat 1) (m:=m-Int.toNat 1) (by show o+1+(m-1)=_;omega) hi (by show m-1≤_;omega) hcx hcc fun t v h' hx=>hP (by rw [hR,hK0]) t v _ _ (hx.trunc (Nat.le_of_ble_eq_true rfl)))|(refine chord27s y i (W:=W) (o:=o+Int.toNat 1) (m:=m-Int.toNat 1) (by show o+1+(m-1)=_;omega) hi (by show m-1≤_;omega) hcx hcc ?_)|exact rfl|exact ⟨rfl,rfl⟩|refine go1 ?_|(intro ep)|(refine ifB ?_ ?_<;>intro hb<;>(try simp only [qs] at hb)<;>(try simp (disch:=omega) only [wrapI] at hb)<;>(try (exfalso;omega)))|fail)))
      all_goals (conv=>whnf)
      all_goals exact back_of ⟨(true,true,[]),hK0,fun _=>rfl⟩ ⟨rfl,rfl⟩
     |false=>
      subst h126;rw [if_neg (by simp),if_neg (by simp)] at hK0
      (rcases hcc:chordS y i (W.drop (o+1)) with _|l<;>rw [hcc] at hK0<;>dsimp only at hK0)
      (repeat' (first|exact rfl|((conv=>whnf);first|(refine optS hm1 ?_)|(refine ⟨_,_,has_mo y,h7,?_⟩)|(refine ⟨_,_,has_mo y,h8,?_⟩)|(exact absurd ‹w1=_› hb)|(exact absurd hb ‹¬w1=_›)|(exact chord27n y i (W:=W) (o:=o+Int.toNat 1) (m:=m-Int.toNat 1) (by show o+1+(m-1)=_;omega) hi (by show m-1≤_;omega) hcx hcc fun t v h' hx=>hP (by rw [hR,hK0]) t v _ _ (hx.trunc (Nat.le_of_ble_eq_true rfl)))|(refine chord27s y i (W:=W) (o:=o+Int.toNat 1) (m:=m-Int.toNat 1) (by show o+1+(m-1)=_;omega) hi (by show m-1≤_;omega) hcx hcc ?_)|exact rfl|exact ⟨rfl,rfl⟩|refine go1 ?_|(intro ep)|(refine ifB ?_ ?_<;>intro hb<;>(try simp only [qs] at hb)<;>(try simp (disch:=omega) only [wrapI] at hb)<;>(try (exfalso;omega)))|fail)))
      all_goals (conv=>whnf)
      all_goals exact back_of ⟨(false,false,_),hK0,fun h=>by cases h⟩ ⟨rfl,rfl⟩
    ·rw [if_neg (fun h=>h126 h.2.1)] at hK0;by_cases h37:w1=[37]
     ·cases b8 with
      |true=>
       rw [if_pos ⟨hl,h37,rfl⟩] at hK0
       (repeat' (first|exact rfl|((conv=>whnf);first|(refine optS hm1 ?_)|(refine ⟨_,_,has_mo y,h7,?_⟩)|(refine ⟨_,_,has_mo y,h8,?_⟩)|(exact absurd ‹w1=_› hb)|(exact absurd hb ‹¬w1=_›)|(exact chord27n y i (W:=W) (o:=o+Int.toNat 1) (m:=m-Int.toNat 1) (by show o+1+(m-1)=_;omega) hi (by show m-1≤_;omega) hcx hcc fun t v h' hx=>hP (by rw [hR,hK0]) t v _ _ (hx.trunc (Nat.le_of_ble_eq_true rfl)))|(refine chord27s y i (W:=W) (o:=o+Int.toNat 1) (m:=m-Int.toNat 1) (by show o+1+(m-1)=_;omega) hi (by show m-1≤_;omega) hcx hcc ?_)|exact rfl|exact ⟨rfl,rfl⟩|refine go1 ?_|(intro ep)|(refine ifB ?_ ?_<;>intro hb<;>(try simp only [qs] at hb)<;>(try simp (disch:=omega) only [wrapI] at hb)<;>(try (exfalso;omega)))|fail)))
       all_goals (conv=>whnf)
       all_goals exact back_of ⟨(true,false,[]),hK0,fun _=>rfl⟩ ⟨rfl,rfl⟩
      |false=>
       rw [if_neg (by simp)] at hK0
       (rcases hcc:chordS y i (W.drop (o+1)) with _|l<;>rw [hcc] at hK0<;>dsimp only at hK0)
       (repeat' (first|exact rfl|((conv=>whnf);first|(refine optS hm1 ?_)|(refine ⟨_,_,has_mo y,h7,?_⟩)|(refine ⟨_,_,has_mo y,h8,?_⟩)|(exact absurd ‹w1=_› hb)|(exact absurd hb ‹¬w1=_›)|(exact chord27n y i (W:=W) (o:=o+Int.toNat 1) (m:=m-Int.toNat 1) (by show o+1+(m-1)=_;omega) hi (by show m-1≤_;omega) hcx hcc fun t v h' hx=>hP (by rw [hR,hK0]) t v _ _ (hx.trunc (Nat.le_of_ble_eq_true rfl)))|(refine chord27s y i (W:=W) (o:=o+Int.toNat 1) (m:=m-Int.toNat 1) (by show o+1+(m-1)=_;omega) hi (by show m-1≤_;omega) hcx hcc ?_)|exact rfl|exact ⟨rfl,rfl⟩|refine go1 ?_|(intro ep)|(refine ifB ?_ ?_<;>intro hb<;>(try simp only [qs] at hb)<;>(try simp (disch:=omega) only [wrapI] at hb)<;>(try (exfalso;omega)))|fail)))
       all_goals (conv=>whnf)
       all_goals exact back_of ⟨(false,false,_),hK0,fun h=>by cases h⟩ ⟨rfl,rfl⟩
     ·rw [if_neg (fun h=>h37 h.2.1)] at hK0
      (rcases hcc:chordS y i (W.drop (o+1)) with _|l<;>rw [hcc] at hK0<;>dsimp only at hK0)
      (repeat' (first|exact rfl|((conv=>whnf);first|(refine optS hm1 ?_)|(refine ⟨_,_,has_mo y,h7,?_⟩)|(refine ⟨_,_,has_mo y,h8,?_⟩)|(exact absurd ‹w1=_› hb)|(exact absurd hb ‹¬w1=_›)|(exact chord27n y i (W:=W) (o:=o+Int.toNat 1) (m:=m-Int.toNat 1) (by show o+1+(m-1)=_;omega) hi (by show m-1≤_;omega) hcx hcc fun t v h' hx=>hP (by rw [hR,hK0]) t v _ _ (hx.trunc (Nat.le_of_ble_eq_true rfl)))|(refine chord27s y i (W:=W) (o:=o+Int.toNat 1) (m:=m-Int.toNat 1) (by show o+1+(m-1)=_;omega) hi (by show m-1≤_;omega) hcx hcc ?_)|exact rfl|exact ⟨rfl,rfl⟩|refine go1 ?_|(intro ep)|(refine ifB ?_ ?_<;>intro hb<;>(try simp only [qs] at hb)<;>(try simp (disch:=omega) only [wrapI] at hb)<;>(try (exfalso;omega)))|fail)))
      all_goals (conv=>whnf)
      all_goals exact back_of ⟨(false,false,_),hK0,fun h=>by cases h⟩ ⟨rfl,rfl⟩
   ·rw [if_neg (fun h=>hl h.1),if_neg (fun h=>hl h.1)] at hK0
    (rcases hcc:chordS y i (W.drop (o+1)) with _|l<;>rw [hcc] at hK0<;>dsimp only at hK0)
    (repeat' (first|exact rfl|((conv=>whnf);first|(refine optS hm1 ?_)|(refine ⟨_,_,has_mo y,h7,?_⟩)|(refine ⟨_,_,has_mo y,h8,?_⟩)|(exact absurd ‹w1=_› hb)|(exact absurd hb ‹¬w1=_›)|(exact chord27n y i (W:=W) (o:=o+Int.toNat 1) (m:=m-Int.toNat 1) (by show o+1+(m-1)=_;omega) hi (by show m-1≤_;omega) hcx hcc fun t v h' hx=>hP (by rw [hR,hK0]) t v _ _ (hx.trunc (Nat.le_of_ble_eq_true rfl)))|(refine chord27s y i (W:=W) (o:=o+Int.toNat 1) (m:=m-Int.toNat 1) (by show o+1+(m-1)=_;omega) hi (by show m-1≤_;omega) hcx hcc ?_)|exact rfl|exact ⟨rfl,rfl⟩|refine go1 ?_|(intro ep)|(refine ifB ?_ ?_<;>intro hb<;>(try simp only [qs] at hb)<;>(try simp (disch:=omega) only [wrapI] at hb)<;>(try (exfalso;omega)))|fail)))
    all_goals (conv=>whnf)
    all_goals exact back_of ⟨(false,false,_),hK0,fun h=>by cases h⟩ ⟨rfl,rfl⟩
  ·rintro ⟨⟨fl,tie,l⟩,hz,hf⟩;dsimp only at hz hf;rw [hz] at hR;dsimp only at hR;have hok:=colK_ok hz;have hln:l.length≤200000:=by have:=colK_len hz;rw [hw1l] at this;dsimp only at this;omega
   have key:=col_rest2 (e:=e) (e5:=e5) (e6:=e6) (e7:=e7) (ln:=ln) (L:=L) (n:=n) (cl:=cl) y i evs nts eps bar v d th tie l hi hev hnt hln hok hq (K:=K) (fun ev nt h=>hK ev nt (by rw [hR];exact h)) fun h=>hP (by rw [hR];exact h);cases fl with
   |false=>exact key
   |true=>
    have:=hf rfl
    try dsimp only at this
    subst this;exact wk_sub (SubL.set (Sub.nils) (frOf 0 145 [(0,.optr (.s 4) e 9 0 0),(5,.optr (.s 7) e7 6 0 0)]) 8) key
theorem split0 (t:List UInt8):1≤(splitC 32 t).length:=by have:=splitC_len 32 t;omega
theorem column13 {q0 q1 q2 q3:AObj} {e e5 e6:Nat} {ln:Int} {L:List (List UInt8)} {n:Nat} {cl:Bool} (y:Sy) (i:Ins) (evs:List Evt) (nts:List (List Wr)) (eps:Nat→Nat) (t:List UInt8)
  (hi:i.cs.length≤100000) (hev:evs.length≤100000) (hnt:nts.length≤100000) (ht:t.length≤69999) (hq:∀o∈[q0,q1,q2,q3],noO o) {K:AV→Heap→Prop} {KP:Nat→Value→Heap→Prop}
  (hK:∀ev nt,colR y i (decide (evs.length=0)) t=some (ev,nt)→∀e5 e6 eps rest,K (.tup []) ⟨[q0,q1,q2,q3,.vec e [[.int .u8 y.n,y.a,crsA i.cs,intsA i.steps,.oslc (.s 5) e5 6 0 (evs.length+1) false,.oslc (.s 6) e6 1 0 (nts.length+1) false,.int .i64 ln,.lslc 1 (strR L) 0 n false,.bool cl]],.vec e5 (rowsD memL 0 eps 0 (evs++[ev])),.vec e6 ((nts++[nt]).map ntR)]++rest,objsD memL eps 0 (evs++[ev])⟩)
  (hP:colR y i (decide (evs.length=0)) t=none→∀t v h',PanOk q0 q1 q2 q3 t v h'→KP t v h'):
  ACallsP C.P 13 [.optr (.s 4) e 9 0 0,.str t] ⟨[q0,q1,q2,q3,.vec e [[.int .u8 y.n,y.a,crsA i.cs,intsA i.steps,.oslc (.s 5) e5 6 0 evs.length false,.oslc (.s 6) e6 1 0 nts.length false,.int .i64 ln,.lslc 1 (strR L) 0 n false,.bool cl]],.vec e5 (rowsD memL 0 eps 0 evs),.vec e6 (nts.map ntR)],objsD memL eps 0 evs⟩ K KP:=by
 refine fnPW_of ok 10 Tryz.func13 rfl ?_;have hsp:=split_spec t 32 (by omega);have hwl:(splitC 32 t).length≤70000:=by
  have:=splitC_len 32 t;have:=List.count_le_length (a:=(32:UInt8)) (l:=t);omega
 have hws:∀x∈splitC 32 t,x.length≤100000:=fun x hx=>Nat.le_trans (splitC_sum 32 t x hx) (by omega);have h1:=split0 t;unfold colR at hK hP;generalize splitC 32 t=W at hsp hwl hws h1 hK hP;have hm0:(strR W)[0+(0:Int).toNat]? =some [.str (W.getD 0 [])]:=by
  unfold strR;rw [List.getElem?_map,List.getD_eq_getElem?_getD,List.getElem?_eq_getElem (show 0+(0:Int).toNat<W.length by show 0+0<_;omega)];rw [List.getElem?_eq_getElem (show 0<W.length by omega)];rfl
 refine wk_seq (wkA ok mixed (A:=A13) ?_)
 (repeat' (first|exact rfl|((conv=>whnf);first|(refine ⟨_,hsp,?_⟩)|exact rfl|exact ⟨rfl,rfl⟩|refine go1 ?_|(intro ep)|(refine ifB ?_ ?_<;>intro hb<;>(try simp only [qs] at hb)<;>(try simp (disch:=omega) only [wrapI] at hb)<;>(try (exfalso;omega)))|fail)))
 (conv=>whnf);refine wk_seq (wkA ok mixed (A:=A13) ?_)
 (repeat' (first|exact rfl|((conv=>whnf);first|(refine ⟨_,hsp,?_⟩)|exact rfl|exact ⟨rfl,rfl⟩|refine go1 ?_|(intro ep)|fail)))
 obtain ⟨e7,he⟩:∃e7,e7=ep:=⟨_,rfl⟩;subst he;(conv=>whnf);by_cases hb0:W.getD 0 []=[124]
 ·rw [if_pos hb0] at hK hP;refine wk_cut [0,4,5] [0,1,2,3,4,5,6,7] (S:=Unit)
   (fun _=>frOf 0 145 [(0,.optr (.s 4) e 9 0 0),(4,.lslc 1 (strR W) 1 (W.length-1) false),(5,.optr (.s 7) e7 6 0 0)])
   (fun _=>⟨[q0,q1,q2,q3,.vec e [[.int .u8 y.n,y.a,crsA i.cs,intsA i.steps,.oslc (.s 5) e5 6 0 evs.length false,.oslc (.s 6) e6 1 0 nts.length false,.int .i64 ln,.lslc 1 (strR L) 0 n false,.bool cl]],.vec e5 (rowsD memL 0 eps 0 evs),.vec e6 (nts.map ntR),.vec e7 [[.bool true,.int .i64 0,.bool false,.bool false,.bool false,.nils]],.hole,.hole,.hole,.hole,.hole,.hole,.hole,.hole,.hole],objsD memL eps 0 evs⟩) (wkA ok mixed (A:=A13) ?_) fun _=>?_
  ·(repeat' (first|exact rfl|((conv=>whnf);first|(refine optS hm0 ?_)|(exact absurd hb0 hb)|(exact back_of () ⟨rfl,rfl⟩)|exact rfl|exact ⟨rfl,rfl⟩|refine go1 ?_|(intro ep)|(refine ifB ?_ ?_<;>intro hb<;>(try simp only [qs] at hb)<;>(try simp (disch:=omega) only [wrapI] at hb)<;>(try (exfalso;omega)))|fail)))
  ·exact col_rest1 y i evs nts eps true (W:=W) (o:=1) (m:=W.length-1) (by omega) hi hev hnt hwl hws hq (fun ev nt h e5 e6 eps fr rest=>hK ev nt h e5 e6 eps rest) fun h t v fr h' x=>hP h t v h' x
 ·rw [if_neg hb0] at hK hP;refine wk_cut [0,4,5] [0,1,2,3,4,5,6,7] (S:=Unit)
   (fun _=>frOf 0 145 [(0,.optr (.s 4) e 9 0 0),(4,.lslc 1 (strR W) 0 W.length false),(5,.optr (.s 7) e7 6 0 0)])
   (fun _=>⟨[q0,q1,q2,q3,.vec e [[.int .u8 y.n,y.a,crsA i.cs,intsA i.steps,.oslc (.s 5) e5 6 0 evs.length false,.oslc (.s 6) e6 1 0 nts.length false,.int .i64 ln,.lslc 1 (strR L) 0 n false,.bool cl]],.vec e5 (rowsD memL 0 eps 0 evs),.vec e6 (nts.map ntR),.vec e7 [[.bool false,.int .i64 0,.bool false,.bool false,.bool false,.nils]],.hole,.hole,.hole,.hole,.hole,.hole,.hole,.hole,.hole],objsD memL eps 0 evs⟩) (wkA ok mixed (A:=A13) ?_) fun _=>?_
  ·(repeat' (first|exact rfl|((conv=>whnf);first|(refine optS hm0 ?_)|(exact absurd hb hb0)|(exact back_of () ⟨rfl,rfl⟩)|exact rfl|exact ⟨rfl,rfl⟩|refine go1 ?_|(intro ep)|(refine ifB ?_ ?_<;>intro hb<;>(try simp only [qs] at hb)<;>(try simp (disch:=omega) only [wrapI] at hb)<;>(try (exfalso;omega)))|fail)))
  ·exact col_rest1 y i evs nts eps false (W:=W) (o:=0) (m:=W.length) (by omega) hi hev hnt hwl hws hq (fun ev nt h e5 e6 eps fr rest=>hK ev nt (by rw [List.drop_zero] at h;exact h) e5 e6 eps rest) fun h t v fr h' x=>hP (by rw [List.drop_zero] at h;exact h) t v h' x
end Go.Ab.V
