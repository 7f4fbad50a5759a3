/-
  What is proved here serves the law's text: each part says its own claim and its conditions. No condition is left open.
-/
import Derived.Test.YtohegnfjdfcebaaGreatDoorJL
import Derived.Test.YtohegnfjdfcebaaGreatDoorJM
import Derived.Test.YtohegnfjdfcebaaGreatDoorKV
set_option maxHeartbeats 32000000
set_option maxRecDepth 100000
set_option linter.unusedSimpArgs false
set_option linter.unusedVariables false

namespace Go.Ab.V
open Go.Proofs
def mnI (a b:Int):Int:=if b<a then b else a
def stAt (evs:List Evt) (i k:Nat):Option Stp:=(evs[i]?).bind fun e=>e.stops[k]?
def cap0 (evs:List Evt) (i k:Nat) (s:Stp):List Evt:=if s.f=0 then setH evs i k 0 else evs
def capW (evs:List Evt) (i k:Nat):List Evt:=match stAt evs i k with
 |none=>evs
 |some s=>setH (cap0 evs i k s) i k (mnI (if s.f=0 then 0 else s.h) (longest (cap0 evs i k s) i s.c))
def capN:Nat→List Evt→Nat→Nat→List Evt
 |0,evs,_,_=>evs
 |n+1,evs,i,k=>capN n (capW evs i k) i (k+1)
def capL:Nat→List Evt→Nat→List Evt
 |0,evs,_=>evs
 |n+1,evs,i=>capL n (capN ((shpE evs).getD i 0) evs i 0) (i+1)
theorem cap0_shp (evs:List Evt) (i k:Nat) (s:Stp):shpE (cap0 evs i k s)=shpE evs:=by
 unfold cap0;split
 ·exact setH_shp _ _ _ _
 ·rfl
theorem capW_shp (evs:List Evt) (i k:Nat):shpE (capW evs i k)=shpE evs:=by
 unfold capW;split
 ·rfl
 ·rw [setH_shp,cap0_shp]
theorem capN_shp:∀(n:Nat) (evs:List Evt) (i k:Nat),shpE (capN n evs i k)=shpE evs
 |0,_,_,_=>rfl
 |n+1,evs,i,k=>by rw [capN,capN_shp n,capW_shp]
theorem capL_shp:∀(n:Nat) (evs:List Evt) (i:Nat),shpE (capL n evs i)=shpE evs
 |0,_,_=>rfl
 |n+1,evs,i=>by rw [capL,capL_shp n,capN_shp]
theorem setH_get {evs:List Evt} {i k:Nat} {v:Int} {s:Stp} (hi:i<evs.length) (hs:evs[i].stops[k]? =some s):
  ∃h:i<(setH evs i k v).length,(setH evs i k v)[i].stops[k]? =some { s with h:=v }:=by
 have e1:evs[i]? =some evs[i]:=List.getElem?_eq_getElem hi;have e2:setH evs i k v=evs.set i (setE evs[i] k v):=by unfold setH;rw [e1]
 have hl:i<(setH evs i k v).length:=by rw [e2,List.length_set];exact hi
 refine ⟨hl,?_⟩;have e3:(setH evs i k v)[i]=setE evs[i] k v:=by simp [e2]
 rw [e3];unfold setE;rw [hs];obtain ⟨h1,_⟩:=List.getElem?_eq_some_iff.1 hs;simp [List.getElem?_set,h1]
noncomputable def res42b:Code:=sndC res42
theorem carB (i:Ins) (evs:List Evt) (C0:List AV) (A7:List (List AV)) {N:Nat} (hN:evs.length=N) (hn:N≤400) (hi:i.cs.length≤1000) (hi2:i.steps.length≤1000) (hsl:∀m∈shpE evs,m≤1000) {c0 r0 p6 e7 e9:Nat} (eps:Nat→Nat) {K:AE→List AV→Heap→Prop}
  (hK:WK (Cx [] [29]) res42b (frOf 0 131 [(2,.optr (.s 1) c0 7 0 0),(4,.optr (.s 3) r0 3 0 0),(6,.optr (.s 4) p6 3 0 0),(7,.oslc (.s 7) e7 3 0 N false)]) ⟨[.hole,.vec c0 [C0],.hole,.vec r0 [[.nils,.nils,.nils]],.vec p6 [[crsA i.cs,intsA i.steps,.oslc (.s 9) e9 6 0 N false]],.hole,.hole,.vec e7 A7,.hole,.vec e9 (rowsD memL 0 eps 0 (capL N evs 0)),.hole],objsD memL eps 0 (capL N evs 0)⟩ K):
  WK (Cx [] [29]) res42 (frOf 0 131 [(2,.optr (.s 1) c0 7 0 0),(4,.optr (.s 3) r0 3 0 0),(6,.optr (.s 4) p6 3 0 0),(7,.oslc (.s 7) e7 3 0 N false)]) ⟨[.hole,.vec c0 [C0],.hole,.vec r0 [[.nils,.nils,.nils]],.vec p6 [[crsA i.cs,intsA i.steps,.oslc (.s 9) e9 6 0 N false]],.hole,.hole,.vec e7 A7,.hole,.vec e9 (rowsD memL 0 eps 0 evs),.hole],objsD memL eps 0 evs⟩ K:=by
 obtain ⟨R,hR⟩:∃R,R=capL N evs 0:=⟨_,rfl⟩;rw [←hR] at hK;obtain ⟨SH,hSH⟩:∃SH,SH=shpE evs:=⟨_,rfl⟩;refine wk_seq (wkA (okx [] [29]) mixed (A:=A42) ?_)
 (repeat' (first|exact rfl|((conv=>whnf);first|exact rfl|exact ⟨rfl,rfl⟩|refine go1 ?_|(intro ep)|fail)));(conv=>whnf)
 refine loopY (okx [] [29]) mixed (A:=A42) [2,4,6,7,45,46] [1,3,4,7,9] (S:={ z:Nat×List Evt // z.1≤N∧shpE z.2=SH∧R=capL (N-z.1) z.2 z.1 })
  (fr:=fun s=>frOf 0 131 [(2,.optr (.s 1) c0 7 0 0),(4,.optr (.s 3) r0 3 0 0),(6,.optr (.s 4) p6 3 0 0),(7,.oslc (.s 7) e7 3 0 N false),(45,.int .i64 N),(46,.int .i64 (s.1.1:Int))])
  (h:=fun s=>⟨[.hole,.vec c0 [C0],.hole,.vec r0 [[.nils,.nils,.nils]],.vec p6 [[crsA i.cs,intsA i.steps,.oslc (.s 9) e9 6 0 N false]],.hole,.hole,.vec e7 A7,.hole,.vec e9 (rowsD memL 0 eps 0 s.1.2),.hole],objsD memL eps 0 s.1.2⟩) (μ:=fun s=>N-s.1.1) ⟨(0,evs),by simp,hSH.symm,hR⟩ ?_ ?_
  [2,4,6,7] [1,3,4,7,9] (S':=Unit) (X:=fun _=>2) (frX:=fun s=>frOf 0 131 [(2,.optr (.s 1) c0 7 0 0),(4,.optr (.s 3) r0 3 0 0),(6,.optr (.s 4) p6 3 0 0),(7,.oslc (.s 7) e7 3 0 N false)]) (hX:=fun s=>⟨[.hole,.vec c0 [C0],.hole,.vec r0 [[.nils,.nils,.nils]],.vec p6 [[crsA i.cs,intsA i.steps,.oslc (.s 9) e9 6 0 N false]],.hole,.hole,.vec e7 A7,.hole,.vec e9 (rowsD memL 0 eps 0 R),.hole],objsD memL eps 0 R⟩)
  [] [] (S2:={ x:Nat // False }) (frR:=fun s=>frOf 0 131 []) (hR:=fun s=>⟨[],[]⟩) ?_ ?_ ?_
 ·exact rfl
 ·exact rfl
 ·rintro ⟨⟨j,ev⟩,hj,hs,hu⟩;dsimp only at hj hs hu;show aexR _ _ _ (frOf 0 131 [(2,.optr (.s 1) c0 7 0 0),(4,.optr (.s 3) r0 3 0 0),(6,.optr (.s 4) p6 3 0 0),(7,.oslc (.s 7) e7 3 0 N false),(45,.int .i64 N),(46,.int .i64 (j:Int))]) ⟨[.hole,.vec c0 [C0],.hole,.vec r0 [[.nils,.nils,.nils]],.vec p6 [[crsA i.cs,intsA i.steps,.oslc (.s 9) e9 6 0 N false]],.hole,.hole,.vec e7 A7,.hole,.vec e9 (rowsD memL 0 eps 0 ev),.hole],objsD memL eps 0 ev⟩ _;(conv=>whnf);refine ifB (fun g1=>?_) (fun g1=>?_)
  ·simp only [decide_eq_true_eq] at g1;have hjn:j<N:=by omega
   have hel:ev.length=N:=by rw [shp_len (hs.trans hSH),hN]
   have hje:j<ev.length:=by omega
   have hwj:IntKind.i64.wrap ((j:Int)+1)=((j+1:Nat):Int):=by simp (disch:=omega) only [wrapI];omega
   rw [show N-j=(N-(j+1))+1 by omega,capL] at hu;have hm0:(shpE ev).getD j 0=ev[j].stops.length:=by
    unfold shpE;rw [List.getD_eq_getElem?_getD,List.getElem?_map,List.getElem?_eq_getElem hje];rfl
   rw [hm0] at hu;have hml:ev[j].stops.length≤1000:=hsl _ (by rw [←hSH,←hs];exact List.mem_map.2 ⟨ev[j],List.getElem_mem hje,rfl⟩);have hmr:(rowsD memL 0 eps 0 ev)[0+((j:Nat):Int).toNat]? =some (evX ev[j] (.oslc (.d j) (eps j) 5 0 ev[j].stops.length false)):=by
    rw [Nat.zero_add,Int.toNat_natCast,rowsM_get hje,show 0+memL.c * (0+j)=j by show 0+1 * (0+j)=j;omega,Nat.zero_add]
   obtain ⟨m,hm⟩:∃m,m=ev[j].stops.length:=⟨_,rfl⟩;have hSm:SH[j]? =some m:=by
    rw [←hs,hm];unfold shpE;rw [List.getElem?_map,List.getElem?_eq_getElem hje];rfl
   rw [←hm] at hu hml hmr;generalize ev[j]=ee at hmr
   (repeat' (first|exact rfl|((conv=>whnf);first|(refine optS hmr ?_)|exact rfl|exact ⟨rfl,rfl⟩|refine go1 ?_|(intro ep)|fail)))
   (conv=>whnf);obtain ⟨R1,hR1⟩:∃R1,R1=capN m ev j 0:=⟨_,rfl⟩;rw [←hR1] at hu;refine loopK [2,4,6,7,11,45,46,55,56] [1,3,4,7,9] (S:={ z:Nat×List Evt // z.1≤m∧shpE z.2=SH∧R1=capN (m-z.1) z.2 j z.1 })
    (fun s=>frOf 0 131 [(2,.optr (.s 1) c0 7 0 0),(4,.optr (.s 3) r0 3 0 0),(6,.optr (.s 4) p6 3 0 0),(7,.oslc (.s 7) e7 3 0 N false),(11,.int .i64 (j:Int)),(45,.int .i64 N),(46,.int .i64 (j:Int)),(55,.int .i64 m),(56,.int .i64 (s.1.1:Int))])
    (fun s=>⟨[.hole,.vec c0 [C0],.hole,.vec r0 [[.nils,.nils,.nils]],.vec p6 [[crsA i.cs,intsA i.steps,.oslc (.s 9) e9 6 0 N false]],.hole,.hole,.vec e7 A7,.hole,.vec e9 (rowsD memL 0 eps 0 s.1.2),.hole],objsD memL eps 0 s.1.2⟩) (fun s=>m-s.1.1) ⟨(0,ev),by simp,hs,hR1⟩ rfl rfl ?_
   rintro ⟨⟨k,ev⟩,hk,hs,hu1⟩;dsimp only at hk hs hu1;dsimp only;refine wk_seq (wkA (okx [] [29]) mixed (A:=A42) ?_)
   (repeat' (first|exact rfl|((conv=>whnf);first|exact rfl|exact ⟨rfl,rfl⟩|refine go1 ?_|(intro ep)|fail)));(conv=>whnf)
   by_cases hkm:k<m
   ·refine wk_seq (wk_cond (t:=true) (by show AV.bool (decide ((k:Int)<(m:Int)))=_;rw [decide_eq_true (by omega)]) (wk_skip ?_));(conv=>whnf);have hel:ev.length=N:=by rw [shp_len (hs.trans hSH),hN]
    have hje:j<ev.length:=by omega
    have hmj:ev[j].stops.length=m:=by
     have h1:(shpE ev)[j]? =some ev[j].stops.length:=by unfold shpE;rw [List.getElem?_map,List.getElem?_eq_getElem hje];rfl
     rw [hs,hSm] at h1;exact (Option.some.inj h1).symm
    have hks:k<ev[j].stops.length:=by omega
    have hwk:IntKind.i64.wrap ((k:Int)+1)=((k+1:Nat):Int):=by simp (disch:=omega) only [wrapI];omega
    have hst:stAt ev j k=some ev[j].stops[k]:=by unfold stAt;rw [List.getElem?_eq_getElem hje];exact List.getElem?_eq_getElem hks
    rw [show m-k=(m-(k+1))+1 by omega,capN] at hu1;unfold capW at hu1;rw [hst] at hu1;dsimp only at hu1;have hsk:ev[j].stops[k]? =some ev[j].stops[k]:=List.getElem?_eq_getElem hks;have hob:(objsD memL eps 0 ev)[j]? =some (.vec (eps j) (ev[j].stops.map stR)):=by
     have:=objsM_get (eps:=eps) (X:=[]) (l:=ev) (i:=0) hje;rw [Nat.zero_add,List.append_nil] at this;exact this
    have hmr:(rowsD memL 0 eps 0 ev)[0+((j:Nat):Int).toNat]? =some (evX ev[j] (.oslc (.d j) (eps j) 5 0 m false)):=by
     rw [Nat.zero_add,Int.toNat_natCast,rowsM_get hje,show 0+memL.c * (0+j)=j by show 0+1 * (0+j)=j;omega,Nat.zero_add,hmj]
    have hsr:(ev[j].stops.map stR)[0+((k:Nat):Int).toNat]? =some (stR ev[j].stops[k]):=by
     rw [Nat.zero_add,Int.toNat_natCast,List.getElem?_map,List.getElem?_eq_getElem hks];rfl
    obtain ⟨s,hsd⟩:∃s,s=ev[j].stops[k]:=⟨_,rfl⟩;rw [←hsd] at hst hu1 hsk hsr;have hset0:(objsD memL eps 0 ev).set j (.vec (eps j) ((ev[j].stops.map stR).set (0+((k:Nat):Int).toNat) [.int .i64 s.c,.int .i64 s.f,.int .i64 s.r,.int .i64 s.g,.int .i64 0]))=objsD memL eps 0 (setH ev j k 0):=by
     rw [Nat.zero_add,Int.toNat_natCast];exact setH_obj hje hsk
    have hcap:∃h:j<(cap0 ev j k s).length,(cap0 ev j k s)[j].stops[k]? =some ⟨s.c,s.f,s.r,s.g,if s.f=0 then 0 else s.h⟩:=by
     unfold cap0;by_cases hf:s.f=0
     ·simp only [if_pos hf];exact setH_get hje hsk
     ·simp only [if_neg hf];exact ⟨hje,hsk⟩
    generalize hee:ev[j]=ee at hob hmr hsr hset0;refine wk_seq (wk_block (wk_seq (wkA (okx [] [29]) mixed (A:=A42) ?_)))
    (repeat' (first|exact rfl|((conv=>whnf);first|exact rfl|exact ⟨rfl,rfl⟩|refine go1 ?_|(intro ep)|fail)));(conv=>whnf)
    refine wk_seq (wkA (okx [] [29]) mixed (A:=A42) ?_)
    (repeat' (first|exact rfl|((conv=>whnf);first|(refine optS hmr ?_)|exact rfl|exact ⟨rfl,rfl⟩|refine go1 ?_|(intro ep)|fail)))
    (conv=>whnf);refine wk_cut [2,4,6,7,11,13,45,46,55,56] [1,3,4,7,9] (S:=Unit)
     (fun _=>frOf 0 131 [(2,.optr (.s 1) c0 7 0 0),(4,.optr (.s 3) r0 3 0 0),(6,.optr (.s 4) p6 3 0 0),(7,.oslc (.s 7) e7 3 0 N false),(11,.int .i64 (j:Int)),(13,.optr (.d j) (eps j) 5 (0+((k:Nat):Int).toNat) 0),(45,.int .i64 N),(46,.int .i64 (j:Int)),(55,.int .i64 m),(56,.int .i64 (k:Int))])
     (fun _=>⟨[.hole,.vec c0 [C0],.hole,.vec r0 [[.nils,.nils,.nils]],.vec p6 [[crsA i.cs,intsA i.steps,.oslc (.s 9) e9 6 0 N false]],.hole,.hole,.vec e7 A7,.hole,.vec e9 (rowsD memL 0 eps 0 (cap0 ev j k s)),.hole],objsD memL eps 0 (cap0 ev j k s)⟩) (wkA (okx [] [29]) mixed (A:=A42) ?_) fun _=>?_
    ·unfold cap0;by_cases hf:s.f=0
     ·rw [if_pos hf,←hset0,setH_rows]
      (repeat' (first|exact rfl|((conv=>whnf);first|(refine optO hob ?_)|(refine optS hsr ?_)|(exact absurd hf hb)|(exact back_of () ⟨rfl,rfl⟩)|exact rfl|exact ⟨rfl,rfl⟩|refine go1 ?_|(intro ep)|(refine ifB ?_ ?_<;>intro hb<;>(try simp only [qs] at hb)<;>(try simp (disch:=omega) only [wrapI] at hb)<;>(try (exfalso;omega)))|fail)))
     ·rw [if_neg hf]
      (repeat' (first|exact rfl|((conv=>whnf);first|(refine optO hob ?_)|(refine optS hsr ?_)|(exact absurd hb hf)|(exact back_of () ⟨rfl,rfl⟩)|exact rfl|exact ⟨rfl,rfl⟩|refine go1 ?_|(intro ep)|(refine ifB ?_ ?_<;>intro hb<;>(try simp only [qs] at hb)<;>(try simp (disch:=omega) only [wrapI] at hb)<;>(try (exfalso;omega)))|fail)))
    ·have hshp:=cap0_shp ev j k s;generalize hE:cap0 ev j k s=E1 at hcap hu1 hshp;obtain ⟨hj1,hs1⟩:=hcap;have hel1:E1.length=N:=by rw [shp_len hshp,hel]
     obtain ⟨hk1,hs1g⟩:=List.getElem?_eq_some_iff.1 hs1;have hob1:(objsD memL eps 0 E1)[j]? =some (.vec (eps j) (E1[j].stops.map stR)):=by
      have:=objsM_get (eps:=eps) (X:=[]) (l:=E1) (i:=0) hj1;rw [Nat.zero_add,List.append_nil] at this;exact this
     obtain ⟨h1,hh1⟩:∃h1,h1=(if s.f=0 then (0:Int) else s.h):=⟨_,rfl⟩;rw [←hh1] at hs1 hs1g hu1;have hsr1:(E1[j].stops.map stR)[0+((k:Nat):Int).toNat]? =some [.int .i64 s.c,.int .i64 s.f,.int .i64 s.r,.int .i64 s.g,.int .i64 h1]:=by
      rw [Nat.zero_add,Int.toNat_natCast,List.getElem?_map,hs1];rfl
     have hset1:∀v,(objsD memL eps 0 E1).set j (.vec (eps j) ((E1[j].stops.map stR).set (0+((k:Nat):Int).toNat) [.int .i64 s.c,.int .i64 s.f,.int .i64 s.r,.int .i64 s.g,.int .i64 v]))=objsD memL eps 0 (setH E1 j k v):=fun v=>by
      rw [Nat.zero_add,Int.toNat_natCast];exact setH_obj (s:=⟨s.c,s.f,s.r,s.g,h1⟩) hj1 hs1
     have hpok:(⟨i,E1⟩:Pc).Ok:=⟨by dsimp only;omega,by dsimp only;omega,by dsimp only;omega,fun x hx=>by
      have h1:x.stops.length∈shpE E1:=List.mem_map.2 ⟨x,hx,rfl⟩;rw [hshp,hs,hSH] at h1;have:=hsl _ h1;omega⟩
     generalize hee1:E1[j]=ee1 at hob1 hsr1 hset1;refine (wkA (okx [] [29]) mixed (A:=A42) ?_)
     (repeat' (first|exact rfl|((conv=>whnf);first|(refine optO hob1 ?_)|(refine optS hsr1 ?_)|(refine longest_mem0 hel1 (by exact rfl) (by exact rfl) hpok _ _ ?_)|exact rfl|exact ⟨rfl,rfl⟩|refine go1 ?_|(intro ep)|(refine ⟨?_,?_⟩)|fail)))
     all_goals (conv=>whnf)
     all_goals refine wk_mask [2,4,6,7,11,45,46,55,56] [1,3,4,7,9] (fr':=frOf 0 131 [(2,.optr (.s 1) c0 7 0 0),(4,.optr (.s 3) r0 3 0 0),(6,.optr (.s 4) p6 3 0 0),(7,.oslc (.s 7) e7 3 0 N false),(11,.int .i64 (j:Int)),(45,.int .i64 N),(46,.int .i64 (j:Int)),(55,.int .i64 m),(56,.int .i64 (k:Int))]) (h':=⟨[.hole,.vec c0 [C0],.hole,.vec r0 [[.nils,.nils,.nils]],.vec p6 [[crsA i.cs,intsA i.steps,.oslc (.s 9) e9 6 0 N false]],.hole,.hole,.vec e7 A7,.hole,.vec e9 (rowsD memL 0 eps 0 (setH E1 j k (mnI h1 (longest E1 j s.c)))),.hole],objsD memL eps 0 (setH E1 j k (mnI h1 (longest E1 j s.c)))⟩) rfl (by rw [setH_rows,←hset1];exact rfl) ?_
     all_goals refine wkA (okx [] [29]) mixed (A:=A42) ?_
     all_goals (repeat' (first|exact rfl|((conv=>whnf);first|(rw [hwk])|exact rfl|exact ⟨rfl,rfl⟩|refine go1 ?_|(intro ep)|fail)))
     all_goals (conv=>whnf)
     all_goals exact back_of ⟨(k+1,setH E1 j k (mnI h1 (longest E1 j s.c))),hkm,by dsimp only;rw [setH_shp,hshp,hs],hu1⟩ ⟨rfl,rfl,by dsimp only;omega⟩
   ·refine wk_seq (wk_cond (t:=false) (by show AV.bool (decide ((k:Int)<(m:Int)))=_;rw [decide_eq_false (by omega)]) (wk_exit ?_));obtain rfl:k=m:=by omega
    rw [Nat.sub_self,capN] at hu1;subst hu1
    (repeat' (first|exact rfl|((conv=>whnf);first|(rw [hwj])|exact rfl|exact ⟨rfl,rfl⟩|refine go1 ?_|(intro ep)|fail)))
    (conv=>whnf);exact back_of ⟨(j+1,_),by dsimp only;omega,hs,hu⟩ ⟨rfl,rfl,by dsimp only;omega⟩
  ·simp only [decide_eq_false_iff_not] at g1;obtain rfl:j=N:=by omega
   rw [Nat.sub_self,capL] at hu;subst hu
   (repeat' (first|exact rfl|((conv=>whnf);first|exact rfl|exact ⟨rfl,rfl⟩|refine go1 ?_|(intro ep)|fail)))
   (conv=>whnf);exact back_of () ⟨rfl,rfl,rfl⟩
 ·rintro ⟨_,h⟩;exact h.elim
 ·rintro _;exact hK

theorem sh_lk (B E:Nat) (l:List Lck):List.map (fun r=>List.map (AV.sh1 B E) r) (l.map lkR)=l.map lkR:=by
 rw [List.map_map];exact List.map_congr_left fun x _=>rfl
theorem lacks31h (y:Sy) (p:Pc) (hp:p.Ok) (hc:chk p=0):HRet C.P 31 [.int .u8 y.n,pcA p] (fun B eps=>.tup [.oslc (.d B) (eps 0) 3 0 (lacksP y p).length false,.int .i64 0]) (fun B eps=>[.vec (eps 0) ((lacksP y p).map lkR)]):=by
 have h1:=ofy y;have h2:=check_spec p hp;have hc2:=hc;obtain ⟨R,hR⟩:∃R,R=lacksP y p:=⟨_,rfl⟩;rw [hc] at h2;rw [←hR];have v:=vp hc;have hev:=v.len;refine hret_of ok mixed (A:=A31) 4 Tryz.func31 rfl ?_ (fun B E eps=>⟨fun k=>eps k+E,rfl,by rw [List.map_cons,AObj.sh,sh_lk];rfl⟩)
 (repeat' (first|exact rfl|((conv=>whnf);first|(refine ⟨_,h1,?_⟩)|(refine ⟨_,h2,?_⟩)|exact rfl|exact ⟨rfl,rfl⟩|refine go1 ?_|(intro ep)|(refine ifB ?_ ?_<;>intro hb<;>(try simp only [qs] at hb)<;>(try simp (disch:=omega) only [wrapI] at hb)<;>(try (exfalso;omega)))|fail)))
 obtain ⟨e0,he⟩:∃e0,e0=ep:=⟨_,rfl⟩;subst he;(conv=>whnf);refine wk_lift 9 2 3 rfl ?_;intro e2;refine loopY ok mixed (A:=A31) [3,6,9,25,26] [0,2] (S:={ x:Nat×Nat // x.1≤p.evs.length })
  (fr:=fun s=>frOf 0 37 [(3,.optr (.s 0) e0 3 0 0),(6,y.a),(9,.oslc (.s 2) s.1.2 3 0 (lackAll y p.evs 0 (p.evs.take s.1.1)).length false),(25,.int .i64 p.evs.length),(26,.int .i64 (s.1.1:Int))])
  (h:=fun s=>⟨[.vec e0 [[crsA p.ins.cs,intsA p.ins.steps,evsA p.evs]],.hole,.vec s.1.2 ((lackAll y p.evs 0 (p.evs.take s.1.1)).map lkR),.hole],[]⟩) (μ:=fun s=>p.evs.length-s.1.1) ⟨(0,e2),by simp⟩ ?_ ?_
  [9] [2] (S':=Nat) (X:=fun _=>0) (frX:=fun s=>frOf 0 37 [(9,.oslc (.s 2) s 3 0 R.length false)]) (hX:=fun s=>⟨[.hole,.hole,.vec s (R.map lkR),.hole],[]⟩)
  [] [] (S2:={ x:Nat // False }) (frR:=fun s=>frOf 0 37 []) (hR:=fun s=>⟨[],[]⟩) ?_ ?_ ?_
 ·exact rfl
 ·exact rfl
 ·rintro ⟨⟨k,e2⟩,hk⟩;simp only at hk;obtain ⟨L,hL⟩:∃L,L=lackAll y p.evs 0 (p.evs.take k):=⟨_,rfl⟩;show aexR _ _ _ (frOf 0 37 [(3,.optr (.s 0) e0 3 0 0),(6,y.a),(9,.oslc (.s 2) e2 3 0 (lackAll y p.evs 0 (p.evs.take k)).length false),(25,.int .i64 p.evs.length),(26,.int .i64 (k:Int))]) ⟨[.vec e0 [[crsA p.ins.cs,intsA p.ins.steps,evsA p.evs]],.hole,.vec e2 ((lackAll y p.evs 0 (p.evs.take k)).map lkR),.hole],[]⟩ _;rw [←hL];have hLn:L.length≤45 * 400:=by
   have:=lackAll_len y p.evs (p.evs.take k) 0 (fun e he=>by
    obtain ⟨j,hj,rfl⟩:=List.mem_iff_getElem.1 (List.mem_of_mem_take he);exact v.sl j hj)
   rw [←hL] at this;have:(p.evs.take k).length≤400:=by simp;omega
   omega
  (conv=>whnf);refine ifB (fun g1=>?_) (fun g1=>?_)
  ·simp only [decide_eq_true_eq] at g1;have h3:k<p.evs.length:=by omega
   have hl:=lacks_spec y p hp k p.evs[k] (List.getElem?_eq_getElem h3) (stp_in hc2 h3) (by have:=v.sl k h3;omega) (by omega);have hel:=lackEv_len y p.evs k p.evs[k] (v.sl k h3);have hsn:=lackAll_snoc y p.evs p.evs 0 k h3;rw [Nat.zero_add,←hL] at hsn;obtain ⟨E,hE⟩:∃E,E=lackEv y p.evs k p.evs[k]:=⟨_,rfl⟩;rw [←hE] at hl hel hsn;have t1:List.take E.length (E.map lkR)=E.map lkR:=List.take_of_length_le (by simp);have t2:List.take L.length (L.map lkR)=L.map lkR:=List.take_of_length_le (by simp)
   (repeat' (first|exact rfl|((conv=>whnf);first|(refine ⟨_,hl,?_⟩)|(refine ⟨(by show (L.length+(List.take E.length (E.map lkR)).length) * 24≤_;rw [t1,List.length_map];omega),?_⟩)|exact rfl|exact ⟨rfl,rfl⟩|refine go1 ?_|(intro ep)|(refine ifB ?_ ?_<;>intro hb<;>(try simp only [qs] at hb)<;>(try simp (disch:=omega) only [wrapI] at hb)<;>(try (exfalso;omega)))|fail)))
   all_goals (conv=>whnf)
   refine back_of ⟨(k+1,ep),by simp only;omega⟩ ⟨?_,?_,by simp only;omega⟩
   ·have t3:(List.take E.length (List.drop 0 (E.map lkR))).length=E.length:=by rw [List.drop_zero,t1,List.length_map]
    simp only;rw [hsn,List.length_append,t3];(first|exact rfl|(simp (disch:=omega) only [wrapI];exact rfl))
   ·simp only;rw [hsn,List.map_append,List.drop_zero,List.drop_zero,t1,t2];rfl
  ·simp only [decide_eq_false_iff_not] at g1;obtain rfl:k=p.evs.length:=by omega
   rw [List.take_length] at hL;have hLR:L=R:=by rw [hL,hR];rfl
   rw [hLR]
   (repeat' (first|exact rfl|((conv=>whnf);first|exact rfl|exact ⟨rfl,rfl⟩|refine go1 ?_|(intro ep)|(refine ifB ?_ ?_<;>intro hb<;>(try simp only [qs] at hb)<;>(try simp (disch:=omega) only [wrapI] at hb)<;>(try (exfalso;omega)))|fail)))
   all_goals (conv=>whnf)
   all_goals exact back_of e2 ⟨rfl,rfl,rfl⟩
 ·rintro ⟨_,h⟩;exact h.elim
 ·intro e2
  (repeat' ((conv=>whnf);first|refine ⟨rfl,?_⟩|(intro ep)|fail))
  exact ⟨fun _=>ep,rfl,rfl⟩

def A41:Ann:=fun r=>match r with
 |0=>{ slots:=[(0,0)] }
 |_=>{}
theorem p41a (y:Sy) (p:Pc) (hp:p.Ok) (hc:chk p=0):ACalls C.P 41 [pcA p,ptY y] Heap.nil fun r h'=>∃id ep,r= .oslc id ep 3 0 (lacksP y p).length false∧h'[id]? =some (.vec ep ((lacksP y p).map lkR)):=by
 have h31:=lacks31h y p hp hc;generalize lacksP y p=L at h31 ⊢;refine fn_of (okx [31] []) mixed (A:=A41) 1 Tryz.func41 rfl ?_
 (repeat' (first|exact ⟨_,_,rfl,rfl⟩|((conv=>whnf);first|(refine ⟨_,_,h31,fun eps=>?_⟩)|exact rfl|exact ⟨rfl,rfl⟩|refine go1 ?_|(intro ep)|fail)))
theorem p41b (y:Sy) (p:Pc) (hp:p.Ok) (hc:chk p≠0):PRet C.P 41 [pcA p,ptY y] .nils:=by
 have h31:=Lacks_spec y p hp;unfold lksE at h31;rw [if_pos hc] at h31;refine pret_of ok mixed (A:=A41) 1 Tryz.func41 rfl ?_
 (repeat' (first|exact rfl|((conv=>whnf);first|(refine ⟨_,h31,?_⟩)|exact rfl|exact ⟨rfl,rfl⟩|refine go1 ?_|(intro ep)|fail)))
theorem c41a (y:Sy) {i:Ins} {evs:List Evt} {N:Nat} (hN:evs.length=N) {id:Id} {e5:Nat} {eps:Nat→Nat} {h:Heap} (ho:h[id]? =some (.vec e5 (rowsD memL 0 eps 0 evs))) (hd:h.dy=objsD memL eps 0 evs) (hp:(⟨i,evs⟩:Pc).Ok) (hc:chk ⟨i,evs⟩=0) {K:AV→Heap→Prop}
  (hK:K (lksA (lacksP y ⟨i,evs⟩)) h):ACalls C.P 41 [.agg [crsA i.cs,intsA i.steps,.oslc id e5 6 0 N false],ptY y] h K:=by
 subst hN;have hKl:K (.lslc 3 ((lacksP y ⟨i,evs⟩).map lkR) 0 (lacksP y ⟨i,evs⟩).length false) h:=hK;refine ACalls.peekN (p41a y ⟨i,evs⟩ hp hc) (fun a b c hcell=>?_) (fun σ σ' vs x hv=>?_) hKl
 ·obtain ⟨r,hr,hj⟩:=cellAt_get hcell;rw [List.getElem?_map,Option.map_eq_some_iff] at hr;obtain ⟨z,_,rfl⟩:=hr
  match b,hj with
  |0,hj=>cases hj;rfl
  |1,hj=>cases hj;rfl
  |2,hj=>cases hj;rfl
 ·obtain ⟨u,w,e,q1,q2⟩:=vrels2 (vs:=vs.toArray) (by simpa using hv);have e:vs=[u,w]:=by simpa using congrArg Array.toList e
  subst e;have r1:=pc_frz x (X:=[]) ho (by rw [List.append_nil];exact hd) q1;have r2:VRel σ' (ptY y) w:=x.pure1 (by rfl) q2 |>.mono0 ⟨fun _ _ _ z=>by simp at z,fun _ _ z=>z⟩;refine ⟨rfl,fun k a b ha hb=>?_⟩
  match k,ha,hb with
  |0,ha,hb=>cases ha;cases hb;exact r1
  |1,ha,hb=>cases ha;cases hb;exact r2

theorem c41b (y:Sy) {i:Ins} {evs:List Evt} {N:Nat} (hN:evs.length=N) {id:Id} {e5:Nat} {eps:Nat→Nat} {h:Heap} (ho:h[id]? =some (.vec e5 (rowsD memL 0 eps 0 evs))) (hd:h.dy=objsD memL eps 0 evs) (hp:(⟨i,evs⟩:Pc).Ok) (hc:chk ⟨i,evs⟩≠0) {K:AV→Heap→Prop}
  (hK:K .nils h):ACalls C.P 41 [.agg [crsA i.cs,intsA i.steps,.oslc id e5 6 0 N false],ptY y] h K:=by
 subst hN;refine ACalls.peekF (p41b y ⟨i,evs⟩ hp hc) (fun σ τ v hv=>by cases hv;exact .nils) (fun σ σ' vs x hv=>?_) hK;obtain ⟨u,w,e,q1,q2⟩:=vrels2 (vs:=vs.toArray) (by simpa using hv);have e:vs=[u,w]:=by simpa using congrArg Array.toList e
 subst e;have r1:=pc_frz x (X:=[]) ho (by rw [List.append_nil];exact hd) q1;have r2:VRel σ' (ptY y) w:=x.pure1 (by rfl) q2 |>.mono0 ⟨fun _ _ _ z=>by simp at z,fun _ _ z=>z⟩;refine ⟨rfl,fun k a b ha hb=>?_⟩
 match k,ha,hb with
 |0,ha,hb=>cases ha;cases hb;exact r1
 |1,ha,hb=>cases ha;cases hb;exact r2
def crsE (l:List Evt):List (List Int):=l.map fun e=>e.stops.map Stp.c
theorem setE_crs (e:Evt) (k:Nat) (v:Int):(setE e k v).stops.map Stp.c=e.stops.map Stp.c:=by
 unfold setE;cases hq:e.stops[k]? with
 |none=>rfl
 |some s=>
  obtain ⟨h1,h2⟩:=List.getElem?_eq_some_iff.1 hq;subst h2;dsimp only;rw [List.map_set];have:(e.stops.map Stp.c)[k]? =some (e.stops[k]).c:=by rw [List.getElem?_map,List.getElem?_eq_getElem h1];rfl
  obtain ⟨h3,h4⟩:=List.getElem?_eq_some_iff.1 this;rw [←h4,List.set_getElem_self]
theorem setH_crs (l:List Evt) (i k:Nat) (v:Int):crsE (setH l i k v)=crsE l:=by
 unfold setH;cases hq:l[i]? with
 |none=>rfl
 |some e=>
  obtain ⟨h1,h2⟩:=List.getElem?_eq_some_iff.1 hq;subst h2;dsimp only;unfold crsE;rw [List.map_set,setE_crs];have:(l.map fun e=>e.stops.map Stp.c)[i]? =some (l[i].stops.map Stp.c):=by rw [List.getElem?_map,List.getElem?_eq_getElem h1];rfl
  obtain ⟨h3,h4⟩:=List.getElem?_eq_some_iff.1 this;rw [←h4,List.set_getElem_self]
theorem idxC_some {c:Int}:∀{l:List Stp} {k:Nat},c∈l.map Stp.c→∃j st,idxC c l k=((k+j:Nat):Int)∧l[j]? =some st∧st.c=c
 |s::r,k,h=>by
  rw [idxC];by_cases hs:s.c=c
  ·rw [if_pos (by simpa using hs)];exact ⟨0,s,rfl,rfl,hs⟩
  ·rw [if_neg (by simpa using hs)];obtain ⟨j,st,h1,h2,h3⟩:=idxC_some (l:=r) (k:=k+1) (by
    rcases List.mem_cons.1 h with h|h
    ·exact absurd h.symm hs
    ·exact h)
   refine ⟨j+1,st,?_,h2,h3⟩;have e1:((k:Int)+1)=((k+1:Nat):Int):=by omega
   rw [e1,h1]
   congr 1
   omega
theorem lackAll_mem {y:Sy} {evs:List Evt} {z:Lck}:∀{l:List Evt} {i:Nat},z∈lackAll y evs i l→∃j,∃h:j<l.length,z∈lackEv y evs ((i+j:Nat):Int) l[j]
 |e::r,i,hz=>by
  rw [lackAll] at hz
  rcases List.mem_append.1 hz with hz|hz
  ·exact ⟨0,by simp,hz⟩
  ·obtain ⟨j,h,hj⟩:=lackAll_mem hz;refine ⟨j+1,by simpa using h,?_⟩;rw [show i+(j+1)=i+1+j by omega];exact hj
theorem lk1_mem {b:Bool} {e c w:Int} {z:Lck} (h:z∈lk1 b e c w):z=⟨e,c,w⟩:=by
 unfold lk1 at h
 split at h
 ·cases h
 ·exact List.mem_singleton.1 h
theorem lackHd_mem {y:Sy} {i:Int} {e:Evt} {z:Lck} (h:z∈lackHd y i e):z.w≠4:=by
 unfold lackHd at h
 rcases List.mem_append.1 h with h|h
 ·rcases List.mem_append.1 h with h|h
  ·split at h
   ·rw [lk1_mem h];dsimp only;decide
   ·cases h
  ·split at h
   ·rw [lk1_mem h];dsimp only;decide
   ·cases h
 ·split at h
  ·rw [lk1_mem h];dsimp only;decide
  ·split at h
   ·rw [lk1_mem h];dsimp only;decide
   ·cases h
theorem lackSt_mem {y:Sy} {evs:List Evt} {i:Int} {s:Stp} {z:Lck} (h:z∈lackSt y evs i s):z.e=i∧z.c=s.c:=by
 unfold lackSt at h
 split at h
 ·rcases List.mem_append.1 h with h|h
  ·rcases List.mem_append.1 h with h|h<;>(rw [lk1_mem h];exact ⟨rfl,rfl⟩)
  ·rw [lk1_mem h];exact ⟨rfl,rfl⟩
 ·rw [List.mem_singleton.1 h];exact ⟨rfl,rfl⟩
theorem lack4 {y:Sy} {p:Pc} {z:Lck} (hz:z∈lacksP y p) (hw:z.w=4):∃j,∃h:j<p.evs.length,z.e=(j:Nat)∧z.c∈p.evs[j].stops.map Stp.c:=by
 obtain ⟨j,h,hj⟩:=lackAll_mem hz;rw [Nat.zero_add] at hj;unfold lackEv at hj
 rcases List.mem_append.1 hj with hj|hj
 ·exact absurd hw (lackHd_mem hj)
 ·obtain ⟨s,hs,hm⟩:=List.mem_flatMap.1 hj;obtain ⟨h1,h2⟩:=lackSt_mem hm;exact ⟨j,h,h1,by rw [h2];exact List.mem_map.2 ⟨s,hs,rfl⟩⟩
def unhS:List Evt→List Lck→List Evt
 |evs,[]=>evs
 |evs,z::r=>unhS (if z.w=4 then setH evs z.e.toNat (idxC z.c ((evs[z.e.toNat]?.map Evt.stops).getD []) 0).toNat 0 else evs) r
theorem unhS_crs:∀(l:List Lck) (evs:List Evt),crsE (unhS evs l)=crsE evs
 | [],_=>rfl
 |z::r,evs=>by
  rw [unhS,unhS_crs r]
  split
  ·exact setH_crs _ _ _ _
  ·rfl
theorem up0 {σ σ':Sg} {h:Heap} (x:FzS σ σ' h) {a:AV} {v:Value} (hp:a.pure1=true) (hv:VRel σ a v):VRel σ' a v:=(x.pure1 hp hv).mono0 ⟨fun _ _ _ z=>by simp at z,fun _ _ z=>z⟩
theorem c78 {l:List Stp} (hl:l.length≤1000000) (a c w:Int) {id:Id} {ep:Nat} {h:Heap} (ho:h[id]? =some (.vec ep (l.map stR))) {m:Nat} (hm:l.length=m) {K:AV→Heap→Prop} (hK:K (.int .i64 (idxC c l 0)) h):
  ACalls C.P 78 [.oslc id ep 5 0 m false,.fn (.func 79) [] [.lptr 3 [[.int .i64 a,.int .i64 c,.int .i64 w]] 0 0]] h K:=by
 subst hm;refine ACalls.peek (p78a l hl a c w) rfl (fun σ σ' vs x hv=>?_) hK;obtain ⟨u,v,e,q1,q2⟩:=vrels2 (vs:=vs.toArray) (by simpa using hv);have e:vs=[u,v]:=by simpa using congrArg Array.toList e
 subst e;have r1:VRel σ' (stsA l) u:=(stops_frz x ho q1).mono0 ⟨fun _ _ _ z=>by simp at z,fun _ _ z=>z⟩;have r2:VRel σ' (.fn (.func 79) [] [.lptr 3 [[.int .i64 a,.int .i64 c,.int .i64 w]] 0 0]) v:=by
  cases q2 with
  |fn l1 l2 v1 v2=>
   refine .fn l1 l2 (fun i c v a b=>by simp at a) fun i c v a b=>?_;have hc:=v2 i c v a b
   match i,a with
   |0,a=>cases a;exact up0 x rfl hc
 refine ⟨rfl,fun k a b ha hb=>?_⟩
 match k,ha,hb with
 |0,ha,hb=>cases ha;cases hb;exact r1
 |1,ha,hb=>cases ha;cases hb;exact r2
theorem c78p {l:List Stp} (hl:l.length≤1000000) (a c w:Int) {id id2:Id} {ep ep2:Nat} {h:Heap} (ho:h[id]? =some (.vec ep (l.map stR))) (h2:h[id2]? =some (.vec ep2 [[.int .i64 a,.int .i64 c,.int .i64 w]])) {m:Nat} (hm:l.length=m) {K:AV→Heap→Prop} (hK:K (.int .i64 (idxC c l 0)) h):
  ACalls C.P 78 [.oslc id ep 5 0 m false,.fn (.func 79) [] [.optr id2 ep2 3 0 0]] h K:=by
 subst hm;refine ACalls.peek (p78a l hl a c w) rfl (fun σ σ' vs x hv=>?_) hK;obtain ⟨u,v,e,q1,q2⟩:=vrels2 (vs:=vs.toArray) (by simpa using hv);have e:vs=[u,v]:=by simpa using congrArg Array.toList e
 subst e;have r1:VRel σ' (stsA l) u:=(stops_frz x ho q1).mono0 ⟨fun _ _ _ z=>by simp at z,fun _ _ z=>z⟩;have r2:VRel σ' (.fn (.func 79) [] [.lptr 3 [[.int .i64 a,.int .i64 c,.int .i64 w]] 0 0]) v:=by
  cases q2 with
  |fn l1 l2 v1 v2=>
   refine .fn l1 l2 (fun i c v a b=>by simp at a) fun i c v a b=>?_;have hc:=v2 i _ v (show ([AV.optr id2 ep2 3 0 0]:List AV)[i]? =some (.optr id2 ep2 3 0 0) by
    match i,a with
    |0,a=>rfl) b
   match i,a with
   |0,a=>
    cases a;refine (x.ptr id2 ep2 _ _ h2 ⟨by simp,fun i r' hr'=>?_⟩ _ _ _ _ hc).mono0 ⟨fun _ _ _ z=>by simp at z,fun _ _ z=>z⟩;refine ⟨r',hr',rfl,fun j c' hj=>⟨c',hj,fun u hu=>?_⟩⟩;have hr1:r'=_:=(List.mem_singleton.1 (List.mem_of_getElem? hr'));subst hr1
    match j,hj with
    |0,hj=>cases hj;cases hu;exact .int
    |1,hj=>cases hj;cases hu;exact .int
    |2,hj=>cases hj;cases hu;exact .int
 refine ⟨rfl,fun k a b ha hb=>?_⟩
 match k,ha,hb with
 |0,ha,hb=>cases ha;cases hb;exact r1
 |1,ha,hb=>cases ha;cases hb;exact r2

noncomputable def res42c:Code:=sndC res42b
def chkdS (y:Sy) (p:Pc):List Evt:=if chk p=0 then unhS p.evs (lacksP y p) else p.evs
theorem carC (y:Sy) (ti re:Bool) (i0 i:Ins) (evs:List Evt) (A7:List (List AV)) {N:Nat} (hN:evs.length=N) (hn:N≤400) (hp:(⟨i,evs⟩:Pc).Ok) (hsl:∀m∈shpE evs,m≤1000) {c0 r0 p6 e7 e9:Nat} (eps:Nat→Nat) {K:AE→List AV→Heap→Prop}
  (hK:WK (Cx [] [78]) res42c (frOf 0 131 [(4,.optr (.s 3) r0 3 0 0),(6,.optr (.s 4) p6 3 0 0),(7,.oslc (.s 7) e7 3 0 N false)]) ⟨[.hole,.hole,.hole,.vec r0 [[.nils,.nils,.nils]],.vec p6 [[crsA i.cs,intsA i.steps,.oslc (.s 9) e9 6 0 N false]],.hole,.hole,.vec e7 A7,.hole,.vec e9 (rowsD memL 0 eps 0 (chkdS y ⟨i,evs⟩)),.hole],objsD memL eps 0 (chkdS y ⟨i,evs⟩)⟩ K):
  WK (Cx [] [78]) res42b (frOf 0 131 [(2,.optr (.s 1) c0 7 0 0),(4,.optr (.s 3) r0 3 0 0),(6,.optr (.s 4) p6 3 0 0),(7,.oslc (.s 7) e7 3 0 N false)]) ⟨[.hole,.vec c0 [chgC y ti re i0],.hole,.vec r0 [[.nils,.nils,.nils]],.vec p6 [[crsA i.cs,intsA i.steps,.oslc (.s 9) e9 6 0 N false]],.hole,.hole,.vec e7 A7,.hole,.vec e9 (rowsD memL 0 eps 0 evs),.hole],objsD memL eps 0 evs⟩ K:=by
 unfold chkdS at hK;refine wk_cut [4,6,7] [3,4,7,9] (S:=Unit) (fun _=>frOf 0 131 [(4,.optr (.s 3) r0 3 0 0),(6,.optr (.s 4) p6 3 0 0),(7,.oslc (.s 7) e7 3 0 N false)]) (fun _=>⟨[.hole,.hole,.hole,.vec r0 [[.nils,.nils,.nils]],.vec p6 [[crsA i.cs,intsA i.steps,.oslc (.s 9) e9 6 0 N false]],.hole,.hole,.vec e7 A7,.hole,.vec e9 (rowsD memL 0 eps 0 (if chk ⟨i,evs⟩=0 then unhS evs (lacksP y ⟨i,evs⟩) else evs)),.hole],objsD memL eps 0 (if chk ⟨i,evs⟩=0 then unhS evs (lacksP y ⟨i,evs⟩) else evs)⟩) (wkA (okx [] [78]) mixed (A:=A42) ?_) fun _=>hK;by_cases hc:chk ⟨i,evs⟩=0
 ·rw [if_pos hc]
  (repeat' (first|exact rfl|((conv=>whnf);first|(refine c41a y hN (by exact rfl) (by exact rfl) hp hc ?_)|exact rfl|exact ⟨rfl,rfl⟩|refine go1 ?_|(intro ep)|fail)))
  (conv=>whnf);obtain ⟨L,hL⟩:∃L,L=lacksP y ⟨i,evs⟩:=⟨_,rfl⟩;have h4:∀z∈L,z.w=4→∃j,∃h:j<evs.length,z.e=(j:Nat)∧z.c∈evs[j].stops.map Stp.c:=fun z hz hw=>lack4 (p:=⟨i,evs⟩) (by rw [←hL];exact hz) hw;have v:=vp hc;have hLl:L.length≤18000:=by
   have h1:=lackAll_len y evs evs 0 (fun e he=>by
    obtain ⟨j,hj,rfl⟩:=List.mem_iff_getElem.1 he;exact v.sl j hj)
   have h2:L.length≤45 * evs.length:=by rw [hL];exact h1
   omega
  rw [←hL];obtain ⟨R,hR⟩:∃R,R=unhS evs L:=⟨_,rfl⟩;rw [←hR];refine loopK [4,6,7,98,99,100] [3,4,7,9] (S:={ z:Nat×List Evt // z.1≤L.length∧crsE z.2=crsE evs∧R=unhS z.2 (L.drop z.1) })
   (fun s=>frOf 0 131 [(4,.optr (.s 3) r0 3 0 0),(6,.optr (.s 4) p6 3 0 0),(7,.oslc (.s 7) e7 3 0 N false),(98,lksA L),(99,.int .i64 L.length),(100,.int .i64 (s.1.1:Int))])
   (fun s=>⟨[.hole,.hole,.hole,.vec r0 [[.nils,.nils,.nils]],.vec p6 [[crsA i.cs,intsA i.steps,.oslc (.s 9) e9 6 0 N false]],.hole,.hole,.vec e7 A7,.hole,.vec e9 (rowsD memL 0 eps 0 s.1.2),.hole],objsD memL eps 0 s.1.2⟩) (fun s=>L.length-s.1.1) ⟨(0,evs),by simp,rfl,hR⟩ rfl rfl ?_
  rintro ⟨⟨k,ev⟩,hk,hs,hu⟩;dsimp only at hk hs hu;dsimp only;refine wk_seq (wkA (okx [] [78]) mixed (A:=A42) ?_)
  (repeat' (first|exact rfl|((conv=>whnf);first|exact rfl|exact ⟨rfl,rfl⟩|refine go1 ?_|(intro ep)|fail)));(conv=>whnf)
  by_cases hkl:k<L.length
  ·refine wk_seq (wk_cond (t:=true) (by show AV.bool (decide ((k:Int)<(L.length:Int)))=_;rw [decide_eq_true (by omega)]) (wk_skip ?_));(conv=>whnf);have hm:=mapR (f:=lkR) hkl;have hz4:=h4 _ (List.getElem_mem hkl);have hwk:IntKind.i64.wrap ((k:Int)+1)=((k+1:Nat):Int):=by simp (disch:=omega) only [wrapI];omega
   rw [drop_at hkl,unhS] at hu;obtain ⟨z,hz⟩:∃z,z=L[k]:=⟨_,rfl⟩;rw [←hz] at hm hz4 hu;by_cases hw4:z.w=4
   ·obtain ⟨j,hj,hze,hzc⟩:=hz4 hw4;rw [if_pos hw4] at hu;have hel:ev.length=evs.length:=by have:=congrArg List.length hs;simpa [crsE] using this
    have hje:j<ev.length:=by omega
    have hcj:ev[j].stops.map Stp.c=evs[j].stops.map Stp.c:=by
     have:=congrArg (fun l=>l[j]?) hs;simp only [crsE,List.getElem?_map,List.getElem?_eq_getElem hje,List.getElem?_eq_getElem hj,Option.map_some,Option.some.injEq] at this;exact this
    obtain ⟨kk,st,hidx,hst,hstc⟩:=idxC_some (l:=ev[j].stops) (k:=0) (c:=z.c) (by rw [hcj];exact hzc);rw [Nat.zero_add] at hidx;have hidx:idxC z.c ev[j].stops 0=(kk:Int):=hidx;obtain ⟨ze,zc,zw⟩:=z;dsimp only at hm hze hidx hu hw4;subst hze hw4;have hidx:idxC zc ev[j].stops 0=(kk:Int):=hidx;rw [Int.toNat_natCast,show (ev[j]?.map Evt.stops).getD []=ev[j].stops by rw [List.getElem?_eq_getElem hje];rfl,hidx,Int.toNat_natCast] at hu;have hlm:ev[j].stops.length≤1000000:=by
     have h1:ev[j].stops.length=evs[j].stops.length:=by have:=congrArg List.length hcj;simpa using this
     have h2:=v.sl j hj;have h3:evs[j].stops.length≤14:=h2;omega
    have hob:(objsD memL eps 0 ev)[j]? =some (.vec (eps j) (ev[j].stops.map stR)):=by
     have:=objsM_get (eps:=eps) (X:=[]) (l:=ev) (i:=0) hje;rw [Nat.zero_add,List.append_nil] at this;exact this
    have hmr:(rowsD memL 0 eps 0 ev)[0+((j:Nat):Int).toNat]? =some (evX ev[j] (.oslc (.d j) (eps j) 5 0 ev[j].stops.length false)):=by
     rw [Nat.zero_add,Int.toNat_natCast,rowsM_get hje,show 0+memL.c * (0+j)=j by show 0+1 * (0+j)=j;omega,Nat.zero_add]
    have hsr:(ev[j].stops.map stR)[0+((kk:Nat):Int).toNat]? =some (stR st):=by
     rw [Nat.zero_add,Int.toNat_natCast,List.getElem?_map,hst];rfl
    have hset0:(objsD memL eps 0 ev).set j (.vec (eps j) ((ev[j].stops.map stR).set (0+((kk:Nat):Int).toNat) [.int .i64 st.c,.int .i64 st.f,.int .i64 st.r,.int .i64 st.g,.int .i64 0]))=objsD memL eps 0 (setH ev j kk 0):=by
     rw [Nat.zero_add,Int.toNat_natCast];exact setH_obj hje hst
    obtain ⟨hkk,_⟩:=List.getElem?_eq_some_iff.1 hst;have hm:(L.map lkR)[0+((k:Nat):Int).toNat]? =some [.int .i64 (j:Int),.int .i64 zc,.int .i64 4]:=hm;obtain ⟨l,hle⟩:∃l,l=ev[j].stops:=⟨_,rfl⟩;rw [←hle] at hlm hob hsr hset0 hkk hidx;have hmr:(rowsD memL 0 eps 0 ev)[0+((j:Nat):Int).toNat]? =some [.bool ev[j].bar,.int .i64 ev[j].v,.bool ev[j].d,.bool ev[j].t,.bool ev[j].tie,.oslc (.d j) (eps j) 5 0 l.length false]:=by rw [hmr,hle];rfl
    refine wk_seq (wkA (okx [] [78]) mixed (A:=A42) ?_)
    (repeat' (first|exact rfl|((conv=>whnf);first|(refine optS hm ?_)|(refine optS hmr ?_)|(refine optO hob ?_)|(refine optS hsr ?_)|(refine c78p hlm (j:Int) zc 4 (by exact hob) (by exact rfl) rfl ?_)|(rw [hidx])|exact rfl|exact ⟨rfl,rfl⟩|refine go1 ?_|(intro ep)|(refine ifB ?_ ?_<;>intro hb<;>(try simp only [qs] at hb)<;>(try simp (disch:=omega) only [wrapI] at hb)<;>(try (exfalso;omega)))|fail)))
    all_goals (conv=>whnf)
    all_goals refine wk_mask [4,6,7,98,99,100] [3,4,7,9] (fr':=frOf 0 131 [(4,.optr (.s 3) r0 3 0 0),(6,.optr (.s 4) p6 3 0 0),(7,.oslc (.s 7) e7 3 0 N false),(98,lksA L),(99,.int .i64 L.length),(100,.int .i64 (k:Int))]) (h':=⟨[.hole,.hole,.hole,.vec r0 [[.nils,.nils,.nils]],.vec p6 [[crsA i.cs,intsA i.steps,.oslc (.s 9) e9 6 0 N false]],.hole,.hole,.vec e7 A7,.hole,.vec e9 (rowsD memL 0 eps 0 (setH ev j kk 0)),.hole],objsD memL eps 0 (setH ev j kk 0)⟩) rfl (by rw [setH_rows,←hset0];exact rfl) ?_
    all_goals refine wkA (okx [] [78]) mixed (A:=A42) ?_
    all_goals (repeat' (first|exact rfl|((conv=>whnf);first|(rw [hwk])|exact rfl|exact ⟨rfl,rfl⟩|refine go1 ?_|(intro ep)|fail)))
    all_goals (conv=>whnf)
    all_goals exact back_of ⟨(k+1,setH ev j kk 0),hkl,by dsimp only;rw [setH_crs];exact hs,hu⟩ ⟨rfl,rfl,by dsimp only;omega⟩
   ·rw [if_neg hw4] at hu;refine wk_seq (wkA (okx [] [78]) mixed (A:=A42) ?_)
    (repeat' (first|exact rfl|((conv=>whnf);first|(refine optS hm ?_)|(exact absurd hb hw4)|exact rfl|exact ⟨rfl,rfl⟩|refine go1 ?_|(intro ep)|(refine ifB ?_ ?_<;>intro hb<;>(try simp only [qs] at hb)<;>(try simp (disch:=omega) only [wrapI] at hb)<;>(try (exfalso;omega)))|fail)))
    all_goals (conv=>whnf)
    all_goals refine wkA (okx [] [78]) mixed (A:=A42) ?_
    all_goals (repeat' (first|exact rfl|((conv=>whnf);first|(rw [hwk])|exact rfl|exact ⟨rfl,rfl⟩|refine go1 ?_|(intro ep)|fail)))
    all_goals (conv=>whnf)
    all_goals exact back_of ⟨(k+1,ev),hkl,hs,hu⟩ ⟨rfl,rfl,by dsimp only;omega⟩
  ·refine wk_seq (wk_cond (t:=false) (by show AV.bool (decide ((k:Int)<(L.length:Int)))=_;rw [decide_eq_false (by omega)]) (wk_exit ?_));obtain rfl:k=L.length:=by omega
   rw [List.drop_length,unhS] at hu;subst hu
   (repeat' (first|exact rfl|((conv=>whnf);first|exact rfl|exact ⟨rfl,rfl⟩|refine go1 ?_|(intro ep)|fail)))
   (conv=>whnf);exact back_of () ⟨rfl,rfl⟩
 ·rw [if_neg hc]
  (repeat' (first|exact rfl|((conv=>whnf);first|(refine c41b y hN (by exact rfl) (by exact rfl) hp hc ?_)|exact rfl|exact ⟨rfl,rfl⟩|refine go1 ?_|(intro ep)|fail)))
  (conv=>whnf);refine loopU (okx [] [78]) mixed (A:=A42) 1 ?_
  (repeat' (first|exact rfl|((conv=>whnf);first|exact rfl|exact ⟨rfl,rfl⟩|refine go1 ?_|(intro ep)|(refine ifB ?_ ?_<;>intro hb<;>(try simp only [qs] at hb)<;>(try simp (disch:=omega) only [wrapI] at hb)<;>(try (exfalso;omega)))|fail)))
  all_goals (conv=>whnf)
  all_goals exact back_of () ⟨rfl,rfl⟩
end Go.Ab.V
