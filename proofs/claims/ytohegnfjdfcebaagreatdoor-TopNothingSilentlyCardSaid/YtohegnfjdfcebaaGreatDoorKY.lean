/-
  What is proved here serves the law's text: each part says its own claim and its conditions. No condition is left open.
-/
import Derived.Test.YtohegnfjdfcebaaGreatDoorKX
import Derived.Test.YtohegnfjdfcebaaGreatDoorKP
import Derived.Test.YtohegnfjdfcebaaGreatDoorKT
set_option maxHeartbeats 32000000
set_option maxRecDepth 100000
set_option linter.unusedSimpArgs false
set_option linter.unusedVariables false

namespace Go.Ab.V
open Go.Proofs
def hasC (l:List Stp) (c:Int):Bool:=l.any fun s=>s.c==c
def restE (e:Evt):Bool:=decide (e.stops.length=0)&& !e.tie
def A62:Ann:=fun r=>match r with
 |0=>{ slots:=[(0,0)] }
 |_=>{}
def A63:Ann:=fun r=>match r with
 |0=>{ slots:=[(0,0),(1,1)] }
 |_=>{}
def A99:Ann:=fun r=>match r with
 |0=>{ slots:=[(0,2)] }
 |_=>{}
theorem isRest_spec (e:Evt):PRet C.P 62 [.agg (evR e)] (.bool (restE e)):=by
 refine pret_of ok mixed (A:=A62) 1 Tryz.func62 rfl ?_
 (repeat' (first|exact rfl|((conv=>whnf);first|exact rfl|refine ⟨by kernel_rfl,?_⟩|exact ⟨rfl,rfl⟩|refine go0 ?_|(intro ep)|(refine ifB ?_ ?_<;>intro hb<;>(try simp only [qs] at hb)<;>(try simp (disch:=omega) only [wrapI] at hb)<;>(try (exfalso;omega)))|fail)))
 all_goals simp_all [restE]
def A64:Ann:=fun r=>match r with
 |0=>{ slots:=[(0,0)] }
 |_=>{}
theorem ticks_pos (v:Int) (d t:Bool):(0<ticks v d t)=(1≤v∧v≤7∧(d&&t)=false):=by
 apply propext
 constructor
 ·intro h;unfold ticks at h
  split at h
  ·omega
  ·rename_i hc;refine ⟨by omega,by omega,?_⟩;cases hdt:(d&&t) with
   |false=>rfl
   |true=>exact absurd (.inr (.inr hdt)) hc
 ·rintro ⟨h1,h2,h3⟩
  rcases seven (v:=v) (by omega) (by omega) with rfl|rfl|rfl|rfl|rfl|rfl|rfl<;>cases d<;>cases t<;>first|(exfalso;cases h3;done)|decide
theorem valid_spec (v:Int) (d t:Bool):PRet C.P 64 [sg v d t] (.bool (right v d t)):=by
 refine pret_of ok mixed (A:=A64) 1 Tryz.func64 rfl ?_
 (repeat' (first|exact rfl|((conv=>whnf);first|exact rfl|refine ⟨by kernel_rfl,?_⟩|exact ⟨rfl,rfl⟩|refine go0 ?_|(intro ep)|refine ⟨_,ticks_spec v d t,?_⟩|(refine ifB ?_ ?_<;>intro hb<;>(try simp only [qs] at hb)<;>(try simp (disch:=omega) only [wrapI] at hb)<;>(try (exfalso;omega)))|fail)))
 ·simp only [Bool.and_eq_true,decide_eq_true_eq,beq_iff_eq] at hb;obtain ⟨rfl,rfl,rfl,_⟩:=hb;rfl
 ·refine congrArg AV.bool ?_;have tp:=ticks_pos v d t;by_cases h0:v=0
  ·subst h0;have:ticks 0 d t=0:=by simp [ticks]
   rw [this];cases d<;>cases t<;>first|rfl|(exfalso;revert hb;decide)
  ·unfold right;rw [if_neg h0];by_cases hp:0<ticks v d t
   ·rw [decide_eq_true hp];rw [tp] at hp;simp [hp]
   ·rw [decide_eq_false hp];rw [tp] at hp;by_cases h1:1≤v<;>by_cases h2:v≤7<;>simp_all<;>(intros;exfalso;omega)
theorem has_drop {l:List Stp} {k:Nat} (h:k<l.length) (c:Int):hasC (l.drop k) c=(l[k].c==c||hasC (l.drop (k+1)) c):=by
 rw [drop_at h];rfl
theorem plucks_spec (e:Evt) (c:Int) (hl:e.stops.length≤9223372036854775807):PRet C.P 63 [.agg (evR e),.int .i64 c] (.bool (hasC e.stops c)):=by
 refine pret_of (okx [] [98,99,78]) mixed (A:=A63) 2 Tryz.func63 rfl ?_
 (repeat' (first|exact rfl|((conv=>whnf);first|exact rfl|refine ⟨by kernel_rfl,?_⟩|exact ⟨rfl,rfl⟩|refine go0 ?_|(intro ep)|(refine ifB ?_ ?_<;>intro hb<;>(try simp only [qs] at hb)<;>(try simp (disch:=omega) only [wrapI] at hb)<;>(try (exfalso;omega)))|refine fn_of (okx [] [98,99,78]) mixed (A:=fun _=>{}) 0 Tryz.func98 rfl ?_|refine fn_of (okx [] [98,99,78]) mixed (A:=fun _=>{}) 0 Tryz.func78 rfl ?_|fail)))
 rename_i e0;obtain ⟨e1,he⟩:∃e1,e1=ep:=⟨_,rfl⟩;subst he;(conv=>whnf);refine loopM (okx [] [98,99,78]) mixed (A:=fun _=>{}) [0,1,7,8] [0,1] (S:={ k:Nat // k≤e.stops.length∧hasC (e.stops.drop k) c=hasC e.stops c })
  (fr:=fun s=>frOf 0 19 [(0,stsA e.stops),(1,.fn (.func 99) [] [.optr (.s 1) e1 1 0 0]),(7,.int .i64 e.stops.length),(8,.int .i64 (s.1:Int))])
  (h:=fun s=>⟨[.vec e0 [evR e],.vec e1 [[.int .i64 c]]],[]⟩) (μ:=fun s=>e.stops.length-s.1) ⟨0,by omega,rfl⟩ rfl rfl ?_
 rintro ⟨k,hk,hs⟩;show aexR _ _ _ (frOf 0 19 [(0,stsA e.stops),(1,.fn (.func 99) [] [.optr (.s 1) e1 1 0 0]),(7,.int .i64 e.stops.length),(8,.int .i64 (k:Int))]) ⟨[.vec e0 [evR e],.vec e1 [[.int .i64 c]]],[]⟩ _;(conv=>whnf);refine ifB (fun h1=>?_) (fun h1=>?_)
 ·simp only [decide_eq_true_eq] at h1;have hlt:k<e.stops.length:=by omega
  rw [has_drop hlt] at hs
  (repeat' (first|exact rfl|((conv=>whnf);first|exact rfl|refine ⟨by kernel_rfl,?_⟩|exact ⟨rfl,rfl⟩|refine go0 ?_|(intro ep)|refine optS (mapR hlt) ?_|(refine ifB ?_ ?_<;>intro hb<;>(try simp only [qs] at hb)<;>(try simp (disch:=omega) only [wrapI] at hb)<;>(try (exfalso;omega)))|refine fn_of (okx [] [98,99,78]) mixed (A:=A99) 1 Tryz.func99 rfl ?_|fail)))
  ·rw [←hs,hb];simp
  ·rw [beq_eq_false_iff_ne.2 hb,Bool.false_or] at hs;refine back_of ⟨k+1,by omega,hs⟩ ⟨by (first|exact rfl|(simp (disch:=omega) only [wrapI];exact rfl)),rfl,by simp only;omega⟩
 ·simp only [decide_eq_false_iff_not] at h1;rw [List.drop_eq_nil_of_le (by omega)] at hs
  (repeat' (first|exact rfl|((conv=>whnf);first|exact rfl|refine ⟨by kernel_rfl,?_⟩|exact ⟨rfl,rfl⟩|refine go0 ?_|(intro ep)|(refine ifB ?_ ?_<;>intro hb<;>(try simp only [qs] at hb)<;>(try simp (disch:=omega) only [wrapI] at hb)<;>(try (exfalso;omega)))|fail)))
  all_goals rw [←hs];rfl
def longL (c:Int):Nat→List Evt→Nat
 |0,_=>0
 |_+1,[]=>0
 |n+1,e::r=>if (restE e||hasC e.stops c)=true then 0 else longL c n r+1
def longest (evs:List Evt) (ev c:Int):Int:=if ev<0∨(evs.length:Int)≤ev then 0 else (longL c 15 (evs.drop (ev+1).toNat):Nat)
theorem longL_le (c:Int):∀(n:Nat) (l:List Evt),longL c n l≤n:=by
 intro n
 induction n with
 |zero=>intro l;simp [longL]
 |succ n ih=>
  intro l;cases l with
  |nil=>simp [longL]
  |cons e r=>
         simp only [longL];split;· omega
         ·have:=ih r;omega
theorem mapRo {α:Type} {f:α→List AV} {l:List α} {a i:Nat} (h:a+i<l.length):(l.map f)[a+((i:Nat):Int).toNat]? =some (f l[a+i]):=by
 rw [Int.toNat_natCast,List.getElem?_map,List.getElem?_eq_getElem h];rfl
structure Pc.Ok (p:Pc):Prop where
 cs:p.ins.cs.length≤9223372036854775807
 st:p.ins.steps.length≤9223372036854775807
 ev:p.evs.length≤9223372036854775807
 sp:∀e∈p.evs,e.stops.length≤9223372036854775807
def A29:Ann:=fun r=>match r with
 |0=>{ slots:=[(0,0)] }
 |6=>{ slots:=[(2,1)] }
 |_=>{}
theorem longest_spec (p:Pc) (hp:p.Ok) (ev c:Int):PRet C.P 29 [pcA p,.int .i64 ev,.int .i64 c] (.int .i64 (longest p.evs ev c)):=by
 have hpe:=hp.ev;refine pret_of ok mixed (A:=A29) 2 Tryz.func29 rfl ?_
 (repeat' (first|exact rfl|((conv=>whnf);first|exact rfl|refine ⟨by kernel_rfl,?_⟩|exact ⟨rfl,rfl⟩|refine go0 ?_|(intro ep)|(refine ifB ?_ ?_<;>intro hb<;>(try simp only [qs] at hb)<;>(try simp (disch:=omega) only [wrapI] at hb)<;>(try (exfalso;omega)))|fail)))
 ·unfold longest;rw [if_pos (by omega)]
 ·unfold longest;rw [if_pos (by omega)]
 obtain ⟨n,rfl⟩:∃n:Nat,ev=n:=⟨ev.toNat,by omega⟩;have hA:longest p.evs n c=((longL c 15 (p.evs.drop (n+1)):Nat):Int):=by unfold longest;rw [if_neg (by omega)];rfl
 rw [hA];(conv=>whnf);obtain ⟨e0,he⟩:∃e0,e0=ep:=⟨_,rfl⟩;subst he;refine loopM ok mixed (A:=A29) [2,7,23,24,25] [0] (S:={ k:Nat // k≤p.evs.length-(n+1)∧k≤15∧longL c (15-k) (p.evs.drop (n+1+k))+k=longL c 15 (p.evs.drop (n+1)) })
  (fr:=fun s=>frOf 0 44 [(2,.int .i64 c),(7,.int .i64 (s.1:Int)),(23,.lslc 6 (p.evs.map evR) (0+(n+1)) (p.evs.length-(n+1)) false),(24,.int .i64 ((p.evs.length-(n+1):Nat):Int)),(25,.int .i64 (s.1:Int))])
  (h:=fun s=>⟨[.vec e0 [[crsA p.ins.cs,intsA p.ins.steps,evsA p.evs]],.hole],[]⟩) (μ:=fun s=>15-s.1) ⟨0,by omega,by omega,rfl⟩ (by (first|exact rfl|(simp (disch:=omega) only [wrapI];exact rfl))) rfl ?_
 rintro ⟨k,hk,hk15,hs⟩;show aexR _ _ _ (frOf 0 44 [(2,.int .i64 c),(7,.int .i64 (k:Int)),(23,.lslc 6 (p.evs.map evR) (0+(n+1)) (p.evs.length-(n+1)) false),(24,.int .i64 ((p.evs.length-(n+1):Nat):Int)),(25,.int .i64 (k:Int))]) ⟨[.vec e0 [[crsA p.ins.cs,intsA p.ins.steps,evsA p.evs]],.hole],[]⟩ _;(conv=>whnf);refine ifB (fun h1=>?_) (fun h1=>?_)
 ·simp only [decide_eq_true_eq] at h1;have hlt:0+(n+1)+k<p.evs.length:=by omega
  have hlt':n+1+k<p.evs.length:=by omega
  obtain ⟨e,he⟩:∃e,e=p.evs[0+(n+1)+k]:=⟨_,rfl⟩;have he':p.evs[n+1+k]=e:=by rw [he];congr 1;omega
  have hm:(p.evs.map evR)[0+(n+1)+((k:Nat):Int).toNat]? =some (evR e):=by rw [mapRo hlt,he]
  have hsl:e.stops.length≤9223372036854775807:=hp.sp e (by rw [he];exact List.getElem_mem hlt);rw [drop_at hlt',he'] at hs
  (repeat' (first|exact rfl|((conv=>whnf);first|exact rfl|refine ⟨by kernel_rfl,?_⟩|exact ⟨rfl,rfl⟩|refine go0 ?_|(intro ep)|refine optS hm ?_|refine ⟨_,isRest_spec e,?_⟩|refine ⟨_,plucks_spec e c hsl,?_⟩|(refine ifB ?_ ?_<;>intro hb<;>(try simp only [qs] at hb)<;>(try simp (disch:=omega) only [wrapI] at hb)<;>(try (exfalso;omega)))|fail)))
  ·obtain rfl:k=15:=by omega
   simp only [Nat.sub_self,longL] at hs;exact congrArg (AV.int .i64) (by omega)
  ·obtain ⟨m,hm⟩:∃m,15-k=m+1:=⟨14-k,by omega⟩;rw [hm] at hs;simp only [longL,hb,Bool.true_or,if_true] at hs;exact congrArg (AV.int .i64) (by omega)
  ·rename_i hb1;obtain ⟨m,hm⟩:∃m,15-k=m+1:=⟨14-k,by omega⟩;rw [hm] at hs;simp only [longL,hb,Bool.or_true,if_true] at hs;exact congrArg (AV.int .i64) (by omega)
  ·rename_i hb1;obtain ⟨m,hm⟩:∃m,15-k=m+1:=⟨14-k,by omega⟩;rw [hm] at hs;simp only [longL,hb,hb1,Bool.or_false,Bool.false_eq_true,if_false] at hs;refine back_of ⟨k+1,by omega,by omega,?_⟩ ⟨by (first|exact rfl|(simp (disch:=omega) only [wrapI];exact rfl)),rfl,by simp only;omega⟩;rw [show 15-(k+1)=m by omega,show n+1+(k+1)=n+1+k+1 by omega];omega
 ·simp only [decide_eq_false_iff_not] at h1;rw [List.drop_eq_nil_of_le (by omega)] at hs;have h0:longL c (15-k) []=0:=by cases 15-k<;>rfl
  rw [h0] at hs
  (repeat' (first|exact rfl|((conv=>whnf);first|exact rfl|refine ⟨by kernel_rfl,?_⟩|exact ⟨rfl,rfl⟩|refine go0 ?_|(intro ep)|(refine ifB ?_ ?_<;>intro hb<;>(try simp only [qs] at hb)<;>(try simp (disch:=omega) only [wrapI] at hb)<;>(try (exfalso;omega)))|fail)))
  all_goals (rw [←hs];simp)

def fretsOf (i:Ins) (c:Int):Int:=(i.cs.getD (c-1).toNat ⟨0,0,false⟩).frets
def chkStop (i:Ins) (lg:Int) (s:Stp) (last:Int):Int:=
 if s.c<1∨(i.cs.length:Int)<s.c then 12 else if s.f<0∨fretsOf i s.c<s.f then 13 else if s.c≤last then 22 else
  if s.r<0∨3<s.r∨s.g<0∨4<s.g then 23 else if s.h<0∨lg<s.h∨(0<s.h∧s.f=0) then 24 else 0
def chkStops (p:Pc) (k:Nat) (last:Int):List Stp→Int
 | []=>0
 |s::r=>if chkStop p.ins (longest p.evs k s.c) s last=0 then chkStops p k s.c r else chkStop p.ins (longest p.evs k s.c) s last
def chkEv (p:Pc) (k:Nat) (e:Evt):Int:=
 if right e.v e.d e.t=false∨(k=0∧e.v=0) then 20 else if e.tie=true∧(k=0∨0<e.stops.length) then 21 else chkStops p k 0 e.stops
def chkEvs (p:Pc) (k:Nat):List Evt→Int
 | []=>0
 |e::r=>if chkEv p k e=0 then chkEvs p (k+1) r else chkEv p k e
def chk (p:Pc):Int:=if chkIn p.ins=0 then (if 400<p.evs.length then 2 else chkEvs p 0 p.evs) else chkIn p.ins
def A65:Ann:=fun r=>match r with
 |0=>{ slots:=[(0,0),(1,1)] }
 |_=>{}
theorem fretsR {i:Ins} {c:Int} (h:1≤c∧c≤i.cs.length):∃x,(i.cs.map crR)[0+(c-1).toNat]? =some (crR x)∧x.frets=fretsOf i c:=by
 have hl:(c-1).toNat<i.cs.length:=by omega
 refine ⟨i.cs[(c-1).toNat],?_,?_⟩
 ·rw [Nat.zero_add,List.getElem?_map,List.getElem?_eq_getElem hl];rfl
 ·unfold fretsOf;rw [List.getD,List.getElem?_eq_getElem hl];rfl
theorem checkStop_spec (p:Pc) (hp:p.Ok) (k:Nat) (s:Stp) (last:Int):PRet C.P 65 [pcA p,.int .i64 k,.agg (stR s),.int .i64 last] (.int .i64 (chkStop p.ins (longest p.evs k s.c) s last)):=by
 have hpc:=hp.cs;refine pret_of ok mixed (A:=A65) 2 Tryz.func65 rfl ?_;unfold chkStop
 (repeat' (first|exact rfl|((conv=>whnf);first|exact rfl|refine ⟨by kernel_rfl,?_⟩|exact ⟨rfl,rfl⟩|refine go0 ?_|(intro ep)|(refine ifB ?_ ?_<;>intro hb<;>(try simp only [qs] at hb)<;>(try simp (disch:=omega) only [wrapI] at hb)<;>(try (exfalso;omega)))|fail)))
 ·rw [if_pos (by omega)]
 ·rw [if_pos (by omega)]
 (repeat' (first|exact rfl|((conv=>whnf);first|exact rfl|refine ⟨by kernel_rfl,?_⟩|exact ⟨rfl,rfl⟩|refine go0 ?_|(intro ep)|(refine ifB ?_ ?_<;>intro hb<;>(try simp only [qs] at hb)<;>(try simp (disch:=omega) only [wrapI] at hb)<;>(try (exfalso;omega)))|fail)))
 ·rw [if_neg (by omega),if_pos (by omega)]
 obtain ⟨x,x1,x2⟩:=fretsR (i:=p.ins) (c:=s.c) (by omega)
 (repeat' (first|exact rfl|((conv=>whnf);first|exact rfl|refine ⟨by kernel_rfl,?_⟩|exact ⟨rfl,rfl⟩|refine go0 ?_|(intro ep)|refine optS (by (try simp (disch:=omega) only [wrapI]);exact x1) ?_|refine ⟨_,longest_spec p hp k s.c,?_⟩|(refine ifB ?_ ?_<;>intro hb<;>(try simp only [qs] at hb)<;>(try simp (disch:=omega) only [wrapI] at hb)<;>(try (exfalso;omega)))|fail)))
 all_goals (refine congrArg (AV.int .i64) ?_;rw [←x2];(repeat' split)<;>omega)
def A30:Ann:=fun r=>match r with
 |0=>{ slots:=[(0,0)] }
 |8=>{ slots:=[(3,1)] }
 |16=>{ slots:=[(2,2)] }
 |_=>{}
theorem right_zero {v:Int} {d t:Bool} (h:right v d t=true):(decide (v=0)&&(d==false&&(t==false&&true)))=decide (v=0):=by
 by_cases h0:v=0
 ·subst h0;cases d<;>cases t<;>first|rfl|(exfalso;revert h;decide)
 ·simp [h0]
theorem check_spec (p:Pc) (hp:p.Ok):PRet C.P 30 [pcA p] (.int .i64 (chk p)):=by
 refine pret_of ok mixed (A:=A30) 3 Tryz.func30 rfl ?_
 (repeat' (first|exact rfl|((conv=>whnf);first|exact rfl|refine ⟨by kernel_rfl,?_⟩|exact ⟨rfl,rfl⟩|refine go0 ?_|(intro ep)|refine ⟨_,inCheck_spec p.ins,?_⟩|(refine ifB ?_ ?_<;>intro hb<;>(try simp only [qs] at hb)<;>(try simp (disch:=omega) only [wrapI] at hb)<;>(try (exfalso;omega)))|fail)))
 ·unfold chk;rw [if_neg hb]
 ·rename_i hb1;unfold chk;rw [if_pos hb1,if_pos (by omega)]
 rename_i hI;have hA:chk p=chkEvs p 0 p.evs:=by unfold chk;rw [if_pos hI,if_neg (by omega)]
 rw [hA];obtain ⟨e0,he⟩:∃e1,e1=ep:=⟨_,rfl⟩;subst he
 (repeat' (first|exact rfl|((conv=>whnf);first|exact rfl|refine ⟨by kernel_rfl,?_⟩|exact ⟨rfl,rfl⟩|refine go0 ?_|(intro ep)|(refine ifB ?_ ?_<;>intro hb<;>(try simp only [qs] at hb)<;>(try simp (disch:=omega) only [wrapI] at hb)<;>(try (exfalso;omega)))|fail)))
 (conv=>whnf);refine loopM ok mixed (A:=A30) [1,21,22,23] [0] (S:={ k:Nat // k≤p.evs.length∧chkEvs p k (p.evs.drop k)=chkEvs p 0 p.evs })
  (fr:=fun s=>frOf 0 73 [(1,.optr (.s 0) e0 3 0 0),(21,evsA p.evs),(22,.int .i64 p.evs.length),(23,.int .i64 (s.1:Int))])
  (h:=fun s=>⟨[.vec e0 [[crsA p.ins.cs,intsA p.ins.steps,evsA p.evs]],.hole,.hole],[]⟩) (μ:=fun s=>p.evs.length-s.1) ⟨0,by omega,rfl⟩ rfl rfl ?_
 rintro ⟨k,hk,hs⟩;show aexR _ _ _ (frOf 0 73 [(1,.optr (.s 0) e0 3 0 0),(21,evsA p.evs),(22,.int .i64 p.evs.length),(23,.int .i64 (k:Int))]) ⟨[.vec e0 [[crsA p.ins.cs,intsA p.ins.steps,evsA p.evs]],.hole,.hole],[]⟩ _;(conv=>whnf);refine ifB (fun h1=>?_) (fun h1=>?_)
 ·simp only [decide_eq_true_eq] at h1;have hlt:k<p.evs.length:=by omega
  obtain ⟨e,hev⟩:∃e,p.evs[k]=e:=⟨_,rfl⟩;have hm:(p.evs.map evR)[0+((k:Nat):Int).toNat]? =some (evR e):=by rw [mapR hlt,hev]
  have hsl:e.stops.length≤9223372036854775807:=hp.sp e (by rw [←hev];exact List.getElem_mem hlt);rw [drop_at hlt,hev] at hs;have key:chkEv p k e≠0→chkEvs p 0 p.evs=chkEv p k e:=fun h=>by rw [←hs,chkEvs,if_neg h]
  have key0:chkEv p k e=0→chkEvs p (k+1) (p.evs.drop (k+1))=chkEvs p 0 p.evs:=fun h=>by rw [←hs,chkEvs,if_pos h]
  clear hs;have e20:(right e.v e.d e.t=false∨(k=0∧e.v=0))→chkEv p k e=20:=fun h=>by unfold chkEv;rw [if_pos h]
  have e21:¬(right e.v e.d e.t=false∨(k=0∧e.v=0))→e.tie=true∧(k=0∨0<e.stops.length)→chkEv p k e=21:=fun h h'=>by unfold chkEv;rw [if_neg h,if_pos h']
  have e0':¬(right e.v e.d e.t=false∨(k=0∧e.v=0))→¬(e.tie=true∧(k=0∨0<e.stops.length))→chkEv p k e=chkStops p k 0 e.stops:=fun h h'=>by unfold chkEv;rw [if_neg h,if_neg h']
  (repeat' (first|exact rfl|((conv=>whnf);first|exact rfl|refine ⟨by kernel_rfl,?_⟩|exact ⟨rfl,rfl⟩|refine go0 ?_|(intro ep)|refine optS hm ?_|refine ⟨_,valid_spec e.v e.d e.t,?_⟩|(refine ifB ?_ ?_<;>intro hb<;>(try simp only [qs] at hb)<;>(try simp (disch:=omega) only [wrapI] at hb)<;>(try (exfalso;omega)))|fail)))
  ·rename_i hb1
   first|(rw [key (by rw [e20 (.inl hb1)];decide),e20 (.inl hb1)])|(rw [key (by rw [e20 (.inl hb)];decide),e20 (.inl hb)])
  ·rename_i hb2 hb1;have hv:e.v=0:=by simp only [Bool.and_eq_true,decide_eq_true_eq] at hb;exact hb.1
   rw [key (by rw [e20 (.inr ⟨by omega,hv⟩)];decide),e20 (.inr ⟨by omega,hv⟩)]
  all_goals
   have hR:right e.v e.d e.t=true:=by assumption
   have hn:¬(right e.v e.d e.t=false∨(k=0∧e.v=0)):=by
    rintro (h|⟨h,h'⟩)
    ·rw [hR] at h;cases h
    ·first
      |omega
      |(
        have hz:(decide (e.v=0)&&(e.d==false&&(e.t==false&&true)))=false:=by assumption
        rw [right_zero hR,h'] at hz;cases hz)
   replace e21:=e21 hn
   replace e0':=e0' hn
  ·rename_i ht;have:=e21 ⟨by assumption,.inl (by omega)⟩;rw [key (by rw [this];decide),this]
  all_goals first
   |(
     have h2:=e21 ⟨by assumption,.inr (by omega)⟩;rw [key (by rw [h2];decide),h2]
     done)
   |skip
  all_goals
   have hT:¬(e.tie=true∧(k=0∨0<e.stops.length)):=by
    rintro ⟨h,h'⟩
    rcases h' with h'|h'<;>first|omega|(simp_all;done)
   replace e0':=e0' hT
   (repeat' (first|exact rfl|((conv=>whnf);first|exact rfl|refine ⟨by kernel_rfl,?_⟩|exact ⟨rfl,rfl⟩|refine go0 ?_|(intro ep)|(refine ifB ?_ ?_<;>intro hb<;>(try simp only [qs] at hb)<;>(try simp (disch:=omega) only [wrapI] at hb)<;>(try (exfalso;omega)))|fail)))
   (conv=>whnf);refine loopM ok mixed (A:=A30) [1,4,6,21,22,23,55,56,57] [0] (S:={ x:Nat×Int // x.1≤e.stops.length∧chkStops p k x.2 (e.stops.drop x.1)=chkStops p k 0 e.stops })
    (fr:=fun s=>frOf 0 73 [(1,.optr (.s 0) e0 3 0 0),(4,.int .i64 k),(6,.int .i64 s.1.2),(21,evsA p.evs),(22,.int .i64 p.evs.length),(23,.int .i64 (k:Int)),(55,stsA e.stops),(56,.int .i64 e.stops.length),(57,.int .i64 (s.1.1:Int))])
    (h:=fun s=>⟨[.vec e0 [[crsA p.ins.cs,intsA p.ins.steps,evsA p.evs]],.hole,.hole],[]⟩) (μ:=fun s=>e.stops.length-s.1.1) ⟨(0,0),by omega,rfl⟩ rfl rfl ?_
   rintro ⟨⟨j,last⟩,hj,hs⟩;show aexR _ _ _ (frOf 0 73 [(1,.optr (.s 0) e0 3 0 0),(4,.int .i64 k),(6,.int .i64 last),(21,evsA p.evs),(22,.int .i64 p.evs.length),(23,.int .i64 (k:Int)),(55,stsA e.stops),(56,.int .i64 e.stops.length),(57,.int .i64 (j:Int))]) ⟨[.vec e0 [[crsA p.ins.cs,intsA p.ins.steps,evsA p.evs]],.hole,.hole],[]⟩ _;simp only at hj hs;(conv=>whnf);refine ifB (fun h2=>?_) (fun h2=>?_)
   ·simp only [decide_eq_true_eq] at h2;have hlj:j<e.stops.length:=by omega
    first
     |(exfalso;omega)
     |skip
    all_goals
     rw [drop_at hlj] at hs;simp only [chkStops] at hs
     (repeat' (first|exact rfl|((conv=>whnf);first|exact rfl|refine ⟨by kernel_rfl,?_⟩|exact ⟨rfl,rfl⟩|refine go0 ?_|(intro ep)|refine optS (mapR hlj) ?_|refine ⟨_,checkStop_spec p hp k e.stops[j] last,?_⟩|(refine ifB ?_ ?_<;>intro hb<;>(try simp only [qs] at hb)<;>(try simp (disch:=omega) only [wrapI] at hb)<;>(try (exfalso;omega)))|fail)))
     ·rw [if_neg hb] at hs;have hc:chkEv p k e=chkStop p.ins (longest p.evs k (e.stops[j]).c) e.stops[j] last:=by rw [e0',hs]
      rw [key (by rw [hc];exact hb),hc]
     ·rw [if_pos hb] at hs;refine back_of ⟨(j+1,(e.stops[j]).c),by omega,hs⟩ ⟨by (first|exact rfl|(simp (disch:=omega) only [wrapI];exact rfl)),rfl,by simp only;omega⟩
   ·simp only [decide_eq_false_iff_not] at h2;rw [List.drop_eq_nil_of_le (by omega)] at hs;(conv=>whnf);refine back_of ⟨k+1,by omega,key0 (by rw [e0',←hs];rfl)⟩ ⟨by (first|exact rfl|(simp (disch:=omega) only [wrapI];exact rfl)),rfl,by simp only;omega⟩
 ·simp only [decide_eq_false_iff_not] at h1;have h0:chkEvs p 0 p.evs=0:=by rw [←hs,List.drop_eq_nil_of_le (by omega)];rfl
  (repeat' (first|exact rfl|((conv=>whnf);first|exact rfl|refine ⟨by kernel_rfl,?_⟩|exact ⟨rfl,rfl⟩|refine go0 ?_|(intro ep)|(refine ifB ?_ ?_<;>intro hb<;>(try simp only [qs] at hb)<;>(try simp (disch:=omega) only [wrapI] at hb)<;>(try (exfalso;omega)))|fail)))
  rw [h0]

theorem ints_app (l m:List Int):ints (l++m)=ints l++ints m:=List.map_append
theorem pure_ints (l:List Int):pureRows (ints l):=by
 intro row hr c hc;obtain ⟨x,_,rfl⟩:=List.mem_map.mp hr;cases List.mem_singleton.mp hc;rfl
theorem ticks_bd (v:Int) (d t:Bool):0≤ticks v d t∧ticks v d t≤576:=by
 unfold ticks
 split
 ·omega
 ·simp only
  repeat' split
  all_goals omega

theorem pure_map {α:Type} {f:α→List AV} (l:List α) (h:∀x,(f x).all AV.pure1=true):pureRows (l.map f):=by
 intro row hr c hc;obtain ⟨x,_,rfl⟩:=List.mem_map.mp hr;exact List.all_eq_true.mp (h x) c hc
theorem takeAll {α β:Type} (l:List α) (f:α→β):List.take l.length (List.drop 0 (l.map f))=l.map f:=by rw [List.drop_zero,List.take_of_length_le (by simp)]
structure Pc.Sm (p:Pc):Prop where
 cs:p.ins.cs.length≤4000
 st:p.ins.steps.length≤4000
 ev:p.evs.length≤4000
 sp:∀e∈p.evs,e.stops.length≤4000
def noS:AV→Bool
 | .oslc (.s _) _ _ _ _ _=>false
 |_=>true
theorem eqsP_no {n ep:Nat}:∀{l:List AV},(∀a∈l,noS a=true)→eqsP n ep l
 | [],_=>trivial
 |a::l,h=>by
  have h1:=h a (List.mem_cons_self ..);have h2:=eqsP_no (n:=n) (ep:=ep) fun b hb=>h b (List.mem_cons_of_mem _ hb);unfold eqsP
  split
  ·simp [noS] at h1
  ·exact h2
theorem eqsP_rows {α:Type} {n ep:Nat} {f:α→List AV} (l:List α) (h:∀x,(f x).all noS=true):eqsP n ep ((l.map f).flatten):=
 eqsP_no fun a ha=>by
  obtain ⟨r,hr,ha⟩:=List.mem_flatten.1 ha;obtain ⟨x,_,rfl⟩:=List.mem_map.1 hr;exact List.all_eq_true.1 (h x) a ha
theorem fcS_no {n:Nat} {rows:List (List AV)} {a:AV} (h:noS a=true):fcS n rows a=a:=by
 unfold fcS
 split
 ·simp [noS] at h
 ·rfl
theorem fc_rows {α:Type} {n:Nat} {rows:List (List AV)} {f:α→List AV} (l:List α) (h:∀x,(f x).all noS=true):((l.map f).map fun r=>r.map (fcS n rows))=l.map f:=by
 rw [List.map_map];refine List.map_congr_left fun x _=>?_;show (f x).map (fcS n rows)=f x;refine (List.map_congr_left fun a ha=>?_).trans (List.map_id _);exact fcS_no (List.all_eq_true.1 (h x) a ha)

structure Sgn where
 v:Int
 d:Bool
 t:Bool
def sgnR (s:Sgn):List AV:=[.int .i64 s.v,.bool s.d,.bool s.t]
def Sgn.tk (s:Sgn):Int:=ticks s.v s.d s.t
def nextS (s:Sgn) (e:Evt):Sgn:=if e.v=0 then s else ⟨e.v,e.d,e.t⟩
def fcs (s:Sgn):List Evt→List Sgn
 | []=>[]
 |e::r=>nextS s e::fcs (nextS s e) r
theorem fcs_len:∀(l:List Evt) (s:Sgn),(fcs s l).length=l.length
 | [],_=>rfl
 |e::r,s=>by simp [fcs,fcs_len r]
def A19:Ann:=fun r=>match r with
 |0=>{ slots:=[(0,0)] }
 |2=>{ slots:=[(1,1)] }
 |8=>{ slots:=[(2,2),(3,3)] }
 |_=>{}
def fcsV (p:Pc):AV:=.lslc 3 ((fcs ⟨0,false,false⟩ p.evs).map sgnR) 0 p.evs.length false
theorem forces_spec (p:Pc) (hp:p.Sm):PRet C.P 19 [pcA p] (fcsV p):=by
 have hle:=hp.ev;refine pret_of ok mixed (A:=A19) 4 Tryz.func19 rfl ?_;(conv=>whnf);intro e0
 (repeat' (first|exact rfl|((conv=>whnf);first|exact rfl|refine ⟨by kernel_rfl,?_⟩|exact ⟨rfl,rfl⟩|refine go0 ?_|(intro ep)|(refine ifB ?_ ?_<;>intro hb<;>(try simp only [qs] at hb)<;>(try simp (disch:=omega) only [wrapI] at hb)<;>(try (exfalso;omega)))|fail)))
 obtain ⟨e1,he⟩:∃e,e=ep:=⟨_,rfl⟩;subst he;(conv=>whnf);refine wk_lift 3 3 3 rfl ?_;intro eA;refine loopM ok mixed (A:=A19) [1,3,4,5] [0,1,3] (S:={ x:Nat×Nat×Sgn×List Sgn // x.1≤p.evs.length∧x.2.2.2.length=x.1∧x.2.2.2++fcs x.2.2.1 (p.evs.drop x.1)=fcs ⟨0,false,false⟩ p.evs })
  (fr:=fun s=>frOf 0 33 [(1,.optr (.s 0) e0 3 0 0),(3,.oslc (.s 3) s.1.2.1 3 0 s.1.1 false),(4,.optr (.s 1) e1 3 0 0),(5,.int .i64 (s.1.1:Int))])
  (h:=fun s=>⟨[.vec e0 [[crsA p.ins.cs,intsA p.ins.steps,evsA p.evs]],.vec e1 [sgnR s.1.2.2.1],.hole,.vec s.1.2.1 (s.1.2.2.2.map sgnR)],[]⟩) (μ:=fun s=>p.evs.length-s.1.1) ⟨(0,eA,⟨0,false,false⟩,[]),by simp⟩ ?_ ?_ ?_
 ·exact rfl
 ·exact rfl
 rintro ⟨⟨k,eB,s,pre⟩,hk,hpre,hs⟩;simp only at hk hpre hs;show aexR _ _ _ (frOf 0 33 [(1,.optr (.s 0) e0 3 0 0),(3,.oslc (.s 3) eB 3 0 k false),(4,.optr (.s 1) e1 3 0 0),(5,.int .i64 (k:Int))])
  ⟨[.vec e0 [[crsA p.ins.cs,intsA p.ins.steps,evsA p.evs]],.vec e1 [sgnR s],.hole,.vec eB (pre.map sgnR)],[]⟩ _
 (conv=>whnf);refine ⟨rfl,?_⟩;(conv=>whnf);refine ifB (fun h1=>?_) (fun h1=>?_)
 ·simp only [decide_eq_true_eq] at h1;have hlt:k<p.evs.length:=by omega
  obtain ⟨e,hev⟩:∃e,p.evs[k]=e:=⟨_,rfl⟩;have hm:(p.evs.map evR)[0+((k:Nat):Int).toNat]? =some (evR e):=by rw [mapR hlt,hev]
  rw [drop_at hlt,hev] at hs;simp only [fcs] at hs;have t3:List.take k (List.drop 0 (pre.map sgnR))=pre.map sgnR:=by rw [List.drop_zero,List.take_of_length_le (by simp;omega)]
  (repeat' (first|exact rfl|((conv=>whnf);first|exact rfl|refine ⟨by kernel_rfl,?_⟩|exact ⟨rfl,rfl⟩|refine go0 ?_|(intro ep)|refine optS hm ?_|(refine ifB ?_ ?_<;>intro hb<;>(try simp only [qs] at hb)<;>(try simp (disch:=omega) only [wrapI] at hb)<;>(try (exfalso;omega)))|fail)))
  all_goals (conv=>whnf)
  ·have hn:nextS s e=⟨e.v,e.d,e.t⟩:=by unfold nextS;rw [if_neg hb]
   rw [hn] at hs;refine back_of ⟨(k+1,ep,(⟨e.v,e.d,e.t⟩:Sgn),pre++[(⟨e.v,e.d,e.t⟩:Sgn)]),by simp only;omega,by simp [hpre],by simpa using hs⟩ ⟨by (first|exact rfl|(simp (disch:=omega) only [wrapI];exact rfl)),?_,by simp only;omega⟩;refine Eq.trans (b:=⟨[.vec e0 [[crsA p.ins.cs,intsA p.ins.steps,evsA p.evs]],.vec e1 [sgnR (⟨e.v,e.d,e.t⟩:Sgn)],.hole,.vec ep (List.take k (List.drop 0 (pre.map sgnR))++[sgnR (⟨e.v,e.d,e.t⟩:Sgn)])],[]⟩) rfl ?_;rw [t3];simp
  ·have hn:nextS s e=s:=by unfold nextS;rw [if_pos hb]
   rw [hn] at hs;refine back_of ⟨(k+1,ep,s,pre++[s]),by simp only;omega,by simp [hpre],by simpa using hs⟩ ⟨by (first|exact rfl|(simp (disch:=omega) only [wrapI];exact rfl)),?_,by simp only;omega⟩;refine Eq.trans (b:=⟨[.vec e0 [[crsA p.ins.cs,intsA p.ins.steps,evsA p.evs]],.vec e1 [sgnR s],.hole,.vec ep (List.take k (List.drop 0 (pre.map sgnR))++[sgnR s])],[]⟩) rfl ?_;rw [t3];simp
 ·simp only [decide_eq_false_iff_not] at h1;have q:k=p.evs.length:=by omega
  rw [List.drop_eq_nil_of_le (by omega)] at hs;simp only [fcs,List.append_nil] at hs
  (repeat' (first|exact rfl|((conv=>whnf);first|exact rfl|refine ⟨by kernel_rfl,?_⟩|exact ⟨rfl,rfl⟩|refine go0 ?_|(intro ep)|(refine ifB ?_ ?_<;>intro hb<;>(try simp only [qs] at hb)<;>(try simp (disch:=omega) only [wrapI] at hb)<;>(try (exfalso;omega)))|fail)))
  rw [hs,q];exact ⟨pure_map _ fun x=>rfl,rfl,rfl⟩
def tmsT (t:Int):List Sgn→List Int
 | []=>[]
 |s::r=>(t+s.tk)::tmsT (t+s.tk) r
def times (p:Pc):List Int:=0::tmsT 0 (fcs ⟨0,false,false⟩ p.evs)
def A8:Ann:=fun r=>match r with
 |0=>{ slots:=[(0,0)] }
 |1=>{ slots:=[(0,1)] }
 |6=>{ slots:=[(11,2),(12,3)] }
 |_=>{}
theorem times_spec (p:Pc) (hp:p.Sm):PRet C.P 8 [pcA p] (.lslc 1 (ints (times p)) 0 (p.evs.length+1) false):=by
 have hle:=hp.ev;have hf:=forces_spec p hp;obtain ⟨ss,hss⟩:∃ss,ss=fcs ⟨0,false,false⟩ p.evs:=⟨_,rfl⟩;have hsl:ss.length=p.evs.length:=by rw [hss];exact fcs_len _ _
 unfold fcsV at hf;unfold times;rw [←hss] at hf ⊢;rw [←hsl] at hf ⊢;refine pret_of ok mixed (A:=A8) 4 Tryz.func8 rfl ?_
 (repeat' (first|exact rfl|((conv=>whnf);first|exact rfl|refine ⟨by kernel_rfl,?_⟩|exact ⟨rfl,rfl⟩|refine go0 ?_|(intro ep)|refine ⟨_,hf,?_⟩|(refine ifB ?_ ?_<;>intro hb<;>(try simp only [qs] at hb)<;>(try simp (disch:=omega) only [wrapI] at hb)<;>(try (exfalso;omega)))|fail)))
 (conv=>whnf);refine loopM ok mixed (A:=A8) [3,4,5] [1] (S:={ x:Nat×Nat×Int×List Int // x.1≤ss.length∧x.2.2.2.length=x.1∧(0≤x.2.2.1∧x.2.2.1≤576 * x.1)∧x.2.2.2++[x.2.2.1]++tmsT x.2.2.1 (ss.drop x.1)=0::tmsT 0 ss })
  (fr:=fun s=>frOf 0 29 [(3,.oslc (.s 1) s.1.2.1 1 0 (s.1.1+1) false),(4,.lslc 3 (ss.map sgnR) 0 ss.length false),(5,.int .i64 (s.1.1:Int))])
  (h:=fun s=>⟨[.hole,.vec s.1.2.1 (ints (s.1.2.2.2++[s.1.2.2.1])),.hole,.hole],[]⟩) (μ:=fun s=>ss.length-s.1.1) ⟨(0,ep,0,[]),by simp⟩ ?_ ?_ ?_
 ·exact rfl
 ·exact rfl
 rintro ⟨⟨k,eB,t,pre⟩,hk,hpre,ht,hs⟩;simp only at hk hpre ht hs;show aexR _ _ _ (frOf 0 29 [(3,.oslc (.s 1) eB 1 0 (k+1) false),(4,.lslc 3 (ss.map sgnR) 0 ss.length false),(5,.int .i64 (k:Int))])
  ⟨[.hole,.vec eB (ints (pre++[t])),.hole,.hole],[]⟩ _
 (conv=>whnf);refine ifB (fun h1=>?_) (fun h1=>?_)
 ·simp only [decide_eq_true_eq] at h1;have hlt:k<ss.length:=by omega
  obtain ⟨s,hev⟩:∃s,ss[k]=s:=⟨_,rfl⟩;have hm:(ss.map sgnR)[0+((k:Nat):Int).toNat]? =some (sgnR s):=by rw [mapR hlt,hev]
  have hrd:(ints (pre++[t]))[0+((k:Nat):Int).toNat]? =some [.int .i64 t]:=by
   rw [intsR (by simp [hpre])];simp [←hpre]
  rw [drop_at hlt,hev] at hs;simp only [tmsT] at hs;have tb:=ticks_bd s.v s.d s.t;have t3:List.take (k+1) (List.drop 0 (ints (pre++[t])))=ints (pre++[t]):=by rw [List.drop_zero,List.take_of_length_le (by simp [ints,hpre])]
  (repeat' (first|exact rfl|((conv=>whnf);first|exact rfl|refine ⟨by kernel_rfl,?_⟩|exact ⟨rfl,rfl⟩|refine go0 ?_|(intro ep)|refine optS hm ?_|refine optS hrd ?_|refine ⟨_,refTicks_spec s.v s.d s.t,?_⟩|(refine ifB ?_ ?_<;>intro hb<;>(try simp only [qs] at hb)<;>(try simp (disch:=omega) only [wrapI] at hb)<;>(try (exfalso;omega)))|fail)))
  (conv=>whnf);refine back_of ⟨(k+1,ep,t+s.tk,pre++[t]),by simp only;omega,by simp [hpre],by simp only [Sgn.tk];omega,by simpa using hs⟩ ⟨by (first|exact rfl|(simp (disch:=omega) only [wrapI];exact rfl)),?_,by simp only;omega⟩;simp (disch:=omega) only [wrapI];refine Eq.trans (b:=⟨[.hole,.vec ep (List.take (k+1) (List.drop 0 (ints (pre++[t])))++[[.int .i64 (t+ticks s.v s.d s.t)]]),.hole,.hole],[]⟩) rfl ?_;rw [t3,ints_app (pre++[t])];rfl
 ·simp only [decide_eq_false_iff_not] at h1;have q:k=ss.length:=by omega
  rw [List.drop_eq_nil_of_le (by omega)] at hs;simp only [tmsT,List.append_nil] at hs
  (repeat' (first|exact rfl|((conv=>whnf);first|exact rfl|refine ⟨by kernel_rfl,?_⟩|exact ⟨rfl,rfl⟩|refine go0 ?_|(intro ep)|(refine ifB ?_ ?_<;>intro hb<;>(try simp only [qs] at hb)<;>(try simp (disch:=omega) only [wrapI] at hb)<;>(try (exfalso;omega)))|fail)))
  rw [hs,q];exact ⟨pure_ints _,rfl,rfl⟩
theorem chkEv_right {p:Pc} {k:Nat} {e:Evt} (h:chkEv p k e=0):right e.v e.d e.t=true:=by
 unfold chkEv at h
 split at h
 ·cases h
 ·rename_i hn;cases hr:right e.v e.d e.t
  ·exact absurd (.inl hr) hn
  ·rfl
theorem chkEvs_right {p:Pc}:∀{l:List Evt} {k:Nat},chkEvs p k l=0→∀e∈l,right e.v e.d e.t=true
 | [],_,_,_,h=>by cases h
 |a::r,k,h,e,he=>by
  unfold chkEvs at h
  split at h
  ·rename_i h0
   rcases List.mem_cons.1 he with rfl|he
   ·exact chkEv_right h0
   ·exact chkEvs_right h e he
  ·rename_i h0;exact absurd h h0
theorem chk_right {p:Pc} (h:chk p=0):∀e∈p.evs,right e.v e.d e.t=true:=by
 unfold chk at h
 split at h
 ·split at h
  ·cases h
  ·exact chkEvs_right h
 ·rename_i h0;exact absurd h h0
end Go.Ab.V

namespace Go.Ab
end Go.Ab
namespace Go.Ab.V
open Go.Proofs
def A104:Ann:=fun r=>match r with
 |3=>{ slots:=[(0,0),(2,1)] }
 |_=>{}
theorem clone111_spec (l:List Crs) (hl:l.length≤100000):PRet C.P 104 [crsA l] (crsA l):=by
 have t1:List.take l.length (List.drop 0 (l.map crR))=l.map crR:=takeAll l _;have hp:pureRows (l.map crR):=pure_map l fun x=>rfl;refine psub_of ok mixed (A:=A104) 2 Tryz.func104 rfl rfl ?_
 (repeat' (first|exact rfl|((conv=>whnf);first|exact rfl|refine ⟨by kernel_rfl,?_⟩|exact ⟨rfl,rfl⟩|refine go0 ?_|(intro ep)|refine ⟨fun hn0=>?_,?_⟩|fail)))
 ·unfold crsA;rw [hn0];exact Sub.nils
 ·rename_i ea eb h1 c;rw [t1] at h1;exact hp hn0 (by simpa using h1) c ep
 ·rw [t1];have e:(0+(l.map crR).length)=l.length:=by simp [ints]
  rw [e];exact Sub.refl _
def A105:Ann:=fun r=>match r with
 |3=>{ slots:=[(0,0),(2,1)] }
 |_=>{}
theorem clone112_spec (l:List Int) (hl:l.length≤100000):PRet C.P 105 [intsA l] (intsA l):=by
 have t1:List.take l.length (List.drop 0 (ints l))=ints l:=takeAll l _;have hp:pureRows (ints l):=pure_map l fun x=>rfl;refine psub_of ok mixed (A:=A105) 2 Tryz.func105 rfl rfl ?_
 (repeat' (first|exact rfl|((conv=>whnf);first|exact rfl|refine ⟨by kernel_rfl,?_⟩|exact ⟨rfl,rfl⟩|refine go0 ?_|(intro ep)|refine ⟨fun hn0=>?_,?_⟩|fail)))
 ·unfold intsA;rw [hn0];exact Sub.nils
 ·rename_i ea eb h1 c;rw [t1] at h1;exact hp hn0 (by simpa using h1) c ep
 ·rw [t1];have e:(0+(ints l).length)=l.length:=by simp [ints]
  rw [e];exact Sub.refl _
def A106:Ann:=fun r=>match r with
 |3=>{ slots:=[(0,0),(2,1)] }
 |_=>{}
theorem clone113_spec (l:List Stp) (hl:l.length≤100000):PRet C.P 106 [stsA l] (stsA l):=by
 have t1:List.take l.length (List.drop 0 (l.map stR))=l.map stR:=takeAll l _;have hp:pureRows (l.map stR):=pure_map l fun x=>rfl;refine psub_of ok mixed (A:=A106) 2 Tryz.func106 rfl rfl ?_
 (repeat' (first|exact rfl|((conv=>whnf);first|exact rfl|refine ⟨by kernel_rfl,?_⟩|exact ⟨rfl,rfl⟩|refine go0 ?_|(intro ep)|refine ⟨fun hn0=>?_,?_⟩|fail)))
 ·unfold stsA;rw [hn0];exact Sub.nils
 ·rename_i ea eb h1 c;rw [t1] at h1;exact hp hn0 (by simpa using h1) c ep
 ·rw [t1];have e:(0+(l.map stR).length)=l.length:=by simp [ints]
  rw [e];exact Sub.refl _
def A72:Ann:=fun r=>match r with
 |0=>{ slots:=[(0,0),(1,1)] }
 |_=>{}
theorem copiedIn_spec (i:Ins) (h1:i.cs.length≤100000) (h2:i.steps.length≤100000):PRet C.P 72 [inA i] (inA i):=by
 have c1:=clone111_spec i.cs h1;have c2:=clone112_spec i.steps h2;refine pret_of ok mixed (A:=A72) 2 Tryz.func72 rfl ?_
 (repeat' (first|exact rfl|((conv=>whnf);first|exact rfl|refine ⟨by kernel_rfl,?_⟩|exact ⟨rfl,rfl⟩|refine go0 ?_|(intro ep)|refine ⟨_,c1,?_⟩|refine ⟨_,c2,?_⟩|fail)))
def A74:Ann:=fun r=>match r with
 |0=>{ slots:=[(0,0),(1,1)] }
 |_=>{}
theorem copied_spec (e:Evt) (h1:e.stops.length≤100000):PRet C.P 74 [.agg (evR e)] (.agg (evR e)):=by
 have c1:=clone113_spec e.stops h1;refine pret_of ok mixed (A:=A74) 2 Tryz.func74 rfl ?_
 (repeat' (first|exact rfl|((conv=>whnf);first|exact rfl|refine ⟨by kernel_rfl,?_⟩|exact ⟨rfl,rfl⟩|refine go0 ?_|(intro ep)|refine ⟨_,c1,?_⟩|fail)))
end Go.Ab.V
