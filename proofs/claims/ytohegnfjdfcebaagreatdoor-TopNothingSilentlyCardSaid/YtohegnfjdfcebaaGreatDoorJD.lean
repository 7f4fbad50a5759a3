/-
  What is proved here serves the law's text: each part says its own claim and its conditions. No condition is left open.
-/
import Derived.Test.YtohegnfjdfcebaaGreatDoorJC
import Derived.Test.YtohegnfjdfcebaaGreatDoorKV
import Derived.Test.YtohegnfjdfcebaaGreatDoorKP
set_option maxHeartbeats 32000000
set_option maxRecDepth 100000
set_option linter.unusedSimpArgs false
set_option linter.unusedVariables false

namespace Go.Ab.V
open Go.Proofs
theorem lk1_len (b:Bool) (e c w:Int):(lk1 b e c w).length≤1:=by unfold lk1;split<;>simp
theorem say_call {o0 o3 o4:AObj} {e1 e2 e5:Nat} {ev c w:Int} {b:Bool} {l:List Lck} {dy:List AObj} (hl:l.length≤100000) {K:AV→Heap→Prop}
  (hk:∀e5' l' rest,l'=l++lk1 b ev c w→l'.length≤l.length+1→K (.tup []) ⟨[o0,.vec e1 [[.int .i64 ev]],.vec e2 [[ocA 5 e5' l']],o3,o4,ocO e5' l']++rest,dy⟩):
  ACalls C.P 101 [.bool b,.int .i64 c,.int .i64 w,.optr (.s 2) e2 1 0 0,.optr (.s 1) e1 1 0 0] ⟨[o0,.vec e1 [[.int .i64 ev]],.vec e2 [[ocA 5 e5 l]],o3,o4,ocO e5 l],dy⟩ K:=
 (say_acalls o0 o3 o4 e1 e2 e5 ev c w b l dy hl (K:=fun r h=>r= .tup []∧∃e5',h=⟨[o0,.vec e1 [[.int .i64 ev]],.vec e2 [[ocA 5 e5' (l++lk1 b ev c w)]],o3,o4,ocO e5' (l++lk1 b ev c w)],dy⟩) fun e=>⟨rfl,e,rfl⟩).mono fun r h' ⟨e1,e5',e2⟩=>by
  obtain ⟨rest,rfl⟩:=trunc_ex e2;subst e1;exact hk e5' _ rest rfl (by rw [List.length_append];have:=lk1_len b ev c w;omega)
theorem say_first {o0 o3 o4:AObj} {e1 e2:Nat} {ev c w:Int} {b:Bool} {dy:List AObj} {K:AV→Heap→Prop}
  (hk:∀e5' l' rest,l'=lk1 b ev c w→l'.length≤1→K (.tup []) ⟨[o0,.vec e1 [[.int .i64 ev]],.vec e2 [[ocA 5 e5' l']],o3,o4,ocO e5' l']++rest,dy⟩):
  ACalls C.P 101 [.bool b,.int .i64 c,.int .i64 w,.optr (.s 2) e2 1 0 0,.optr (.s 1) e1 1 0 0] ⟨[o0,.vec e1 [[.int .i64 ev]],.vec e2 [[.nils]],o3,o4,.hole],dy⟩ K:=
 say_call (e5:=0) (l:=[]) (by simp) fun e5' l' rest e e2=>hk e5' l' rest (by rw [e];rfl) (by simpa using e2)
def A66:Ann:=fun r=>match r with
 |0=>{ slots:=[(0,0),(1,1)] }
 |1=>{ slots:=[(0,2)] }
 |3=>{ slots:=[(5,3)] }
 |14=>{ slots:=[(2,4)] }
 |22=>{ canon:=some [0,1,2,3,4,5,6,8,9,10,7,11,12,13,14,15,16] }
 |_=>{}
theorem ofP {P:Program} {f:FuncId} {args:List AV} {h:Heap} {K:AV→Heap→Prop} (hc:ACallsP P f args h K fun _ _ _=>False):ACalls P f args h K:=
 ⟨fun σ w vs s v=>(hc.use σ w vs s v).mono fun e w' x=>x.elim (fun x=>x) fun ⟨_,_,_,_,_,k,_⟩=>k.elim⟩
theorem lacks66 (y:Sy) (p:Pc) (hp:p.Ok) (i:Nat) (e:Evt) (he:p.evs[i]? =some e) (hs:∀s∈e.stops,s.In) (hn:e.stops.length≤1000) (hi:i≤100000):
  ACalls C.P 66 [y.a,pcA p,.int .i64 i] Heap.nil fun r h'=>∃e5,r=ocA 5 e5 (lackEv y p.evs i e)∧h'[Id.s 5]? =some (ocO e5 (lackEv y p.evs i e)):=by
 have h6:=has_spec y 6;have h5:=has_spec y 5;have h7:=has_spec y 7;have h8:=has_spec y 8;have hev:(p.evs.map evR)[0+((i:Nat):Int).toNat]? =some (evR e):=by
  rw [Nat.zero_add,Int.toNat_natCast,List.getElem?_map,he];rfl
 have hlt:=(List.getElem?_eq_some_iff.1 he).1;obtain ⟨bar,v,d,t,tie,stops⟩:=e;dsimp only at hs hn;obtain ⟨TT,hTT⟩:∃TT,TT=lackEv y p.evs i ⟨bar,v,d,t,tie,stops⟩:=⟨_,rfl⟩;rw [←hTT];unfold lackEv lackHd at hTT;dsimp only at hTT;refine ofP (fnPW_of ok 6 Tryz.func66 rfl ?_);refine wk_seq (wkA ok mixed (A:=A66) ?_)
 (repeat' (first|exact rfl|((conv=>whnf);first|exact rfl|exact ⟨rfl,rfl⟩|refine go1 ?_|(intro ep)|fail)));(conv=>whnf)
 rename_i e0;obtain ⟨e1,he1⟩:∃e,e=ep:=⟨_,rfl⟩;subst he1;refine wk_seq (wkA ok mixed (A:=A66) ?_)
 (repeat' (first|exact rfl|((conv=>whnf);first|exact rfl|exact ⟨rfl,rfl⟩|refine go1 ?_|(intro ep)|fail)));(conv=>whnf)
 obtain ⟨e2,he2⟩:∃e,e=ep:=⟨_,rfl⟩;subst he2;refine wk_seq (wkA ok mixed (A:=A66) ?_)
 (repeat' (first|exact rfl|((conv=>whnf);first|exact rfl|exact ⟨rfl,rfl⟩|refine go1 ?_|(intro ep)|fail)));(conv=>whnf)
 refine wk_seq (wkA ok mixed (A:=A66) ?_)
 (repeat' (first|exact rfl|((conv=>whnf);first|(refine optS hev ?_)|exact rfl|exact ⟨rfl,rfl⟩|refine go1 ?_|(intro ep)|fail)))
 (conv=>whnf);obtain ⟨e3,he3⟩:∃e,e=ep:=⟨_,rfl⟩;subst he3;refine wk_cut [0,4,5,7,8,9] [0,1,2,3,5] (S:={ z:Nat×List Lck // z.2=(if v=0 then lk1 (hasS y 6) i 0 6 else [])∧z.2.length≤1 }) (fun z=>frOf 0 124 [(0,y.a),(4,.optr (.s 0) e0 3 0 0),(5,.optr (.s 1) e1 1 0 0),(7,.optr (.s 2) e2 1 0 0),(8,.fn (.func 101) [] [.optr (.s 2) e2 1 0 0,.optr (.s 1) e1 1 0 0]),(9,.optr (.s 3) e3 6 0 0)]) (fun z=>⟨[.vec e0 [[crsA p.ins.cs,intsA p.ins.steps,evsA p.evs]],.vec e1 [[.int .i64 i]],.vec e2 [[ocA 5 z.1.1 z.1.2]],.vec e3 [[.bool bar,.int .i64 v,.bool d,.bool t,.bool tie,stsA stops]],.hole,ocO z.1.1 z.1.2],[]⟩) (wkA ok mixed (A:=A66) ?_) ?_
 ·by_cases hv:v=0
  ·rw [if_pos hv]
   (repeat' (first|exact rfl|((conv=>whnf);first|(refine ⟨_,_,has_mo y,h6,?_⟩)|(refine say_first fun e5 l1 rest hl1 hn1=>?_;exact back_of ⟨(e5,l1),hl1,hn1⟩ ⟨rfl,rfl⟩)|(exact absurd hv hb)|exact rfl|exact ⟨rfl,rfl⟩|refine go1 ?_|(intro ep)|(refine ifB ?_ ?_<;>intro hb<;>(try simp only [qs] at hb)<;>(try simp (disch:=omega) only [wrapI] at hb)<;>(try (exfalso;omega)))|fail)))
  ·rw [if_neg hv]
   (repeat' (first|exact back_of ⟨(0,[]),rfl,by simp⟩ ⟨rfl,rfl⟩|exact rfl|((conv=>whnf);first|(exact absurd hb hv)|exact rfl|exact ⟨rfl,rfl⟩|refine go1 ?_|(intro ep)|(refine ifB ?_ ?_<;>intro hb<;>(try simp only [qs] at hb)<;>(try simp (disch:=omega) only [wrapI] at hb)<;>(try (exfalso;omega)))|fail)))
 rintro ⟨⟨e5,l⟩,hl,hll⟩;dsimp only at hl hll;dsimp only;refine wk_cut [0,4,5,7,8,9] [0,1,2,3,5] (S:={ z:Nat×List Lck // z.2=l++(if t=true then lk1 (hasS y 5) i 0 5 else [])∧z.2.length≤2 }) (fun z=>frOf 0 124 [(0,y.a),(4,.optr (.s 0) e0 3 0 0),(5,.optr (.s 1) e1 1 0 0),(7,.optr (.s 2) e2 1 0 0),(8,.fn (.func 101) [] [.optr (.s 2) e2 1 0 0,.optr (.s 1) e1 1 0 0]),(9,.optr (.s 3) e3 6 0 0)]) (fun z=>⟨[.vec e0 [[crsA p.ins.cs,intsA p.ins.steps,evsA p.evs]],.vec e1 [[.int .i64 i]],.vec e2 [[ocA 5 z.1.1 z.1.2]],.vec e3 [[.bool bar,.int .i64 v,.bool d,.bool t,.bool tie,stsA stops]],.hole,ocO z.1.1 z.1.2],[]⟩) (wkA ok mixed (A:=A66) ?_) ?_
 ·cases t with
  |true=>
   rw [if_pos rfl]
   (repeat' (first|exact rfl|((conv=>whnf);first|(refine ⟨_,_,has_mo y,h5,?_⟩)|(refine say_call (by omega) fun e5 l1 rest hl1 hn1=>?_;exact back_of ⟨(e5,l1),hl1,by dsimp only;omega⟩ ⟨rfl,rfl⟩)|exact rfl|exact ⟨rfl,rfl⟩|refine go1 ?_|(intro ep)|(refine ifB ?_ ?_<;>intro hb<;>(try simp only [qs] at hb)<;>(try simp (disch:=omega) only [wrapI] at hb)<;>(try (exfalso;omega)))|fail)))
  |false=>
   rw [if_neg (by decide),List.append_nil]
   (repeat' (first|exact back_of ⟨(e5,l),rfl,by dsimp only;omega⟩ ⟨rfl,rfl⟩|exact rfl|((conv=>whnf);first|exact rfl|exact ⟨rfl,rfl⟩|refine go1 ?_|(intro ep)|(refine ifB ?_ ?_<;>intro hb<;>(try simp only [qs] at hb)<;>(try simp (disch:=omega) only [wrapI] at hb)<;>(try (exfalso;omega)))|fail)))
 rintro ⟨⟨e5,l⟩,hl2,hll⟩;dsimp only at hl2 hll;dsimp only;rw [←hl,←hl2] at hTT;refine wk_cut [0,4,5,7,8,9] [0,1,2,3,5] (S:={ z:Nat×List Lck // z.2=l++(if tie=true then lk1 (hasS y 7) i 0 7 else if (stops.length:Int)=0 then lk1 (hasS y 8) i 0 8 else [])∧z.2.length≤3 }) (fun z=>frOf 0 124 [(0,y.a),(4,.optr (.s 0) e0 3 0 0),(5,.optr (.s 1) e1 1 0 0),(7,.optr (.s 2) e2 1 0 0),(8,.fn (.func 101) [] [.optr (.s 2) e2 1 0 0,.optr (.s 1) e1 1 0 0]),(9,.optr (.s 3) e3 6 0 0)]) (fun z=>⟨[.vec e0 [[crsA p.ins.cs,intsA p.ins.steps,evsA p.evs]],.vec e1 [[.int .i64 i]],.vec e2 [[ocA 5 z.1.1 z.1.2]],.vec e3 [[.bool bar,.int .i64 v,.bool d,.bool t,.bool tie,stsA stops]],.hole,ocO z.1.1 z.1.2],[]⟩) (wkA ok mixed (A:=A66) ?_) ?_
 ·cases tie with
  |true=>
   rw [if_pos rfl]
   (repeat' (first|exact rfl|((conv=>whnf);first|(refine ⟨_,_,has_mo y,h7,?_⟩)|(refine say_call (by omega) fun e5 l1 rest hl1 hn1=>?_;exact back_of ⟨(e5,l1),hl1,by dsimp only;omega⟩ ⟨rfl,rfl⟩)|exact rfl|exact ⟨rfl,rfl⟩|refine go1 ?_|(intro ep)|(refine ifB ?_ ?_<;>intro hb<;>(try simp only [qs] at hb)<;>(try simp (disch:=omega) only [wrapI] at hb)<;>(try (exfalso;omega)))|fail)))
  |false=>
   rw [if_neg (by decide)];by_cases hz:(stops.length:Int)=0
   ·rw [if_pos hz]
    (repeat' (first|exact rfl|((conv=>whnf);first|(refine ⟨_,_,has_mo y,h8,?_⟩)|(refine say_call (by omega) fun e5 l1 rest hl1 hn1=>?_;exact back_of ⟨(e5,l1),hl1,by dsimp only;omega⟩ ⟨rfl,rfl⟩)|(exact absurd hz hb)|exact rfl|exact ⟨rfl,rfl⟩|refine go1 ?_|(intro ep)|(refine ifB ?_ ?_<;>intro hb<;>(try simp only [qs] at hb)<;>(try simp (disch:=omega) only [wrapI] at hb)<;>(try (exfalso;omega)))|fail)))
   ·rw [if_neg hz,List.append_nil]
    (repeat' (first|exact back_of ⟨(e5,l),rfl,by dsimp only;omega⟩ ⟨rfl,rfl⟩|exact rfl|((conv=>whnf);first|(exact absurd hb hz)|exact rfl|exact ⟨rfl,rfl⟩|refine go1 ?_|(intro ep)|(refine ifB ?_ ?_<;>intro hb<;>(try simp only [qs] at hb)<;>(try simp (disch:=omega) only [wrapI] at hb)<;>(try (exfalso;omega)))|fail)))
 rintro ⟨⟨e5,H⟩,hl3,hll⟩;dsimp only at hl3 hll;dsimp only;rw [←hl3] at hTT;refine wk_cut [7] [2,5] (S:=Nat) (fun e5=>frOf 0 124 [(7,.optr (.s 2) e2 1 0 0)]) (fun e5=>⟨[.hole,.hole,.vec e2 [[ocA 5 e5 TT]],.hole,.hole,ocO e5 TT],[]⟩) ?_ fun e5=>?_
 ·refine wk_seq (wkA ok mixed (A:=A66) ?_)
  (repeat' (first|exact rfl|((conv=>whnf);first|exact rfl|exact ⟨rfl,rfl⟩|refine go1 ?_|(intro ep)|fail)));(conv=>whnf)
  refine wk_block (loopK [0,4,5,7,8,56,57,58] [0,1,2,5] (S:={ x:Nat×Nat×List Lck // x.1≤stops.length∧x.2.2=H++(stops.take x.1).flatMap (lackSt y p.evs i)∧x.2.2.length≤3+3 * x.1 })
   (fun s=>frOf 0 124 [(0,y.a),(4,.optr (.s 0) e0 3 0 0),(5,.optr (.s 1) e1 1 0 0),(7,.optr (.s 2) e2 1 0 0),(8,.fn (.func 101) [] [.optr (.s 2) e2 1 0 0,.optr (.s 1) e1 1 0 0]),(56,stsA stops),(57,.int .i64 stops.length),(58,.int .i64 (s.1.1:Int))])
   (fun s=>⟨[.vec e0 [[crsA p.ins.cs,intsA p.ins.steps,evsA p.evs]],.vec e1 [[.int .i64 i]],.vec e2 [[ocA 5 s.1.2.1 s.1.2.2]],.hole,.hole,ocO s.1.2.1 s.1.2.2],[]⟩) (fun s=>stops.length-s.1.1) ⟨(0,e5,H),by simp,by simp,by dsimp only;omega⟩ rfl rfl ?_)
  rintro ⟨⟨k,e5,L⟩,hk,hL,hLn⟩;dsimp only at hk hL hLn;dsimp only;refine wk_seq (wkA ok mixed (A:=A66) ?_)
  (repeat' (first|exact rfl|((conv=>whnf);first|exact rfl|exact ⟨rfl,rfl⟩|refine go1 ?_|(intro ep)|fail)));(conv=>whnf)
  by_cases h1:k<stops.length
  ·refine wk_seq (wk_cond (t:=true) (by show AV.bool (decide ((k:Int)<(stops.length:Int)))=_;rw [decide_eq_true (by omega)]) (wk_skip ?_));(conv=>whnf);have hm:=mapR (f:=stR) h1;have hin:=hs _ (List.getElem_mem h1);have hwk:IntKind.i64.wrap ((k:Int)+1)=((k+1:Nat):Int):=by simp (disch:=omega) only [wrapI];omega
   have htk:(stops.take (k+1)).flatMap (lackSt y p.evs i)=(stops.take k).flatMap (lackSt y p.evs i)++lackSt y p.evs i stops[k]:=by
    rw [List.take_add_one,List.getElem?_eq_getElem h1,List.flatMap_append];simp
   generalize stops[k]=s at hm hin htk;have a1:=sym_spec y s.c s.f hin.c1 hin.c2 hin.f1 hin.f2;have a2:=rgt_spec y s.r;have a3:=grc_spec y s.g;have a4:=hld_spec y s.h (longest p.evs i s.c) hin.h1 hin.h2;have a5:=longest_spec p hp i s.c;have hls:lackSt y p.evs i s=if (symS y s.c s.f).2=true then lk1 (rgtS y s.r).2 i s.c 2++lk1 (grcS y s.g).2 i s.c 3++lk1 (hldS y s.h (longest p.evs i s.c)).2 i s.c 4 else [⟨i,s.c,1⟩]:=rfl
   generalize symS y s.c s.f=p1 at a1 hls;generalize rgtS y s.r=p2 at a2 hls;generalize grcS y s.g=p3 at a3 hls;generalize hldS y s.h (longest p.evs i s.c)=p4 at a4 hls;obtain ⟨w1,b1⟩:=p1;obtain ⟨w2,b2⟩:=p2;obtain ⟨w3,b3⟩:=p3;obtain ⟨w4,b4⟩:=p4;refine wk_seq (wk_block ?_);refine wk_seq (wkA ok mixed (A:=A66) ?_)
   (repeat' (first|exact rfl|((conv=>whnf);first|(refine optS hm ?_)|exact rfl|exact ⟨rfl,rfl⟩|refine go1 ?_|(intro ep)|fail)))
   (conv=>whnf);refine wk_seq (wkA ok mixed (A:=A66) ?_)
   (repeat' (first|exact rfl|((conv=>whnf);first|(refine ⟨_,_,sym_mo y,a1,?_⟩)|exact rfl|exact ⟨rfl,rfl⟩|refine go1 ?_|(intro ep)|fail)))
   (conv=>whnf);cases b1 with
   |false=>
    rw [if_neg (by simp)] at hls
    (repeat' (first|exact rfl|((conv=>whnf);first|(refine say_call (by omega) fun e6 l2 rest hl2 hn2=>?_)|exact rfl|exact ⟨rfl,rfl⟩|refine go1 ?_|(intro ep)|fail)))
    (conv=>whnf);refine wkA ok mixed (A:=A66) ?_
    (repeat' (first|exact rfl|((conv=>whnf);first|(rw [hwk])|exact rfl|exact ⟨rfl,rfl⟩|refine go1 ?_|(intro ep)|fail)))
    (conv=>whnf);exact back_of ⟨(k+1,e6,l2),h1,by dsimp only;rw [hl2,hL,htk,hls,List.append_assoc];rfl,by dsimp only;omega⟩ ⟨rfl,rfl,by dsimp only;omega⟩
   |true=>
    rw [if_pos rfl] at hls;(conv=>whnf);refine wkA ok mixed (A:=A66) ?_
    (repeat' (first|exact rfl|((conv=>whnf);first|(refine ⟨_,_,rgt_mo y,a2,?_⟩)|(refine ⟨_,_,grc_mo y,a3,?_⟩)|(refine ⟨_,_,hld_mo y,a4,?_⟩)|(refine ⟨hld_nil y,?_⟩)|(refine ⟨_,a5,?_⟩)|(refine say_call (by omega) fun e6 l2 rest hl2 hn2=>?_)|exact rfl|exact ⟨rfl,rfl⟩|refine go1 ?_|(intro ep)|(refine ifB ?_ ?_<;>intro hb<;>(try simp only [qs] at hb)<;>(try simp (disch:=omega) only [wrapI] at hb)<;>(try (exfalso;omega)))|fail)))
    (conv=>whnf);rename_i ea la ra hla hna eb lb rb hlb hnb;refine wkA ok mixed (A:=A66) ?_
    (repeat' (first|exact rfl|((conv=>whnf);first|(rw [hwk])|exact rfl|exact ⟨rfl,rfl⟩|refine go1 ?_|(intro ep)|fail)))
    (conv=>whnf);exact back_of ⟨(k+1,e6,l2),h1,by dsimp only;rw [hl2,hlb,hla,hL,htk,hls];simp only [List.append_assoc],by dsimp only;omega⟩ ⟨rfl,rfl,by dsimp only;omega⟩
  ·refine wk_seq (wk_cond (t:=false) (by show AV.bool (decide ((k:Int)<(stops.length:Int)))=_;rw [decide_eq_false (by omega)]) (wk_exit ?_));obtain rfl:k=stops.length:=by omega
   rw [List.take_length,←hTT] at hL;subst hL;(conv=>whnf);exact back_of e5 ⟨rfl,rfl⟩
 refine wkA ok mixed (A:=A66) ?_;clear hTT;cases TT with
 |nil=>(repeat' (first|exact ⟨e5,rfl,rfl⟩|exact rfl|((conv=>whnf);first|exact rfl|exact ⟨rfl,rfl⟩|refine go1 ?_|(intro ep)|fail)))
 |cons a r=>(repeat' (first|exact ⟨e5,rfl,rfl⟩|exact rfl|((conv=>whnf);first|exact rfl|exact ⟨rfl,rfl⟩|refine go1 ?_|(intro ep)|fail)))
theorem lacks_spec (y:Sy) (p:Pc) (hp:p.Ok) (i:Nat) (e:Evt) (he:p.evs[i]? =some e) (hs:∀s∈e.stops,s.In) (hn:e.stops.length≤1000) (hi:i≤100000):
  PRet C.P 66 [y.a,pcA p,.int .i64 i] (lksA (lackEv y p.evs i e)):=by
 refine PRet.of_freeze rfl (fun h=>rfl) ((lacks66 y p hp i e he hs hn hi).mono fun r h' ⟨e5,hr,ho⟩ σ σ' x fz hv=>?_);subst hr;generalize lackEv y p.evs i e=L at ho hv;cases L with
 |nil=>cases hv;exact .lnil
 |cons a r=>
  have h1:=fz.obj (.s 5) e5 ((a::r).map lkR) ((a::r).map lkR) ho ⟨Nat.le_refl _,fun i r' hr=>⟨r',hr,rfl,fun j c' hc=>⟨c',hc,fun u hu=>fz.pure1 ?_ hu⟩⟩⟩ 3 0 (r.length+1) false x hv
  ·exact h1.mono0 ⟨fun _ _ _ z=>by simp at z,fun _ _ z=>z⟩
  ·obtain ⟨z,_,rfl⟩:=List.mem_map.1 (List.mem_of_getElem? hr);have:=List.mem_of_getElem? hc;simp only [lkR,List.mem_cons,List.not_mem_nil,or_false] at this
   rcases this with rfl|rfl|rfl<;>rfl

theorem chkEvs_iff {p:Pc}:∀{l:List Evt} {k:Nat},chkEvs p k l=0↔∀j (h:j<l.length),chkEv p (k+j) l[j]=0
 | [],k=>by simp [chkEvs]
 |e::r,k=>by
  unfold chkEvs
  constructor
  ·intro h j hj
   split at h
   ·rename_i h0;cases j with
    |zero=>exact h0
    |succ j=>
     have:=(chkEvs_iff.1 h) j (by simpa using hj);rw [show k+(j+1)=k+1+j by omega];exact this
   ·rename_i h0;exact absurd h h0
  ·intro h;have h0:chkEv p k e=0:=h 0 (by simp);rw [if_pos h0];refine chkEvs_iff.2 fun j hj=>?_;have:=h (j+1) (by simpa using hj);rw [show k+1+j=k+(j+1) by omega];exact this
theorem chk_iff {p:Pc}:chk p=0↔chkIn p.ins=0∧p.evs.length≤400∧∀j (h:j<p.evs.length),chkEv p j p.evs[j]=0:=by
 unfold chk
 constructor
 ·intro h
  split at h
  ·rename_i h1
   split at h
   ·cases h
   ·refine ⟨h1,by omega,fun j hj=>?_⟩;have:=chkEvs_iff.1 h j hj
    rwa [Nat.zero_add] at this
  ·rename_i h1;exact absurd h h1
 ·rintro ⟨h1,h2,h3⟩;rw [if_pos h1,if_neg (by omega)];refine chkEvs_iff.2 fun j hj=>?_;rw [Nat.zero_add];exact h3 j hj
def StpsOk (i:Ins) (lg:Int→Int):Int→List Stp→Prop
 |_,[]=>True
 |last,s::r=>chkStop i (lg s.c) s last=0∧StpsOk i lg s.c r
theorem chkStops_iff {p:Pc} {k:Nat}:∀{l:List Stp} {last:Int},chkStops p k last l=0↔StpsOk p.ins (fun c=>longest p.evs k c) last l
 | [],last=>by simp [chkStops,StpsOk]
 |s::r,last=>by
  unfold chkStops StpsOk
  constructor
  ·intro h
   split at h
   ·rename_i h0;exact ⟨h0,chkStops_iff.1 h⟩
   ·rename_i h0;exact absurd h h0
  ·rintro ⟨h0,h⟩;rw [if_pos h0];exact chkStops_iff.2 h
theorem chkEv_iff {p:Pc} {k:Nat} {e:Evt}:chkEv p k e=0↔right e.v e.d e.t=true∧¬(k=0∧e.v=0)∧¬(e.tie=true∧(k=0∨0<e.stops.length))∧StpsOk p.ins (fun c=>longest p.evs k c) 0 e.stops:=by
 unfold chkEv
 constructor
 ·intro h
  split at h
  ·cases h
  ·rename_i h1
   split at h
   ·cases h
   ·rename_i h2;refine ⟨?_,fun x=>h1 (.inr x),h2,chkStops_iff.1 h⟩;cases hr:right e.v e.d e.t
    ·exact absurd (.inl hr) h1
    ·rfl
 ·rintro ⟨h1,h2,h3,h4⟩;rw [if_neg (by rintro (h|h)<;>first|(rw [h1] at h;cases h;done)|exact h2 h),if_neg h3];exact chkStops_iff.2 h4
theorem chkStop_iff {i:Ins} {lg last:Int} {s:Stp}:chkStop i lg s last=0↔(1≤s.c∧s.c≤i.cs.length)∧(0≤s.f∧s.f≤fretsOf i s.c)∧last<s.c∧(0≤s.r∧s.r≤3∧0≤s.g∧s.g≤4)∧(0≤s.h∧s.h≤lg∧(0<s.h→s.f≠0)):=by
 unfold chkStop
 constructor
 ·intro h
  repeat' (split at h;· cases h)
  omega
 ·intro h;rw [if_neg (by omega),if_neg (by omega),if_neg (by omega),if_neg (by omega),if_neg (by omega)]
theorem longL_len (c:Int):∀(n:Nat) (l:List Evt),longL c n l≤l.length
 |0,_=>by simp [longL]
 |n+1,[]=>by simp [longL]
 |n+1,e::r=>by
  simp only [longL,List.length_cons]
  split
  ·omega
  ·have:=longL_len c n r;omega
theorem longest_at {l:List Evt} {k:Nat} (h:k<l.length) (c:Int):longest l k c=(longL c 15 (l.drop (k+1)):Nat):=by
 unfold longest;rw [if_neg (by omega)]
 congr 3
theorem stps_h {i:Ins} {lg:Int→Int} {b:Int} (h:∀c,lg c≤b):∀{l:List Stp} {last:Int},StpsOk i lg last l→∀s∈l,0≤s.h∧s.h≤b
 | [],_,_,s,hs=>by cases hs
 |a::r,last,⟨h1,h2⟩,s,hs=>by
  rcases List.mem_cons.1 hs with rfl|hs
  ·rw [chkStop_iff] at h1;have:=h s.c;omega
  ·exact stps_h h h2 s hs
theorem chk_holds {p:Pc} (hc:chk p=0) {k:Nat} (h:k<p.evs.length):∀s∈(p.evs[k]).stops,0≤s.h∧k+1+s.h.toNat≤p.evs.length:=by
 intro s hs;have h1:=(chkEv_iff.1 ((chk_iff.1 hc).2.2 k h)).2.2.2;have:=stps_h (b:=((p.evs.length-(k+1):Nat):Int)) (fun c=>by
  rw [longest_at h];have:=longL_len c 15 (p.evs.drop (k+1));rw [List.length_drop] at this;omega) h1 s hs
 omega
theorem stps_mem {i:Ins} {lg:Int→Int}:∀{l:List Stp} {last:Int},StpsOk i lg last l→∀s∈l,(1≤s.c∧s.c≤i.cs.length)∧(0≤s.f∧s.f≤fretsOf i s.c)∧last<s.c∧(0≤s.h∧s.h≤lg s.c∧(0<s.h→s.f≠0))
 | [],_,_,s,hs=>by cases hs
 |a::r,last,⟨h1,h2⟩,s,hs=>by
  rw [chkStop_iff] at h1
  rcases List.mem_cons.1 hs with rfl|hs
  ·omega
  ·have:=stps_mem h2 s hs;omega
theorem stps_asc {i:Ins} {lg:Int→Int}:∀{l:List Stp} {last:Int},StpsOk i lg last l→l.Pairwise (fun a b=>a.c<b.c)
 | [],_,_=>.nil
 |a::r,last,⟨h1,h2⟩=>List.pairwise_cons.2 ⟨fun s hs=>(stps_mem h2 s hs).2.2.1,stps_asc h2⟩
theorem stps_len {i:Ins} {lg:Int→Int}:∀{l:List Stp} {last:Int},StpsOk i lg last l→last≤i.cs.length→(l.length:Int)+last≤i.cs.length
 | [],_,_,h=>by simpa using h
 |a::r,last,⟨h1,h2⟩,h=>by
  rw [chkStop_iff] at h1;have:=stps_len h2 (by omega);rw [List.length_cons];omega
theorem chkCs_iff {steps:List Int}:∀{l:List Crs},chkCs steps l=0→∀c∈l,(0≤c.frets∧c.frets≤steps.length)∧(0≤c.pitch∧c.pitch≤127)∧highest steps c≤127
 | [],_,c,hc=>by cases hc
 |a::r,h,c,hc=>by
  unfold chkCs at h
  repeat' (split at h;· cases h)
  rcases List.mem_cons.1 hc with rfl|hc
  ·omega
  ·exact chkCs_iff h c hc
theorem chkIn_iff {i:Ins} (h:chkIn i=0):(1≤i.cs.length∧i.cs.length≤14∧i.steps.length≤18)∧chkSteps 0 i.steps=true∧∀c∈i.cs,(0≤c.frets∧c.frets≤i.steps.length)∧(0≤c.pitch∧c.pitch≤127)∧highest i.steps c≤127:=by
 unfold chkIn at h
 repeat' (split at h;· cases h)
 rename_i h1 h2 h3;exact ⟨by omega,by simpa using h3,chkCs_iff h⟩
structure Vp (p:Pc):Prop where
 len:p.evs.length≤400
 cs:1≤p.ins.cs.length∧p.ins.cs.length≤14
 steps:p.ins.steps.length≤18
 chkI:chkIn p.ins=0
 crs:∀c∈p.ins.cs,(0≤c.frets∧c.frets≤p.ins.steps.length)∧(0≤c.pitch∧c.pitch≤127)∧highest p.ins.steps c≤127
 stp:∀x∈p.ins.steps,0<x∧x≤127
 sp:∀k (h:k<p.evs.length),∀s∈p.evs[k].stops,(1≤s.c∧s.c≤p.ins.cs.length)∧(0≤s.f∧s.f≤fretsOf p.ins s.c)∧(0≤s.h∧s.h≤longest p.evs k s.c∧(0<s.h→s.f≠0))∧k+1+s.h.toNat≤p.evs.length
 asc:∀k (h:k<p.evs.length),p.evs[k].stops.Pairwise (fun a b=>a.c<b.c)
 sl:∀k (h:k<p.evs.length),p.evs[k].stops.length≤14
 tie:∀k (h:k<p.evs.length),p.evs[k].tie=true→k≠0∧p.evs[k].stops=[]
theorem vp {p:Pc} (hc:chk p=0):Vp p:=by
 obtain ⟨h1,h2,h3⟩:=chk_iff.1 hc;obtain ⟨i1,i2,i3⟩:=chkIn_iff h1;have hs:∀k (h:k<p.evs.length),StpsOk p.ins (fun c=>longest p.evs k c) 0 p.evs[k].stops:=fun k h=>(chkEv_iff.1 (h3 k h)).2.2.2;refine ⟨h2,⟨i1.1,i1.2.1⟩,i1.2.2,h1,i3,chkSteps_bd _ _ i2,fun k h s hm=>?_,fun k h=>stps_asc (hs k h),fun k h=>?_,fun k h ht=>?_⟩
 ·have a:=stps_mem (hs k h) s hm;exact ⟨a.1,a.2.1,a.2.2.2,(chk_holds hc h s hm).2⟩
 ·have:=stps_len (hs k h) (by omega);omega
 ·have a:=(chkEv_iff.1 (h3 k h)).2.2.1;refine ⟨fun h0=>a ⟨ht,.inl h0⟩,?_⟩;cases hx:p.evs[k].stops with
  |nil=>rfl
  |cons x r=>exact absurd ⟨ht,.inr (by rw [hx];simp)⟩ a
theorem stps_marks {i:Ins} {lg:Int→Int}:∀{l:List Stp} {last:Int},StpsOk i lg last l→∀s∈l,0≤s.r∧s.r≤3∧0≤s.g∧s.g≤4
 | [],_,_,s,hm=>by cases hm
 |x::r,last,h,s,hm=>by
  rcases List.mem_cons.1 hm with rfl|hm
  ·exact (chkStop_iff.1 h.1).2.2.2.1
  ·exact stps_marks h.2 s hm
theorem frets_le {p:Pc} (v:Vp p) (c:Int):fretsOf p.ins c≤18:=by
 unfold fretsOf;rw [List.getD];cases hx:p.ins.cs[(c-1).toNat]? with
 |none=>simp
 |some x=>
  have:=(v.crs x (List.mem_of_getElem? hx)).1.2;have:=v.steps;simp only [Option.getD_some];omega
theorem longest_15 (evs:List Evt) (k c:Int):longest evs k c≤15:=by
 unfold longest
 split
 ·omega
 ·have:=longL_le c 15 (evs.drop (k+1).toNat);omega
theorem stp_in {p:Pc} (hc:chk p=0) {k:Nat} (h:k<p.evs.length):∀s∈p.evs[k].stops,s.In:=by
 intro s hm;have v:=vp hc;obtain ⟨a1,a2,a3,_⟩:=v.sp k h s hm;have a4:=frets_le v s.c;have a5:=longest_15 p.evs k s.c;have a6:=v.cs;have hs:=(chkEv_iff.1 ((chk_iff.1 hc).2.2 k h)).2.2.2;obtain ⟨b1,b2,b3,b4⟩:=stps_marks hs s hm;exact ⟨a1.1,by omega,a2.1,by omega,b1,b2,b3,b4,a3.1,by omega⟩
theorem sgn_in {p:Pc} (hc:chk p=0) {k:Nat} (h:k<p.evs.length):0≤p.evs[k].v∧p.evs[k].v≤7:=by
 have a:=(chkEv_iff.1 ((chk_iff.1 hc).2.2 k h)).1;unfold right at a
 split at a
 ·omega
 ·simp only [Bool.and_eq_true,decide_eq_true_eq] at a;omega

def lackAll (y:Sy) (evs:List Evt):Nat→List Evt→List Lck
 |_,[]=>[]
 |i,e::r=>lackEv y evs i e++lackAll y evs (i+1) r
def lacksP (y:Sy) (p:Pc):List Lck:=lackAll y p.evs 0 p.evs
theorem flat_len {α β:Type} {f:α→List β} {n:Nat} (h:∀a,(f a).length≤n):∀l:List α,(l.flatMap f).length≤n * l.length
 | []=>by simp
 |a::l=>by
  have:=flat_len h l;have:=h a;rw [List.flatMap_cons,List.length_append,List.length_cons,Nat.mul_succ];omega
theorem lackSt_len (y:Sy) (evs:List Evt) (i:Int) (s:Stp):(lackSt y evs i s).length≤3:=by
 unfold lackSt
 split
 ·have:=lk1_len (rgtS y s.r).2 i s.c 2;have:=lk1_len (grcS y s.g).2 i s.c 3;have:=lk1_len (hldS y s.h (longest evs i s.c)).2 i s.c 4;simp only [List.length_append];omega
 ·simp
theorem lackHd_len (y:Sy) (i:Int) (e:Evt):(lackHd y i e).length≤3:=by
 unfold lackHd;have a:=lk1_len (hasS y 6) i 0 6;have b:=lk1_len (hasS y 5) i 0 5;have c:=lk1_len (hasS y 7) i 0 7;have d:=lk1_len (hasS y 8) i 0 8;simp only [List.length_append]
 repeat' split
 all_goals (first|omega|(simp only [List.length_nil];omega))
theorem lackEv_len (y:Sy) (evs:List Evt) (i:Int) (e:Evt) (h:e.stops.length≤14):(lackEv y evs i e).length≤45:=by
 unfold lackEv;have:=lackHd_len y i e;have:=flat_len (lackSt_len y evs i) e.stops;rw [List.length_append];omega
theorem lackAll_len (y:Sy) (evs:List Evt):∀(l:List Evt) (i:Nat),(∀e∈l,e.stops.length≤14)→(lackAll y evs i l).length≤45 * l.length
 | [],i,_=>by simp [lackAll]
 |e::r,i,h=>by
  have:=lackAll_len y evs r (i+1) fun e he=>h e (List.mem_cons_of_mem _ he);have:=lackEv_len y evs i e (h e (List.mem_cons_self ..));rw [lackAll,List.length_append,List.length_cons];omega
theorem lackAll_snoc (y:Sy) (evs:List Evt):∀(l:List Evt) (i k:Nat) (h:k<l.length),lackAll y evs i (l.take (k+1))=lackAll y evs i (l.take k)++lackEv y evs (i+k:Nat) l[k]
 |e::r,i,0,h=>by simp [lackAll]
 |e::r,i,k+1,h=>by
  have:=lackAll_snoc y evs r (i+1) k (by simpa using h);rw [List.take_succ_cons,lackAll,this,List.take_succ_cons,lackAll,List.append_assoc];have e1:i+1+k=i+(k+1):=by omega
  rw [e1];rfl
def lksE (y:Sy) (p:Pc):AV:=if chk p≠0 then .tup [.nils,.int .i64 (chk p)] else .tup [lksA (lacksP y p),.int .i64 0]
theorem pure_lkR (l:List Lck):pureRows (l.map lkR):=pure_map l fun x=>rfl
def A31:Ann:=fun r=>match r with
 |0=>{ slots:=[(0,0)] }
 |11=>{ slots:=[(5,1)] }
 |_=>{}
theorem Lacks_spec (y:Sy) (p:Pc) (hp:p.Ok):PRet C.P 31 [.int .u8 y.n,pcA p] (lksE y p):=by
 have h1:=ofy y;have h2:=check_spec p hp;unfold lksE;by_cases hc:chk p=0
 ·rw [if_neg (fun h=>h hc)];have hc2:=hc;obtain ⟨R,hR⟩:∃R,R=lacksP y p:=⟨_,rfl⟩;rw [hc] at h2;rw [←hR];have v:=vp hc;have hev:=v.len;refine pret_of ok mixed (A:=A31) 4 Tryz.func31 rfl ?_
  (repeat' (first|exact rfl|((conv=>whnf);first|(refine ⟨_,h1,?_⟩)|(refine ⟨_,h2,?_⟩)|exact rfl|exact ⟨rfl,rfl⟩|refine go1 ?_|(intro ep)|(refine ifB ?_ ?_<;>intro hb<;>(try simp only [qs] at hb)<;>(try simp (disch:=omega) only [wrapI] at hb)<;>(try (exfalso;omega)))|fail)))
  obtain ⟨e0,he⟩:∃e0,e0=ep:=⟨_,rfl⟩;subst he;(conv=>whnf);refine wk_lift 9 2 3 rfl ?_;intro e2;refine loopY ok mixed (A:=A31) [3,6,9,25,26] [0,2] (S:={ x:Nat×Nat // x.1≤p.evs.length })
   (fr:=fun s=>frOf 0 37 [(3,.optr (.s 0) e0 3 0 0),(6,y.a),(9,.oslc (.s 2) s.1.2 3 0 (lackAll y p.evs 0 (p.evs.take s.1.1)).length false),(25,.int .i64 p.evs.length),(26,.int .i64 (s.1.1:Int))])
   (h:=fun s=>⟨[.vec e0 [[crsA p.ins.cs,intsA p.ins.steps,evsA p.evs]],.hole,.vec s.1.2 ((lackAll y p.evs 0 (p.evs.take s.1.1)).map lkR),.hole],[]⟩) (μ:=fun s=>p.evs.length-s.1.1) ⟨(0,e2),by simp⟩ ?_ ?_
   [9] [2] (S':=Nat) (X:=fun _=>0) (frX:=fun s=>frOf 0 37 [(9,.oslc (.s 2) s 3 0 R.length false)]) (hX:=fun s=>⟨[.hole,.hole,.vec s (R.map lkR),.hole],[]⟩)
   [] [] (S2:={ x:Nat // False }) (frR:=fun s=>frOf 0 37 []) (hR:=fun s=>⟨[],[]⟩) ?_ ?_ ?_
  ·exact rfl
  ·exact rfl
  ·rintro ⟨⟨k,e2⟩,hk⟩;simp only at hk;obtain ⟨L,hL⟩:∃L,L=lackAll y p.evs 0 (p.evs.take k):=⟨_,rfl⟩;show aexR _ _ _ (frOf 0 37 [(3,.optr (.s 0) e0 3 0 0),(6,y.a),(9,.oslc (.s 2) e2 3 0 (lackAll y p.evs 0 (p.evs.take k)).length false),(25,.int .i64 p.evs.length),(26,.int .i64 (k:Int))]) ⟨[.vec e0 [[crsA p.ins.cs,intsA p.ins.steps,evsA p.evs]],.hole,.vec e2 ((lackAll y p.evs 0 (p.evs.take k)).map lkR),.hole],[]⟩ _;rw [←hL];have hLn:L.length≤45 * 400:=by
    have:=lackAll_len y p.evs (p.evs.take k) 0 (fun e he=>by
     obtain ⟨j,hj,rfl⟩:=List.mem_iff_getElem.1 (List.mem_of_mem_take he);exact v.sl j hj)
    rw [←hL] at this;have:(p.evs.take k).length≤400:=by simp;omega
    omega
   (conv=>whnf);refine ifB (fun g1=>?_) (fun g1=>?_)
   ·simp only [decide_eq_true_eq] at g1;have h3:k<p.evs.length:=by omega
    have hl:=lacks_spec y p hp k p.evs[k] (List.getElem?_eq_getElem h3) (stp_in hc2 h3) (by have:=v.sl k h3;omega) (by omega);have hel:=lackEv_len y p.evs k p.evs[k] (v.sl k h3);have hsn:=lackAll_snoc y p.evs p.evs 0 k h3;rw [Nat.zero_add,←hL] at hsn;obtain ⟨E,hE⟩:∃E,E=lackEv y p.evs k p.evs[k]:=⟨_,rfl⟩;rw [←hE] at hl hel hsn;have t1:List.take E.length (E.map lkR)=E.map lkR:=List.take_of_length_le (by simp);have t2:List.take L.length (L.map lkR)=L.map lkR:=List.take_of_length_le (by simp)
    (repeat' (first|exact rfl|((conv=>whnf);first|(refine ⟨_,hl,?_⟩)|(refine ⟨(by show (L.length+(List.take E.length (E.map lkR)).length) * 24≤_;rw [t1,List.length_map];omega),?_⟩)|exact rfl|exact ⟨rfl,rfl⟩|refine go1 ?_|(intro ep)|(refine ifB ?_ ?_<;>intro hb<;>(try simp only [qs] at hb)<;>(try simp (disch:=omega) only [wrapI] at hb)<;>(try (exfalso;omega)))|fail)))
    all_goals (conv=>whnf)
    refine back_of ⟨(k+1,ep),by simp only;omega⟩ ⟨?_,?_,by simp only;omega⟩
    ·have t3:(List.take E.length (List.drop 0 (E.map lkR))).length=E.length:=by rw [List.drop_zero,t1,List.length_map]
     simp only;rw [hsn,List.length_append,t3];(first|exact rfl|(simp (disch:=omega) only [wrapI];exact rfl))
    ·simp only;rw [hsn,List.map_append,List.drop_zero,List.drop_zero,t1,t2];rfl
   ·simp only [decide_eq_false_iff_not] at g1;obtain rfl:k=p.evs.length:=by omega
    rw [List.take_length] at hL;have hLR:L=R:=by rw [hL,hR];rfl
    rw [hLR]
    (repeat' (first|exact rfl|((conv=>whnf);first|exact rfl|exact ⟨rfl,rfl⟩|refine go1 ?_|(intro ep)|(refine ifB ?_ ?_<;>intro hb<;>(try simp only [qs] at hb)<;>(try simp (disch:=omega) only [wrapI] at hb)<;>(try (exfalso;omega)))|fail)))
    all_goals (conv=>whnf)
    all_goals exact back_of e2 ⟨rfl,rfl,rfl⟩
  ·rintro ⟨_,h⟩;exact h.elim
  ·intro e2
   (repeat' (first|exact rfl|((conv=>whnf);first|(refine ⟨rfl,pure_lkR R,?_⟩)|exact ⟨rfl,rfl⟩|exact rfl|exact ⟨rfl,rfl⟩|refine go1 ?_|(intro ep)|fail)))
 ·rw [if_pos hc];refine pret_of ok mixed (A:=A31) 4 Tryz.func31 rfl ?_
  (repeat' (first|exact rfl|((conv=>whnf);first|(refine ⟨_,h1,?_⟩)|(refine ⟨_,h2,?_⟩)|exact rfl|exact ⟨rfl,rfl⟩|refine go1 ?_|(intro ep)|(refine ifB ?_ ?_<;>intro hb<;>(try simp only [qs] at hb)<;>(try simp (disch:=omega) only [wrapI] at hb)<;>(try (exfalso;omega)))|fail)))
def A43:Ann:=fun r=>match r with
 |0=>{ slots:=[(0,0)] }
 |_=>{}
def canP (y:Sy) (p:Pc):Bool:=if chk p≠0 then false else decide ((lacksP y p).length=0)
theorem Can_spec (y:Sy) (p:Pc) (hp:p.Ok):PRet C.P 43 [.int .u8 y.n,pcA p] (.bool (canP y p)):=by
 have h:=Lacks_spec y p hp;unfold lksE at h;unfold canP;by_cases hc:chk p=0
 ·rw [if_neg (fun g=>g hc)] at h ⊢;refine pret_of ok mixed (A:=A43) 1 Tryz.func43 rfl ?_
  (repeat' (first|exact rfl|((conv=>whnf);first|(refine ⟨_,h,?_⟩)|exact rfl|exact ⟨rfl,rfl⟩|refine go1 ?_|(intro ep)|(refine ifB ?_ ?_<;>intro hb<;>(try simp only [qs] at hb)<;>(try simp (disch:=omega) only [wrapI] at hb)<;>(try (exfalso;omega)))|fail)))
  all_goals (refine congrArg AV.bool ?_;cases lacksP y p with
   |nil=>rfl
   |cons a r=>exact (beq_eq_false_iff_ne.2 (by simp only [List.length_cons];omega)).trans (by simp))
 ·rw [if_pos hc] at h ⊢;refine pret_of ok mixed (A:=A43) 1 Tryz.func43 rfl ?_
  (repeat' (first|exact rfl|((conv=>whnf);first|(refine ⟨_,h,?_⟩)|exact rfl|exact ⟨rfl,rfl⟩|refine go1 ?_|(intro ep)|(refine ifB ?_ ?_<;>intro hb<;>(try simp only [qs] at hb)<;>(try simp (disch:=omega) only [wrapI] at hb)<;>(try (exfalso;omega)))|fail)))

def hasL (l:List Lck) (w:Int):Bool:=l.any fun x=>x.w==w
theorem hasL_drop {l:List Lck} {k:Nat} (h:k<l.length) (w:Int):hasL (l.drop k) w=(l[k].w==w||hasL (l.drop (k+1)) w):=by
 rw [drop_at h];rfl
def A32:Ann:=fun r=>match r with
 |0=>{ slots:=[(0,0)] }
 |_=>{}
def A68:Ann:=fun r=>match r with
 |0=>{ slots:=[(0,1)] }
 |_=>{}
theorem has32_spec (l:List Lck) (w:Int) (hl:l.length≤9223372036854775807):PRet C.P 32 [lksA l,.int .i64 w] (.bool (hasL l w)):=by
 refine pret_of (okx [] [67,68,102]) mixed (A:=A32) 2 Tryz.func32 rfl ?_
 (repeat' (first|exact rfl|((conv=>whnf);first|exact rfl|refine ⟨by kernel_rfl,?_⟩|exact ⟨rfl,rfl⟩|refine go0 ?_|(intro ep)|(refine ifB ?_ ?_<;>intro hb<;>(try simp only [qs] at hb)<;>(try simp (disch:=omega) only [wrapI] at hb)<;>(try (exfalso;omega)))|refine fn_of (okx [] [67,68,102]) mixed (A:=fun _=>{}) 0 Tryz.func67 rfl ?_|refine fn_of (okx [] [67,68,102]) mixed (A:=fun _=>{}) 0 Tryz.func102 rfl ?_|fail)))
 obtain ⟨e1,he⟩:∃e1,e1=ep:=⟨_,rfl⟩;subst he;(conv=>whnf);refine loopM (okx [] [67,68,102]) mixed (A:=fun _=>{}) [0,1,7,8] [0] (S:={ k:Nat // k≤l.length∧hasL (l.drop k) w=hasL l w })
  (fr:=fun s=>frOf 0 19 [(0,lksA l),(1,.fn (.func 68) [] [.optr (.s 0) e1 1 0 0]),(7,.int .i64 l.length),(8,.int .i64 (s.1:Int))])
  (h:=fun s=>⟨[.vec e1 [[.int .i64 w]],.hole],[]⟩) (μ:=fun s=>l.length-s.1) ⟨0,by omega,rfl⟩ rfl rfl ?_
 rintro ⟨k,hk,hs⟩;show aexR _ _ _ (frOf 0 19 [(0,lksA l),(1,.fn (.func 68) [] [.optr (.s 0) e1 1 0 0]),(7,.int .i64 l.length),(8,.int .i64 (k:Int))]) ⟨[.vec e1 [[.int .i64 w]],.hole],[]⟩ _;(conv=>whnf);refine ifB (fun h1=>?_) (fun h1=>?_)
 ·simp only [decide_eq_true_eq] at h1;have hlt:k<l.length:=by omega
  rw [hasL_drop hlt] at hs
  (repeat' (first|exact rfl|((conv=>whnf);first|exact rfl|refine ⟨by kernel_rfl,?_⟩|exact ⟨rfl,rfl⟩|refine go0 ?_|(intro ep)|refine optS (mapR hlt) ?_|(refine ifB ?_ ?_<;>intro hb<;>(try simp only [qs] at hb)<;>(try simp (disch:=omega) only [wrapI] at hb)<;>(try (exfalso;omega)))|refine fn_of (okx [] [67,68,102]) mixed (A:=A68) 1 Tryz.func68 rfl ?_|fail)))
  ·rw [←hs,hb];simp
  ·rw [beq_eq_false_iff_ne.2 hb,Bool.false_or] at hs;refine back_of ⟨k+1,by omega,hs⟩ ⟨by (first|exact rfl|(simp (disch:=omega) only [wrapI];exact rfl)),rfl,by simp only;omega⟩
 ·simp only [decide_eq_false_iff_not] at h1;rw [List.drop_eq_nil_of_le (by omega)] at hs
  (repeat' (first|exact rfl|((conv=>whnf);first|exact rfl|refine ⟨by kernel_rfl,?_⟩|exact ⟨rfl,rfl⟩|refine go0 ?_|(intro ep)|(refine ifB ?_ ?_<;>intro hb<;>(try simp only [qs] at hb)<;>(try simp (disch:=omega) only [wrapI] at hb)<;>(try (exfalso;omega)))|fail)))
  all_goals rw [←hs];rfl

theorem PRet.args {P:Program} {f:FuncId} {args args':List AV} {r:AV} (hs:SubL args' args) (h:PRet P f args r):PRet P f args' r:=by
 refine ⟨⟨⟨fun σ w vs s hv=>h.out.out.use σ w vs s ?_⟩⟩⟩;obtain ⟨e,g⟩:=hs.get;refine ⟨by rw [←e];exact hv.1,fun i b v hb hv2=>?_⟩;obtain ⟨a,ha,hab⟩:=g i b hb;exact hab.1 _ _ (hv.2 i a v ha hv2)
theorem pureRows_of {rows:List (List AV)} (h:(rows.all fun r=>r.all AV.pure1)=true):pureRows rows:=
 fun row hr c hc=>List.all_eq_true.1 (List.all_eq_true.1 h row hr) c hc
def in0:Ins:=⟨[⟨60,1,false⟩],[1]⟩
def ev0:Evt:=⟨false,1,false,false,false,[⟨1,0,0,0,0⟩]⟩
def ev1 (tie:Bool):Evt:=⟨false,1,false,false,tie,[]⟩
def pc0 (tie:Bool):Pc:=⟨in0,[ev0,ev1 tie]⟩
def ev1R (tie:Bool):List AV:=[.bool false,.int .i64 1,.bool false,.bool false,.bool tie,.nils]
def saysS (y:Sy) (tie:Bool) (w:Int):Bool:=!hasL (lacksP y (pc0 tie)) w
def A35:Ann:=fun r=>match r with
 |0=>{ slots:=[(0,0)] }
 |1=>{ slots:=[(1,1),(2,2),(4,3)],frz:=[1001,1002] }
 |2=>{ slots:=[(2,4),(4,5)],frz:=[1004] }
 |3=>{ slots:=[(4,6)] }
 |_=>{}
theorem pc0_chk (tie:Bool):chk (pc0 tie)=0:=by cases tie<;>decide
theorem pc0_ok (tie:Bool):(pc0 tie).Ok:=⟨by simp [pc0,in0],by simp [pc0,in0],by simp [pc0],fun e he=>by
 simp only [pc0,List.mem_cons,List.not_mem_nil,or_false] at he
 rcases he with rfl|rfl<;>simp [ev0,ev1]⟩
theorem says_spec (y:Sy) (tie:Bool) (w:Int) (hl:(lacksP y (pc0 tie)).length≤9223372036854775807):PRet C.P 35 [.int .u8 y.n,.agg (ev1R tie),.int .i64 w] (.bool (saysS y tie w)):=by
 have h31:=Lacks_spec y (pc0 tie) (pc0_ok tie);unfold lksE at h31;rw [if_neg (by rw [pc0_chk];decide)] at h31;have h32:=has32_spec (lacksP y (pc0 tie)) w hl;unfold saysS;generalize lacksP y (pc0 tie)=l at h31 h32;generalize hasL l w=b at h32;have h31':PRet C.P 31 [.int .u8 y.n,.agg [crsA in0.cs,intsA in0.steps,.lslc 6 [evR ev0,ev1R tie] 0 2 false]] (.tup [lksA l,.int .i64 0]):=
  PRet.args (.cons (Sub.refl _) (.cons (Sub.agg (.cons (Sub.refl _) (.cons (Sub.refl _) (.cons (Sub.lslc (.cons (SubL.refl _) (.cons (.cons (Sub.refl _) (.cons (Sub.refl _) (.cons (Sub.refl _) (.cons (Sub.refl _) (.cons (Sub.refl _) (.cons Sub.nils .nil)))))) .nil))) .nil)))) .nil)) h31
 refine pret_of (okx [] [31]) mixed (A:=A35) 7 Tryz.func35 rfl ?_;cases b
 all_goals (repeat' (first|exact rfl|((conv=>whnf);first|(refine ⟨_,h32,?_⟩)|(refine ACalls.fz 6 ?_;(conv=>whnf);refine ⟨pureRows_of (by kernel_rfl),by (repeat' (first|exact trivial|exact eqsP_rows _ (fun x=>rfl)|((conv=>whnf);first|exact trivial|refine ⟨rfl,?_⟩|refine ⟨?_,?_⟩|fail))),by (repeat' (first|exact trivial|exact eqsP_rows _ (fun x=>rfl)|((conv=>whnf);first|exact trivial|refine ⟨rfl,?_⟩|refine ⟨?_,?_⟩|fail))),by (repeat' (first|exact trivial|exact eqsP_rows _ (fun x=>rfl)|((conv=>whnf);first|exact trivial|refine ⟨rfl,?_⟩|refine ⟨?_,?_⟩|fail))),?_⟩;refine PRet.calls h31' ?_)|exact rfl|exact ⟨rfl,rfl⟩|refine go1 ?_|(intro ep)|(refine ⟨pureRows_of (by kernel_rfl),by (repeat' (first|exact trivial|exact eqsP_rows _ (fun x=>rfl)|((conv=>whnf);first|exact trivial|refine ⟨rfl,?_⟩|refine ⟨?_,?_⟩|fail))),by (repeat' (first|exact trivial|exact eqsP_rows _ (fun x=>rfl)|((conv=>whnf);first|exact trivial|refine ⟨rfl,?_⟩|refine ⟨?_,?_⟩|fail))),by (repeat' (first|exact trivial|exact eqsP_rows _ (fun x=>rfl)|((conv=>whnf);first|exact trivial|refine ⟨rfl,?_⟩|refine ⟨?_,?_⟩|fail))),?_⟩)|(refine ifB ?_ ?_<;>intro hb<;>(try simp only [qs] at hb)<;>(try simp (disch:=omega) only [wrapI] at hb)<;>(try (exfalso;omega)))|fail)))
end Go.Ab.V
