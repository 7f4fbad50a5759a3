/-
  What is proved here serves the law's text: each part says its own claim and its conditions. No condition is left open.
-/
import Derived.Test.YtohegnfjdfcebaaGreatDoorJI
import Derived.Test.YtohegnfjdfcebaaGreatDoorKP
import Derived.Test.YtohegnfjdfcebaaGreatDoorJH
import Derived.Test.YtohegnfjdfcebaaGreatDoorJC
set_option maxHeartbeats 32000000
set_option maxRecDepth 100000
set_option linter.unusedSimpArgs false
set_option linter.unusedVariables false

namespace Go.Ab.V
open Go.Proofs Go.RowKit
def idxF (v:List UInt8):List (List UInt8)→Int→Int
 | [],_=>-1
 |x::r,k=>if v=x then k else idxF v r (k+1)
def A53:Ann:=fun _=>{}
theorem index53_spec (l:List (List UInt8)) (v:List UInt8) (hl:l.length≤100000000):PRet C.P 53 [strsA l,.str v] (.int .i64 (idxF v l 0)):=by
 obtain ⟨R,hR⟩:∃R,R=idxF v l 0:=⟨_,rfl⟩;rw [←hR];refine pret_of ok mixed (A:=A53) 0 Tryz.func53 rfl ?_;(conv=>whnf);refine loopM ok mixed (A:=A53) [0,1,7,8] [] (S:={ k:Nat // k≤l.length∧idxF v (l.drop k) k=R })
  (fr:=fun s=>frOf 0 19 [(0,strsA l),(1,.str v),(7,.int .i64 l.length),(8,.int .i64 (s.1:Int))])
  (h:=fun s=>⟨[],[]⟩) (μ:=fun s=>l.length-s.1) ⟨0,by omega,hR.symm⟩ rfl rfl ?_
 rintro ⟨k,hk,hs⟩;show aexR _ _ _ (frOf 0 19 [(0,strsA l),(1,.str v),(7,.int .i64 l.length),(8,.int .i64 (k:Int))]) ⟨[],[]⟩ _;(conv=>whnf);refine ifB (fun h1=>?_) (fun h1=>?_)
 ·simp only [decide_eq_true_eq] at h1;have hlt:k<l.length:=by omega
  rw [drop_at hlt,idxF] at hs
  (repeat' (first|exact rfl|((conv=>whnf);first|exact rfl|exact ⟨rfl,rfl⟩|refine go1 ?_|(intro ep)|refine optS (mapR hlt) ?_|(refine ifB ?_ ?_<;>intro hb<;>(try simp only [qs] at hb)<;>(try simp (disch:=omega) only [wrapI] at hb)<;>(try (exfalso;omega)))|fail)))
  ·rw [if_pos hb] at hs;rw [hs]
  ·rw [if_neg hb] at hs;(conv=>whnf);exact back_of ⟨k+1,by omega,by rw [←hs];simp⟩ ⟨by (first|exact rfl|(simp (disch:=omega) only [wrapI];exact rfl)),rfl,by simp only;omega⟩
 ·simp only [decide_eq_false_iff_not] at h1;rw [List.drop_eq_nil_of_le (by omega),idxF] at hs
  (repeat' (first|exact rfl|((conv=>whnf);first|exact rfl|exact ⟨rfl,rfl⟩|refine go1 ?_|(intro ep)|(refine ifB ?_ ?_<;>intro hb<;>(try simp only [qs] at hb)<;>(try simp (disch:=omega) only [wrapI] at hb)<;>(try (exfalso;omega)))|fail)))
  all_goals rw [←hs]
theorem cutB_len (c:UInt8):∀s:List UInt8,(cutB c s).1.length≤s.length∧(cutB c s).2.1.length≤s.length
 | []=>by simp [cutB]
 |x::r=>by
  have:=cutB_len c r;rw [cutB]
  split
  ·simp
  ·split<;>simp<;>omega
theorem pnm_in {t:List UInt8} {r:Nat×Int×Int} (h:pnm t= .inl r):r.1≤6∧sndE r.1 r.2.1 r.2.2=0:=by
 match t with
 | []=>cases h
 |b::u=>
  have hl:=lttI_lt b;rw [pnm] at h
  split at h
  ·cases h
  ·split at h
   ·cases h
   ·split at h
    ·cases h;exact ⟨by simp only;omega,by assumption⟩
    ·cases h
theorem pnm_ne {t:List UInt8} {e:Int} (h:pnm t= .inr e):e≠0:=by
 match t with
 | []=>cases h;decide
 |b::u=>
  rw [pnm] at h
  split at h
  ·cases h;decide
  ·split at h
   ·cases h;decide
   ·split at h
    ·cases h
    ·cases h;assumption
def crsP (t:List UInt8):(Int×Int×Bool) ⊕ Int:=
 if (cutB 47 t).2.2=false then .inr 4
 else match pnm (cutB 47 t).1 with
  | .inr e=>if e=4 then .inr 4 else if (numS (sfxB 43 (cutB 47 t).2.1).1).2=false then .inr 4 else .inr e
  | .inl r=>if (numS (sfxB 43 (cutB 47 t).2.1).1).2=false then .inr 4 else .inl (sndV r.1 r.2.1 r.2.2,(numS (sfxB 43 (cutB 47 t).2.1).1).1,(sfxB 43 (cutB 47 t).2.1).2)
def crsT:(Int×Int×Bool) ⊕ Int→AV
 | .inl r=>.tup [.agg [.int .i64 r.1,.int .i64 r.2.1,.bool r.2.2],.int .i64 0]
 | .inr e=>.tup [.agg [.int .i64 0,.int .i64 0,.bool false],.int .i64 e]
def A54:Ann:=fun r=>match r with
 |0=>{ slots:=[(0,0)] }
 |4=>{ slots:=[(5,1)] }
 |_=>{}
theorem course54_spec (t:List UInt8) (ht:t.length≤100000000):PRet C.P 54 [.str t] (crsT (crsP t)):=by
 obtain ⟨R,hR⟩:∃R,R=crsP t:=⟨_,rfl⟩;rw [←hR];unfold crsP at hR;have h1:=cut_spec t 47 ht;have hl:=cutB_len 47 t;generalize cutB 47 t=P at h1 hl hR;obtain ⟨x,y,b⟩:=P;simp only at hl hR;have h2:=parseName_spec x (by omega);have h3:=sfx_spec y 43 (by omega);generalize sfxB 43 y=Q at h3 hR;obtain ⟨z,o⟩:=Q;simp only at hR;have h4:=number_spec z;generalize numS z=N at h4 hR;obtain ⟨m,g⟩:=N;simp only at hR;obtain ⟨n,hn⟩:∃n,n=pnm x:=⟨_,rfl⟩;rw [←hn] at h2 hR;refine pret_of ok mixed (A:=A54) 2 Tryz.func54 rfl ?_;cases b
 ·rw [if_pos rfl] at hR;subst hR
  (repeat' (first|exact rfl|((conv=>whnf);first|(refine ⟨_,h1,?_⟩)|exact rfl|exact ⟨rfl,rfl⟩|refine go1 ?_|(intro ep)|(refine ifB ?_ ?_<;>intro hb<;>(try simp only [qs] at hb)<;>(try simp (disch:=omega) only [wrapI] at hb)<;>(try (exfalso;omega)))|fail)))
 rw [if_neg (by decide)] at hR
 match n,hn,h2,hR with
 | .inr e,hn,h2,hR=>
  have hne:=pnm_ne hn.symm;dsimp only at hR;cases g
  ·(repeat' (first|exact rfl|((conv=>whnf);first|(refine ⟨_,h1,?_⟩)|(refine ⟨_,h2,?_⟩)|(refine ⟨_,h3,?_⟩)|(refine ⟨_,h4,?_⟩)|exact rfl|exact ⟨rfl,rfl⟩|refine go1 ?_|(intro ep)|(refine ifB ?_ ?_<;>intro hb<;>(try simp only [qs] at hb)<;>(try simp (disch:=omega) only [wrapI] at hb)<;>(try (exfalso;omega)))|fail)))
   all_goals (rw [hR];first|(rw [if_pos (by assumption)];exact rfl)|(rw [if_pos (by assumption),show e=4 by assumption];exact rfl)|(rw [if_neg (by assumption),if_pos rfl];exact rfl))
  ·(repeat' (first|exact rfl|((conv=>whnf);first|(refine ⟨_,h1,?_⟩)|(refine ⟨_,h2,?_⟩)|(refine ⟨_,h3,?_⟩)|(refine ⟨_,h4,?_⟩)|exact rfl|exact ⟨rfl,rfl⟩|refine go1 ?_|(intro ep)|(refine ifB ?_ ?_<;>intro hb<;>(try simp only [qs] at hb)<;>(try simp (disch:=omega) only [wrapI] at hb)<;>(try (exfalso;omega)))|fail)))
   all_goals (rw [hR];first|(rw [if_pos (by assumption)];exact rfl)|(rw [if_pos (by assumption),show e=4 by assumption];exact rfl)|(rw [if_neg (by assumption),if_neg (by decide)];exact rfl))
 | .inl r,hn,h2,hR=>
  obtain ⟨hr6,hr0⟩:=pnm_in hn.symm;obtain ⟨l,a,oc⟩:=r;simp only at hr6 hr0 hR;have h5:=snd_spec l a oc hr6;rw [hr0] at h5;cases g
  ·rw [if_pos rfl] at hR;subst hR
   (repeat' (first|exact rfl|((conv=>whnf);first|(refine ⟨_,h1,?_⟩)|(refine ⟨_,h2,?_⟩)|(refine ⟨_,h3,?_⟩)|(refine ⟨_,h4,?_⟩)|(refine ⟨_,h5,?_⟩)|exact rfl|exact ⟨rfl,rfl⟩|refine go1 ?_|(intro ep)|(refine ifB ?_ ?_<;>intro hb<;>(try simp only [qs] at hb)<;>(try simp (disch:=omega) only [wrapI] at hb)<;>(try (exfalso;omega)))|fail)))
  ·rw [if_neg (by decide)] at hR;subst hR
   (repeat' (first|exact rfl|((conv=>whnf);first|(refine ⟨_,h1,?_⟩)|(refine ⟨_,h2,?_⟩)|(refine ⟨_,h3,?_⟩)|(refine ⟨_,h4,?_⟩)|(refine ⟨_,h5,?_⟩)|exact rfl|exact ⟨rfl,rfl⟩|refine go1 ?_|(intro ep)|(refine ifB ?_ ?_<;>intro hb<;>(try simp only [qs] at hb)<;>(try simp (disch:=omega) only [wrapI] at hb)<;>(try (exfalso;omega)))|fail)))

def crsG:List Crs→List (List UInt8)→List Crs ⊕ Int
 |acc,[]=>.inl acc
 |acc,w::r=>match crsP w with
  | .inr e=>.inr e
  | .inl c=>crsG (acc++[⟨c.1,c.2.1,c.2.2⟩]) r
def stpG:List Int→List (List UInt8)→Option (List Int)
 |acc,[]=>some acc
 |acc,w::r=>if (numS w).2=true then stpG (acc++[(numS w).1]) r else none
def prsW (ws:List (List UInt8)) (j:Nat):Ins ⊕ Int:=
 match crsG [] (ws.take j) with
 | .inr e=>.inr e
 | .inl cs=>match stpG [] (ws.drop (j+1)) with
  |none=>.inr 4
  |some st=>if chkIn ⟨cs,st⟩=0 then .inl ⟨cs,st⟩ else .inr (chkIn ⟨cs,st⟩)
def prsI (t:List UInt8):Ins ⊕ Int:=if idxF [58] (splitC 32 t) 0<0 then .inr 4 else prsW (splitC 32 t) (idxF [58] (splitC 32 t) 0).toNat
def prsA:Ins ⊕ Int→AV
 | .inl i=>.tup [inA i,.int .i64 0]
 | .inr e=>.tup [.agg [.nils,.nils],.int .i64 e]
theorem idxF_lt (v:List UInt8):∀(l:List (List UInt8)) (k:Int),idxF v l k= -1∨(k≤idxF v l k∧idxF v l k<k+l.length)
 | [],k=>.inl rfl
 |x::r,k=>by
  rw [idxF]
  split
  ·right;simp only [List.length_cons];omega
  ·rcases idxF_lt v r (k+1) with h|h
   ·exact .inl h
   ·right;simp only [List.length_cons];omega
def A25:Ann:=fun r=>match r with
 |0=>{ slots:=[(0,0)] }
 |5=>{ slots:=[(0,1)] }
 |9=>{ slots:=[(5,2)] }
 |12=>{ slots:=[(3,3),(4,7)] }
 |14=>{ frz:=[1007] }
 |20=>{ slots:=[(3,5),(4,8)] }
 |_=>{}
theorem crsP_ne {t:List UInt8} {e:Int} (h:crsP t= .inr e):e≠0:=by
 unfold crsP at h
 split at h
 ·cases h;decide
 ·split at h
  ·rename_i e' he
   split at h
   ·cases h;decide
   ·split at h
    ·cases h;decide
    ·cases h;exact pnm_ne he
  ·split at h
   ·cases h;decide
   ·cases h
theorem parse25_spec (t:List UInt8) (ht:t.length≤1000000):PRet C.P 25 [.str t] (prsA (prsI t)):=by
 have hw:=split_spec t 32 (by omega);obtain ⟨R,hR⟩:∃R,R=prsI t:=⟨_,rfl⟩;rw [←hR];unfold prsI at hR;have hwl:(splitC 32 t).length≤1000001:=by
  have:=splitC_len 32 t;have:=List.count_le_length (a:=(32:UInt8)) (l:=t);omega
 have hws:∀x∈splitC 32 t,x.length≤1000000:=fun x hx=>Nat.le_trans (splitC_sum 32 t x hx) ht;generalize splitC 32 t=ws at hw hR hwl hws;have hi:=index53_spec ws [58] (by omega);have hij:=idxF_lt [58] ws 0;generalize idxF [58] ws 0=J at hi hij hR;refine pret_of (okx [] [56]) mixed (A:=A25) 9 Tryz.func25 rfl ?_;by_cases hJ:J<0
 ·rw [if_pos hJ] at hR;subst hR
  (repeat' (first|exact rfl|((conv=>whnf);first|(refine ⟨_,hw,?_⟩)|(refine ⟨_,hi,?_⟩)|exact rfl|exact ⟨rfl,rfl⟩|refine go1 ?_|(intro ep)|(refine ifB ?_ ?_<;>intro hb<;>(try simp only [qs] at hb)<;>(try simp (disch:=omega) only [wrapI] at hb)<;>(try (exfalso;omega)))|fail)))
 rw [if_neg hJ] at hR;obtain ⟨j,rfl⟩:∃j:Nat,J=j:=⟨J.toNat,by omega⟩;have hj:j<ws.length:=by omega
 rw [Int.toNat_natCast] at hR
 (repeat' (first|exact rfl|((conv=>whnf);first|(refine ⟨_,hw,?_⟩)|(refine ⟨_,hi,?_⟩)|exact rfl|exact ⟨rfl,rfl⟩|refine go1 ?_|(intro ep)|(refine ifB ?_ ?_<;>intro hb<;>(try simp only [qs] at hb)<;>(try simp (disch:=omega) only [wrapI] at hb)<;>(try (exfalso;omega)))|fail)))
 rename_i e0;obtain ⟨e1,he⟩:∃e1,e1=ep:=⟨_,rfl⟩;subst he;(conv=>whnf);refine wk_liftC 1 7 e1 3 0 0 (by decide) rfl rfl rfl ?_;intro e7;have htl:((ws.take j).length:Nat)=j:=by rw [List.length_take];omega
 unfold prsW at hR;refine loopY (okx [] [56]) mixed (A:=A25) [2,4,5,6,25,26,27] [0,1,7] (S:={ z:Nat×Nat×List Crs // z.1≤j∧z.2.2.length=z.1∧crsG z.2.2 ((ws.take j).drop z.1)=crsG [] (ws.take j) })
  (fr:=fun s=>frOf 0 78 [(2,.optr (.s 0) e0 2 0 0),(4,strsA ws),(5,.int .i64 (j:Int)),(6,.optr (.s 1) e1 2 0 0),(25,.lslc 1 (strR ws) 0 j false),(26,.int .i64 (j:Int)),(27,.int .i64 (s.1.1:Int))])
  (h:=fun s=>⟨[.vec e0 [[.nils,.nils]],.vec e1 [[.oslc (.s 7) s.1.2.1 3 0 s.1.1 false,.nils]],.hole,.hole,.hole,.hole,.hole,.vec s.1.2.1 ((s.1.2.2).map crR),.hole],[]⟩) (μ:=fun s=>j-s.1.1) ⟨(0,e7,[]),by simp,rfl,rfl⟩ ?_ ?_
  [2,4,5,6] [0,1,7] (S':={ z:Nat×List Crs // z.2.length=j∧crsG [] (ws.take j)= .inl z.2 }) (X:=fun _=>0) (frX:=fun s=>frOf 0 78 [(2,.optr (.s 0) e0 2 0 0),(4,strsA ws),(5,.int .i64 (j:Int)),(6,.optr (.s 1) e1 2 0 0)]) (hX:=fun s=>⟨[.vec e0 [[.nils,.nils]],.vec e1 [[.oslc (.s 7) s.1.1 3 0 j false,.nils]],.hole,.hole,.hole,.hole,.hole,.vec s.1.1 ((s.1.2).map crR),.hole],[]⟩)
  [2,3] [0] (S2:={ e:Int // R= .inr e }) (frR:=fun s=>frOf 0 78 [(2,.optr (.s 0) e0 2 0 0),(3,.int .i64 s.1)]) (hR:=fun s=>⟨[.vec e0 [[.nils,.nils]],.hole,.hole,.hole,.hole,.hole,.hole,.hole,.hole],[]⟩) ?_ ?_ ?_
 ·exact rfl
 ·exact rfl
 ·rintro ⟨⟨k,e7,acc⟩,hk,hlen,hu⟩;dsimp only at hk hlen hu;show aexR _ _ _ (frOf 0 78 [(2,.optr (.s 0) e0 2 0 0),(4,strsA ws),(5,.int .i64 (j:Int)),(6,.optr (.s 1) e1 2 0 0),(25,.lslc 1 (strR ws) 0 j false),(26,.int .i64 (j:Int)),(27,.int .i64 (k:Int))]) ⟨[.vec e0 [[.nils,.nils]],.vec e1 [[.oslc (.s 7) e7 3 0 k false,.nils]],.hole,.hole,.hole,.hole,.hole,.vec e7 ((acc).map crR),.hole],[]⟩ _;(conv=>whnf);refine ifB (fun g1=>?_) (fun g1=>?_)
  ·simp only [decide_eq_true_eq] at g1;have hkj:k<j:=by omega
   have hkw:k<ws.length:=by omega
   have hm:=mapR (f:=fun x:List UInt8=>[AV.str x]) hkw;have hd:(ws.take j).drop k=ws[k]::(ws.take j).drop (k+1):=by
    rw [drop_at (by omega)];simp
   rw [hd] at hu;have hx:=hws ws[k] (List.getElem_mem hkw);generalize ws[k]=w at hm hu hx;have hc:=course54_spec w (by omega);rw [crsG] at hu;obtain ⟨Q,hQ⟩:∃Q,Q=crsP w:=⟨_,rfl⟩;rw [←hQ] at hc hu;cases Q with
   |inr e=>
    have hne:=crsP_ne hQ.symm;dsimp only at hu;rw [←hu] at hR;dsimp only at hR
    (repeat' (first|exact rfl|((conv=>whnf);first|refine optS hm ?_|(refine ⟨_,hc,?_⟩)|exact rfl|exact ⟨rfl,rfl⟩|refine go1 ?_|(intro ep)|(refine ifB ?_ ?_<;>intro hb<;>(try simp only [qs] at hb)<;>(try simp (disch:=omega) only [wrapI] at hb)<;>(try (exfalso;omega)))|fail)))
    all_goals (conv=>whnf)
    all_goals exact back_of ⟨e,hR⟩ ⟨rfl,rfl⟩
   |inl c=>
    dsimp only at hu
    (repeat' (first|exact rfl|((conv=>whnf);first|refine optS hm ?_|(refine ⟨_,hc,?_⟩)|exact rfl|exact ⟨rfl,rfl⟩|refine go1 ?_|(intro ep)|(refine ifB ?_ ?_<;>intro hb<;>(try simp only [qs] at hb)<;>(try simp (disch:=omega) only [wrapI] at hb)<;>(try (exfalso;omega)))|fail)))
    all_goals (conv=>whnf)
    all_goals (have hap:(acc++[(⟨c.1,c.2.1,c.2.2⟩:Crs)]).map crR=List.take k (List.drop 0 (acc.map crR))++[crR ⟨c.1,c.2.1,c.2.2⟩]:=by rw [List.drop_zero,List.take_of_length_le (by simp;omega)];simp)
    all_goals exact back_of ⟨(k+1,ep,acc++[⟨c.1,c.2.1,c.2.2⟩]),by omega,by simp [hlen],hu⟩ ⟨by (first|exact rfl|(simp (disch:=omega) only [wrapI];exact rfl)),by rw [hap];exact rfl,by dsimp only;omega⟩
  ·simp only [decide_eq_false_iff_not] at g1;have hkj:k=j:=by omega
   subst hkj;rw [List.drop_eq_nil_of_le (by omega),crsG] at hu
   (repeat' (first|exact rfl|((conv=>whnf);first|exact rfl|exact ⟨rfl,rfl⟩|refine go1 ?_|(intro ep)|(refine ifB ?_ ?_<;>intro hb<;>(try simp only [qs] at hb)<;>(try simp (disch:=omega) only [wrapI] at hb)<;>(try (exfalso;omega)))|fail)))
   all_goals (conv=>whnf)
   all_goals exact back_of ⟨(e7,acc),hlen,hu.symm⟩ ⟨rfl,rfl,rfl⟩
 ·rintro ⟨e,hp⟩;subst hp
  (repeat' (first|exact rfl|((conv=>whnf);first|exact rfl|exact ⟨rfl,rfl⟩|refine go1 ?_|(intro ep)|fail)))
 ·rintro ⟨⟨e7,cs⟩,hcl,hcs⟩;rw [hcs] at hR;dsimp only at hR hcl hcs;subst hcl
  (repeat' (first|exact rfl|((conv=>whnf);first|exact rfl|exact ⟨rfl,rfl⟩|refine go1 ?_|(intro ep)|fail)))
  all_goals (conv=>whnf)
  refine ⟨pure_map cs (fun c=>rfl),by (repeat' (first|exact trivial|exact eqsP_rows _ (fun x=>rfl)|((conv=>whnf);first|exact trivial|refine ⟨rfl,?_⟩|refine ⟨?_,?_⟩|fail))),by (repeat' (first|exact trivial|exact eqsP_rows _ (fun x=>rfl)|((conv=>whnf);first|exact trivial|refine ⟨rfl,?_⟩|refine ⟨?_,?_⟩|fail))),by (repeat' (first|exact trivial|exact eqsP_rows _ (fun x=>rfl)|((conv=>whnf);first|exact trivial|refine ⟨rfl,?_⟩|refine ⟨?_,?_⟩|fail))),?_⟩
  (repeat' (first|exact rfl|((conv=>whnf);first|exact rfl|exact ⟨rfl,rfl⟩|refine go1 ?_|(intro ep)|fail)))
  all_goals (conv=>whnf)
  refine wk_liftC 1 8 e1 1 0 1 (by decide) rfl rfl rfl ?_;intro e8;have hW:(IntKind.i64.wrap ((cs.length:Int)+1)).toNat=cs.length+1:=by simp (disch:=omega) only [wrapI];omega
  refine loopY (okx [] [56]) mixed (A:=A25) [2,6,50,51,52] [0,1,8] (S:={ z:Nat×Nat×List Int // z.1≤ws.length-(cs.length+1)∧z.2.2.length=z.1∧stpG z.2.2 ((ws.drop (cs.length+1)).drop z.1)=stpG [] (ws.drop (cs.length+1)) })
   (fr:=fun s=>frOf 0 78 [(2,.optr (.s 0) e0 2 0 0),(6,.optr (.s 1) e1 2 0 0),(50,.lslc 1 (strR ws) (0+(IntKind.i64.wrap ((cs.length:Int)+1)).toNat) (ws.length-(IntKind.i64.wrap ((cs.length:Int)+1)).toNat) false),(51,.int .i64 (ws.length-(IntKind.i64.wrap ((cs.length:Int)+1)).toNat:Nat)),(52,.int .i64 (s.1.1:Int))])
   (h:=fun s=>⟨[.vec e0 [[.nils,.nils]],.vec e1 [[crsA cs,.oslc (.s 8) s.1.2.1 1 0 s.1.1 false]],.hole,.hole,.hole,.hole,.hole,.hole,.vec s.1.2.1 (ints (s.1.2.2))],[]⟩) (μ:=fun s=>(ws.length-(cs.length+1))-s.1.1) ⟨(0,e8,[]),by simp,rfl,rfl⟩ ?_ ?_
   [2,6] [0,1,8] (S':={ z:Nat×List Int // stpG [] (ws.drop (cs.length+1))=some z.2 }) (X:=fun _=>2) (frX:=fun s=>frOf 0 78 [(2,.optr (.s 0) e0 2 0 0),(6,.optr (.s 1) e1 2 0 0)]) (hX:=fun s=>⟨[.vec e0 [[.nils,.nils]],.vec e1 [[crsA cs,.oslc (.s 8) s.1.1 1 0 s.1.2.length false]],.hole,.hole,.hole,.hole,.hole,.hole,.vec s.1.1 (ints (s.1.2))],[]⟩)
   [2,3] [0] (S2:={ e:Int // R= .inr e }) (frR:=fun s=>frOf 0 78 [(2,.optr (.s 0) e0 2 0 0),(3,.int .i64 s.1)]) (hR:=fun s=>⟨[.vec e0 [[.nils,.nils]],.hole,.hole,.hole,.hole,.hole,.hole,.hole,.hole],[]⟩) ?_ ?_ ?_
  ·exact rfl
  ·exact rfl
  ·rintro ⟨⟨k,e8,acc⟩,hk,hlen,hu⟩;dsimp only at hk hlen hu;show aexR _ _ _ (frOf 0 78 [(2,.optr (.s 0) e0 2 0 0),(6,.optr (.s 1) e1 2 0 0),(50,.lslc 1 (strR ws) (0+(IntKind.i64.wrap ((cs.length:Int)+1)).toNat) (ws.length-(IntKind.i64.wrap ((cs.length:Int)+1)).toNat) false),(51,.int .i64 (ws.length-(IntKind.i64.wrap ((cs.length:Int)+1)).toNat:Nat)),(52,.int .i64 (k:Int))]) ⟨[.vec e0 [[.nils,.nils]],.vec e1 [[crsA cs,.oslc (.s 8) e8 1 0 k false]],.hole,.hole,.hole,.hole,.hole,.hole,.vec e8 (ints (acc))],[]⟩ _;(conv=>whnf);refine ifB (fun g1=>?_) (fun g1=>?_)
   ·simp only [decide_eq_true_eq,hW] at g1;have hkj:k<ws.length-(cs.length+1):=by omega
    have hkw:cs.length+1+k<ws.length:=by omega
    have hm:(strR ws)[0+(IntKind.i64.wrap ((cs.length:Int)+1)).toNat+((k:Nat):Int).toNat]? =some [.str ws[cs.length+1+k]]:=by
     rw [hW,Nat.zero_add];exact mapRo (f:=fun x:List UInt8=>[AV.str x]) hkw
    have hd:(ws.drop (cs.length+1)).drop k=ws[cs.length+1+k]::(ws.drop (cs.length+1)).drop (k+1):=by
     rw [drop_at (by rw [List.length_drop];omega)];simp
    rw [hd,stpG] at hu;have hx:=hws ws[cs.length+1+k] (List.getElem_mem hkw);generalize ws[cs.length+1+k]=w at hm hu hx;have hc:=number_spec w;obtain ⟨⟨x,b⟩,hQ⟩:∃Q,Q=numS w:=⟨_,rfl⟩;rw [←hQ] at hc hu;cases b with
    |false=>
     rw [if_neg (by simp)] at hu;rw [←hu] at hR;dsimp only at hR
     (repeat' (first|exact rfl|((conv=>whnf);first|refine optS hm ?_|(refine ⟨_,hc,?_⟩)|exact rfl|exact ⟨rfl,rfl⟩|refine go1 ?_|(intro ep)|(refine ⟨by rw [hW];omega,?_⟩)|(refine ifB ?_ ?_<;>intro hb<;>(try simp only [qs] at hb)<;>(try simp (disch:=omega) only [wrapI] at hb)<;>(try (exfalso;omega)))|fail)))
     all_goals (conv=>whnf)
     all_goals exact back_of ⟨4,hR⟩ ⟨rfl,rfl⟩
    |true=>
     rw [if_pos rfl] at hu;dsimp only at hu
     (repeat' (first|exact rfl|((conv=>whnf);first|refine optS hm ?_|(refine ⟨_,hc,?_⟩)|exact rfl|exact ⟨rfl,rfl⟩|refine go1 ?_|(intro ep)|(refine ⟨by rw [hW];omega,?_⟩)|(refine ifB ?_ ?_<;>intro hb<;>(try simp only [qs] at hb)<;>(try simp (disch:=omega) only [wrapI] at hb)<;>(try (exfalso;omega)))|fail)))
     all_goals (conv=>whnf)
     all_goals (have hap:ints (acc++[x])=List.take k (List.drop 0 (ints acc))++[[.int .i64 x]]:=by unfold ints;rw [List.drop_zero,List.take_of_length_le (by simp;omega)];simp)
     all_goals exact back_of ⟨(k+1,ep,acc++[x]),by omega,by simp [hlen],hu⟩ ⟨by (first|exact rfl|(simp (disch:=omega) only [wrapI];exact rfl)),by rw [hap];exact rfl,by dsimp only;omega⟩
   ·simp only [decide_eq_false_iff_not,hW] at g1;have hkj:k=ws.length-(cs.length+1):=by omega
    rw [List.drop_eq_nil_of_le (by simp;omega),stpG] at hu
    (repeat' (first|exact rfl|((conv=>whnf);first|exact rfl|exact ⟨rfl,rfl⟩|refine go1 ?_|(intro ep)|(refine ifB ?_ ?_<;>intro hb<;>(try simp only [qs] at hb)<;>(try simp (disch:=omega) only [wrapI] at hb)<;>(try (exfalso;omega)))|fail)))
    all_goals (conv=>whnf)
    all_goals exact back_of ⟨(e8,acc),hu.symm⟩ ⟨rfl,rfl,by rw [hlen];exact rfl⟩
  ·rintro ⟨e,hp⟩;subst hp
   (repeat' (first|exact rfl|((conv=>whnf);first|exact rfl|exact ⟨rfl,rfl⟩|refine go1 ?_|(intro ep)|fail)))
  ·rintro ⟨⟨e8,st⟩,hst⟩;dsimp only at hst;rw [hst] at hR;dsimp only at hR;have hck:=inCheck_spec ⟨cs,st⟩;obtain ⟨E,hE⟩:∃E,E=chkIn ⟨cs,st⟩:=⟨_,rfl⟩;rw [←hE] at hck hR
   (repeat' (first|exact rfl|((conv=>whnf);first|exact rfl|exact ⟨rfl,rfl⟩|refine go1 ?_|(intro ep)|fail)))
   all_goals (conv=>whnf)
   refine ACalls.fz 8 ?_;(conv=>whnf);refine ⟨pure_map st (fun c=>rfl),by (repeat' (first|exact trivial|exact eqsP_rows _ (fun x=>rfl)|((conv=>whnf);first|exact trivial|refine ⟨rfl,?_⟩|refine ⟨?_,?_⟩|fail))),by (repeat' (first|exact trivial|exact eqsP_rows _ (fun x=>rfl)|((conv=>whnf);first|exact trivial|refine ⟨rfl,?_⟩|refine ⟨?_,?_⟩|fail))),by (repeat' (first|exact trivial|exact eqsP_rows _ (fun x=>rfl)|((conv=>whnf);first|exact trivial|refine ⟨rfl,?_⟩|refine ⟨?_,?_⟩|fail))),?_⟩;refine PRet.calls hck ?_
   (repeat' (first|exact rfl|((conv=>whnf);first|exact rfl|exact ⟨rfl,rfl⟩|refine go1 ?_|(intro ep)|(refine ifB ?_ ?_<;>intro hb<;>(try simp only [qs] at hb)<;>(try simp (disch:=omega) only [wrapI] at hb)<;>(try (exfalso;omega)))|fail)))
   ·rw [hR,if_neg hb];exact rfl
   ·rw [hR,if_pos hb];exact rfl
end Go.Ab.V

namespace Go.Ab.V
open Go.Proofs
theorem crsG_ne:∀{ws:List (List UInt8)} {acc:List Crs} {e:Int},crsG acc ws= .inr e→e≠0
 | [],acc,e,h=>by cases h
 |w::r,acc,e,h=>by
  rw [crsG] at h
  split at h
  ·rename_i e' he;cases h;exact crsP_ne he
  ·exact crsG_ne h
theorem prsI_ne {t:List UInt8} {e:Int} (h:prsI t= .inr e):e≠0:=by
 unfold prsI at h
 split at h
 ·cases h;decide
 ·unfold prsW at h
  split at h
  ·rename_i e' he;cases h;exact crsG_ne he
  ·split at h
   ·cases h;decide
   ·split at h
    ·cases h
    ·rename_i hc;cases h;exact hc
def tabT:List UInt8:=[116,97,98,108,97,116,117,114,101,32]
def hdS (L:List (List UInt8)) (n:Nat) (cl:Bool):Option (Sy×Ins):=
 if nxO 0 n cl=true then match parseSys (pfxB tabT (L.getD 0 [])).1 with
  |none=>none
  |some y=>if (pfxB tabT (L.getD 0 [])).2=true then if nxO 1 n cl=true then match prsI (L.getD 1 []) with
   | .inl i=>some (y,i)
   | .inr _=>none
   else none else none
 else none
def A11:Ann:=fun r=>match r with
 |0=>{ pan:=[1] }
 |3=>{ pan:=[1] }
 |6=>{ slots:=[(6,5)],pan:=[1] }
 |8=>{ pan:=[2] }
 |_=>{}
theorem head11b {q0 q1 q2 q3:AObj} {e:Nat} {L:List (List UInt8)} {n:Nat} {cl:Bool} {dy:List AObj} (hn:n≤L.length) (hL:L.length≤1000000) (hx:∀x∈L,x.length≤1000000) {K:AV→Heap→Prop} {KP:Nat→Value→Heap→Prop}
  (hK:∀y i rest,hdS L n cl=some (y,i)→K (.tup []) ⟨[q0,q1,q2,q3,.vec e [[.int .u8 y.n,y.a,crsA i.cs,intsA i.steps,.nils,.nils,.int .i64 2,.lslc 1 (strR L) 0 n false,.bool cl]]]++rest,dy⟩)
  (hP:hdS L n cl=none→∀t v h',PanOk q0 q1 q2 q3 t v h'→KP t v h'):
  ACallsP C.P 11 [.optr (.s 4) e 9 0 0] ⟨[q0,q1,q2,q3,.vec e [[.int .u8 0,.nili,.nils,.nils,.nils,.nils,.int .i64 0,.lslc 1 (strR L) 0 n false,.bool cl]]],dy⟩ K KP:=by
 obtain ⟨R0,hR⟩:∃R,R=hdS L n cl:=⟨_,rfl⟩;rw [←hR] at hK hP;unfold hdS at hR;refine fnP_of ok mixed (A:=A11) 1 Tryz.func11 rfl ?_;have hg:∀k,(L.getD k []).length≤1000000:=fun k=>by
  rw [List.getD_eq_getElem?_getD];cases hq:L[k]? with
  |none=>simp
  |some x=>exact hx x (List.mem_of_getElem? hq)
 cases h0:nxO 0 n cl with
 |false=>
  rw [h0,if_neg (by simp)] at hR;have hp:=hP hR
  (repeat' (first|exact rfl|((conv=>whnf);first|(exact next14 (ln:=0) hn hL (Nat.zero_le _) (fun h=>by rw [h0] at h;cases h) fun _ t v h' hx=>hp t v _ (hx.trunc (Nat.le_of_ble_eq_true rfl)))|exact rfl|exact ⟨rfl,rfl⟩|refine go1 ?_|(intro ep)|(refine ifB ?_ ?_<;>intro hb<;>(try simp only [qs] at hb)<;>(try simp (disch:=omega) only [wrapI] at hb)<;>(try (exfalso;omega)))|fail)))
 |true=>
  rw [h0,if_pos rfl] at hR;have hpf:=pfx_spec (L.getD 0 []) tabT (Nat.le_trans (hg 0) (by omega));generalize pfxB tabT (L.getD 0 [])=PF at hpf hR;obtain ⟨nm,b⟩:=PF;have hps:=parseSys_spec nm;dsimp only at hR;cases hy:parseSys nm with
  |none=>
   rw [hy] at hR hps;dsimp only at hR;have hp:=hP hR
   (repeat' (first|exact rfl|((conv=>whnf);first|(refine next14 (ln:=0) hn hL (Nat.zero_le _) (fun _=>?_) (fun h=>by rw [h0] at h;cases h))|(refine ⟨_,hpf,?_⟩)|(refine ⟨_,hps,?_⟩)|(exact fail12 4 (by decide) fun t v h' hx=>hp t v _ (hx.trunc (Nat.le_of_ble_eq_true rfl)))|exact rfl|exact ⟨rfl,rfl⟩|refine go1 ?_|(intro ep)|(refine ifB ?_ ?_<;>intro hb<;>(try simp only [qs] at hb)<;>(try simp (disch:=omega) only [wrapI] at hb)<;>(try (exfalso;omega)))|fail)))
  |some y=>
   rw [hy] at hR hps;dsimp only at hR;have hof:=ofy y;cases b with
   |false=>
    rw [if_neg (by simp)] at hR;have hp:=hP hR
    (repeat' (first|exact rfl|((conv=>whnf);first|(refine next14 (ln:=0) hn hL (Nat.zero_le _) (fun _=>?_) (fun h=>by rw [h0] at h;cases h))|(refine ⟨_,hpf,?_⟩)|(refine ⟨_,hps,?_⟩)|(exact fail12 4 (by decide) fun t v h' hx=>hp t v _ (hx.trunc (Nat.le_of_ble_eq_true rfl)))|exact rfl|exact ⟨rfl,rfl⟩|refine go1 ?_|(intro ep)|(refine ifB ?_ ?_<;>intro hb<;>(try simp only [qs] at hb)<;>(try simp (disch:=omega) only [wrapI] at hb)<;>(try (exfalso;omega)))|fail)))
   |true=>
    rw [if_pos rfl] at hR;cases h1:nxO 1 n cl with
    |false=>
     rw [h1,if_neg (by simp)] at hR;have hp:=hP hR;have h1n:1≤n:=by
      unfold nxO at h0;simp only [Bool.and_eq_true,decide_eq_true_eq] at h0;omega
     (repeat' (first|exact rfl|((conv=>whnf);first|(refine next14 (ln:=0) hn hL (Nat.zero_le _) (fun _=>?_) (fun h=>by rw [h0] at h;cases h))|(exact next14 (ln:=1) hn hL h1n (fun h=>by rw [h1] at h;cases h) fun _ t v h' hx=>hp t v _ (hx.trunc (Nat.le_of_ble_eq_true rfl)))|(refine ⟨_,hpf,?_⟩)|(refine ⟨_,hps,?_⟩)|(refine ⟨_,hof,?_⟩)|exact rfl|exact ⟨rfl,rfl⟩|refine go1 ?_|(intro ep)|(refine ifB ?_ ?_<;>intro hb<;>(try simp only [qs] at hb)<;>(try simp (disch:=omega) only [wrapI] at hb)<;>(try (exfalso;omega)))|fail)))
    |true=>
     rw [h1,if_pos rfl] at hR;have h1n:1≤n:=by
      unfold nxO at h0;simp only [Bool.and_eq_true,decide_eq_true_eq] at h0;omega
     have hpi:=parse25_spec (L.getD 1 []) (hg 1);cases hpr:prsI (L.getD 1 []) with
     |inr er=>
      have hne:=prsI_ne hpr;rw [hpr] at hR hpi;dsimp only at hR;have hp:=hP hR
      (repeat' (first|exact rfl|((conv=>whnf);first|(refine next14 (ln:=0) hn hL (Nat.zero_le _) (fun _=>?_) (fun h=>by rw [h0] at h;cases h))|(refine next14 (ln:=1) hn hL h1n (fun _=>?_) (fun h=>by rw [h1] at h;cases h))|(refine ⟨_,hpf,?_⟩)|(refine ⟨_,hps,?_⟩)|(refine ⟨_,hof,?_⟩)|(refine ⟨_,hpi,?_⟩)|(exact fail12 er hne fun t v h' hx=>hp t v _ (hx.trunc (Nat.le_of_ble_eq_true rfl)))|(exact absurd hb hne)|exact rfl|exact ⟨rfl,rfl⟩|refine go1 ?_|(intro ep)|(refine ifB ?_ ?_<;>intro hb<;>(try simp only [qs] at hb)<;>(try simp (disch:=omega) only [wrapI] at hb)<;>(try (exfalso;omega)))|fail)))
     |inl i=>
      rw [hpr] at hR hpi;dsimp only at hR;have hk:=fun rest=>hK y i rest hR
      (repeat' (first|exact hk _|((conv=>whnf);first|(refine next14 (ln:=0) hn hL (Nat.zero_le _) (fun _=>?_) (fun h=>by rw [h0] at h;cases h))|(refine next14 (ln:=1) hn hL h1n (fun _=>?_) (fun h=>by rw [h1] at h;cases h))|(refine ⟨_,hpf,?_⟩)|(refine ⟨_,hps,?_⟩)|(refine ⟨_,hof,?_⟩)|(refine ⟨_,hpi,?_⟩)|exact rfl|exact ⟨rfl,rfl⟩|refine go1 ?_|(intro ep)|(refine ifB ?_ ?_<;>intro hb<;>(try simp only [qs] at hb)<;>(try simp (disch:=omega) only [wrapI] at hb)<;>(try (exfalso;omega)))|fail)))
end Go.Ab.V
