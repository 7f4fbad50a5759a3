/-
  What is proved here serves the law's text: each part says its own claim and its conditions. No condition is left open.
-/
import Derived.Test.YtohegnfjdfcebaaGreatDoorJQ
import Derived.Test.YtohegnfjdfcebaaGreatDoorJK
import Derived.Test.YtohegnfjdfcebaaGreatDoorJD
import Derived.Test.YtohegnfjdfcebaaGreatDoorJJ
import Derived.Test.YtohegnfjdfcebaaGreatDoorJO
import Derived.Test.YtohegnfjdfcebaaGreatDoorJP
import Derived.Test.YtohegnfjdfcebaaGreatDoorJG
import Derived.Test.YtohegnfjdfcebaaGreatDoorJH
set_option maxHeartbeats 32000000
set_option maxRecDepth 100000
set_option linter.unusedSimpArgs false
set_option linter.unusedVariables false

namespace Go.Ab.V
open Go.Proofs
theorem colS_len0 {y:Sy} {p:Pc} (hc:chk p=0) {k:Nat} (hk:k<p.evs.length):(colS y p k p.evs[k]).length≤616:=by
 have h1:=colS_len (y:=y) (p:=p) (k:=k) (m:=27) (by omega) (e:=p.evs[k]) fun s hs=>cellS_len y s _ (stp_in hc hk s hs);have h2:=(vp hc).sl k hk;have:(8+p.evs[k].stops.length) * (27+1)≤22 * 28:=Nat.mul_le_mul_right _ (by omega);omega
def colsT (y:Sy) (p:Pc):Nat→List Evt→List UInt8
 |_,[]=>[]
 |k,e::r=>(colS y p k e++[10])++colsT y p (k+1) r
theorem colsT_snoc (y:Sy) (p:Pc):∀(l:List Evt) (i k:Nat) (h:k<l.length),colsT y p i (l.take (k+1))=colsT y p i (l.take k)++(colS y p (i+k) l[k]++[10])
 |e::r,i,0,h=>by simp [colsT]
 |e::r,i,k+1,h=>by
  have:=colsT_snoc y p r (i+1) k (by simpa using h);rw [List.take_succ_cons,colsT,this,List.take_succ_cons,colsT,List.append_assoc];have e1:i+1+k=i+(k+1):=by omega
  rw [e1];simp [List.append_assoc]
def hdT (y:Sy) (p:Pc):List UInt8:=((((tabT++nmS y)++[10])++fmtI p.ins)++[10])
def wrT (y:Sy) (p:Pc):List UInt8:=hdT y p++colsT y p 0 p.evs
theorem fmtI_len {i:Ins} (h:InOk i):(fmtI i).length≤273:=by
 have h1:=fmtCs_len i.cs;have h2:=fmtSs_len i.steps;have:=h.cs;have:=h.st;unfold fmtI;simp only [List.length_append,List.length_singleton];omega
theorem nmS_len (y:Sy):(nmS y).length≤8:=by cases y<;>simp [nmS]
theorem colsT_len {y:Sy} {p:Pc} (hc:chk p=0):∀k,(colsT y p 0 (p.evs.take k)).length≤617 * k
 |0=>by simp [colsT]
 |k+1=>by
  have:=colsT_len (y:=y) hc k;by_cases h:k<p.evs.length
  ·rw [colsT_snoc y p p.evs 0 k h,List.length_append,List.length_append,List.length_singleton,Nat.zero_add];have:=colS_len0 (y:=y) hc h;omega
  ·rw [List.take_of_length_le (by omega)];rw [List.take_of_length_le (by omega)] at this;omega
def A18:Ann:=fun r=>match r with
 |0=>{ slots:=[(0,0)] }
 |_=>{}
def wrR2 (y:Sy) (p:Pc):AV:=if chk p≠0 then .tup [.str [],.int .i64 (chk p)] else if canP y p=false then .tup [.str [],.int .i64 31] else .tup [.str (wrT y p),.int .i64 0]
theorem write_spec (y:Sy) (p:Pc) (hp:p.Ok):PRet C.P 18 [.int .u8 y.n,pcA p] (wrR2 y p):=by
 have hck:=check_spec p hp;have hcn:=Can_spec y p hp;have hof:=ofy y;unfold wrR2;by_cases hc:¬chk p=0
 ·rw [if_pos hc];refine pret_of ok mixed (A:=A18) 2 Tryz.func18 rfl ?_
  (repeat' (first|exact rfl|((conv=>whnf);first|(refine ⟨_,hof,?_⟩)|(refine ⟨_,hck,?_⟩)|(exact absurd hb hc)|exact rfl|exact ⟨rfl,rfl⟩|refine go1 ?_|(intro ep)|(refine ifB ?_ ?_<;>intro hb<;>(try simp only [qs] at hb)<;>(try simp (disch:=omega) only [wrapI] at hb)<;>(try (exfalso;omega)))|fail)))
 have hc:chk p=0:=Decidable.of_not_not hc;rw [if_neg (fun h=>h hc)];rw [hc] at hck;cases hcp:canP y p with
 |false=>
  rw [hcp] at hcn;rw [if_pos rfl];refine pret_of ok mixed (A:=A18) 2 Tryz.func18 rfl ?_
  (repeat' (first|exact rfl|((conv=>whnf);first|(refine ⟨_,hof,?_⟩)|(refine ⟨_,hck,?_⟩)|(refine ⟨_,hcn,?_⟩)|exact rfl|exact ⟨rfl,rfl⟩|refine go1 ?_|(intro ep)|(refine ifB ?_ ?_<;>intro hb<;>(try simp only [qs] at hb)<;>(try simp (disch:=omega) only [wrapI] at hb)<;>(try (exfalso;omega)))|fail)))
 |true=>
  rw [hcp] at hcn;rw [if_neg (by simp)];have v:=vp hc;have hio:=chkIn_ok v.chkI;have hfm:=format_spec p.ins v.chkI;have hfl:=fmtI_len hio;have hnl:=nmS_len y;have htl:tabT.length=10:=rfl;have hvl:=v.len;refine pret_wr ok 2 Tryz.func18 rfl rfl rfl (fun h=>rfl) (wr_seq (wkA ok mixed (A:=A18) ?_))
  (repeat' (first|exact rfl|((conv=>whnf);first|exact rfl|exact ⟨rfl,rfl⟩|refine go1 ?_|(intro ep)|fail)))
  (conv=>whnf);obtain ⟨e0,he0⟩:∃e,e=ep:=⟨_,rfl⟩;subst he0;refine wr_seq (wkA ok mixed (A:=A18) ?_)
  (repeat' (first|exact rfl|((conv=>whnf);first|(refine ⟨_,hof,?_⟩)|exact rfl|exact ⟨rfl,rfl⟩|refine go1 ?_|(intro ep)|fail)))
  (conv=>whnf);refine wr_seq (wkA ok mixed (A:=A18) ?_)
  (repeat' (first|exact rfl|((conv=>whnf);first|exact rfl|exact ⟨rfl,rfl⟩|refine go1 ?_|(intro ep)|fail)))
  (conv=>whnf);refine wr_seq (wkA ok mixed (A:=A18) ?_)
  (repeat' (first|exact rfl|((conv=>whnf);first|(refine ⟨_,hck,?_⟩)|exact rfl|exact ⟨rfl,rfl⟩|refine go1 ?_|(intro ep)|fail)))
  (conv=>whnf);refine wr_seq (wkA ok mixed (A:=A18) ?_)
  (repeat' (first|exact rfl|((conv=>whnf);first|(refine ⟨_,hcn,?_⟩)|exact rfl|exact ⟨rfl,rfl⟩|refine go1 ?_|(intro ep)|fail)))
  (conv=>whnf);refine wr_seq (wkA ok mixed (A:=A18) ?_)
  (repeat' (first|exact rfl|((conv=>whnf);first|(refine ⟨_,hfm,?_⟩)|exact rfl|exact ⟨rfl,rfl⟩|refine go1 ?_|(intro ep)|fail)))
  (conv=>whnf);refine wr_seq (wkA ok mixed (A:=A18) ?_)
  (repeat' (first|exact rfl|((conv=>whnf);first|exact rfl|exact ⟨rfl,rfl⟩|refine go1 ?_|(intro ep)|fail)))
  (conv=>whnf);refine wr_new rfl (id:=.s 1) rfl rfl rfl rfl fun ep=>?_;refine we_seq (we_write ok rfl (m:=7) (slot:=fun _=>.s 1) rfl rfl rfl ?_)
  (repeat' (first|exact rfl|((conv=>whnf);first|(refine ⟨_,_,nm_mo y,nm_spec y,?_⟩)|(refine ⟨by show 10+(nmS y).length≤strMax;unfold strMax;omega,?_⟩)|(refine ⟨by show (tabT++nmS y).length+1≤strMax;unfold strMax;rw [List.length_append];omega,?_⟩)|(refine ⟨by show ((tabT++nmS y)++[10]).length+(fmtI p.ins).length≤strMax;unfold strMax;rw [List.length_append,List.length_append,List.length_singleton];omega,?_⟩)|(refine ⟨by show (((tabT++nmS y)++[10])++fmtI p.ins).length+1≤strMax;unfold strMax;rw [List.length_append,List.length_append,List.length_append,List.length_singleton];omega,?_⟩)|exact rfl|exact ⟨rfl,rfl⟩|refine go1 ?_|(intro ep)|fail)))
  (conv=>whnf);have hhl:(hdT y p).length≤400:=by unfold hdT;simp only [List.length_append,List.length_singleton];omega
  refine ⟨hdT y p,rfl,by rw [List.length_nil];omega,?_⟩;(conv=>whnf);refine we_seq (we_seq (WE.frame (wkA ok mixed (A:=A18) ?_)))
  (repeat' (first|exact rfl|((conv=>whnf);first|exact rfl|exact ⟨rfl,rfl⟩|refine go1 ?_|(intro ep)|fail)))
  (conv=>whnf);refine we_block (we_loop [0,3,6,11,48,49] [0] (S:={ k:Nat // k≤p.evs.length })
   (fun s=>frOf 0 61 [(0,.int .u8 y.n),(3,.optr (.s 0) e0 3 0 0),(6,y.a),(11,.optr (.s 1) ep 2 0 0),(48,.int .i64 p.evs.length),(49,.int .i64 (s.1:Int))])
   (fun s=>⟨[.vec e0 [[crsA p.ins.cs,intsA p.ins.steps,evsA p.evs]],.hole],[]⟩) (fun s=>hdT y p++colsT y p 0 (p.evs.take s.1)) (fun s=>p.evs.length-s.1) ⟨0,by omega⟩ rfl rfl (by rw [List.take_zero];simp [colsT]) ?_)
  rintro ⟨k,hk⟩;dsimp only;have hcl:=colsT_len (y:=y) hc k;refine we_seq (WE.frame (wkA ok mixed (A:=A18) ?_))
  (repeat' (first|exact rfl|((conv=>whnf);first|exact rfl|exact ⟨rfl,rfl⟩|refine go1 ?_|(intro ep)|fail)))
  (conv=>whnf);by_cases hkl:k<p.evs.length
  ·refine we_seq (we_cond (t:=true) (by show AV.bool (decide ((k:Int)<(p.evs.length:Int)))=_;rw [decide_eq_true (by omega)]) (we_skip ?_));(conv=>whnf);have hco:=col_spec y p k hc hkl;have hcl0:=colS_len0 (y:=y) hc hkl;have hsn:=colsT_snoc y p p.evs 0 k hkl;rw [Nat.zero_add] at hsn;refine we_seq (we_block (we_seq (WE.frame (wkA ok mixed (A:=A18) ?_))))
   (repeat' (first|exact rfl|((conv=>whnf);first|exact rfl|exact ⟨rfl,rfl⟩|refine go1 ?_|(intro ep)|fail)))
   (conv=>whnf);refine we_write ok rfl (m:=6) (slot:=fun _=>.s 1) rfl rfl rfl ?_
   (repeat' (first|exact rfl|((conv=>whnf);first|(refine ⟨_,hco,?_⟩)|(refine ⟨by show (colS y p k p.evs[k]).length+1≤strMax;unfold strMax;omega,?_⟩)|exact rfl|exact ⟨rfl,rfl⟩|refine go1 ?_|(intro ep)|fail)))
   (conv=>whnf);refine ⟨colS y p k p.evs[k]++[10],rfl,by simp only [List.length_append,List.length_singleton];omega,?_⟩;(conv=>whnf);refine WE.frame (wkA ok mixed (A:=A18) ?_);have hw:IntKind.i64.wrap ((k:Int)+1)=((k+1:Nat):Int):=by simp (disch:=omega) only [wrapI];omega
   (repeat' (first|exact rfl|((conv=>whnf);first|(rw [hw])|exact rfl|exact ⟨rfl,rfl⟩|refine go1 ?_|(intro ep)|fail)))
   (conv=>whnf);refine back_of ⟨k+1,hkl⟩ ⟨rfl,rfl,?_,by dsimp only;omega⟩;dsimp only;rw [hsn];simp
  ·refine we_seq (we_cond (t:=false) (by show AV.bool (decide ((k:Int)<(p.evs.length:Int)))=_;rw [decide_eq_false (by omega)]) (we_exit ?_));(conv=>whnf);have hk2:k=p.evs.length:=by omega
   subst hk2;rw [List.take_length];refine we_last ok rfl (rest:=[1,2]) (slot:=fun _=>.s 1) rfl rfl rfl rfl rfl (by unfold hdT;simp) ?_
   (repeat' (first|exact rfl|((conv=>whnf);first|exact rfl|exact ⟨rfl,rfl⟩|refine go1 ?_|(intro ep)|fail)))

def redE (y:Sy) (p:Pc):Int:=if ¬chk p=0 then chk p else if hasL (lacksP y p) 5=true then 31 else if redN y p=true then 31 else 0
theorem red_spec (y:Sy) (p:Pc) (hp:p.Ok):PRet C.P 17 [.int .u8 y.n,pcA p] (if redE y p=0 then .tup [pcA (redX y p),lksA (redL y p),.int .i64 0] else errA3 (redE y p)):=by
 by_cases h:chk p=0
 ·by_cases h5:hasL (lacksP y p) 5=true
  ·have e:redE y p=31:=by unfold redE;rw [if_neg (fun x=>x h),if_pos h5]
   rw [e,if_neg (by decide)];exact red17c y p hp h h5
  ·have hr:=red17_spec y p h (by simpa using h5);unfold redR at hr;by_cases hn:redN y p=true
   ·have e:redE y p=31:=by unfold redE;rw [if_neg (fun x=>x h),if_neg h5,if_pos hn]
    rw [if_pos hn] at hr;rw [e,if_neg (by decide)];exact hr
   ·have e:redE y p=0:=by unfold redE;rw [if_neg (fun x=>x h),if_neg h5,if_neg hn]
    rw [if_neg hn] at hr;rw [e,if_pos rfl];exact hr
 ·have e:redE y p=chk p:=by unfold redE;rw [if_pos h]
  rw [e,if_neg h];exact red17b y p hp h
theorem redX_ok {y:Sy} {p:Pc} (h:chk p=0):(redX y p).Ok:=by
 have hq:=redQ_chk (y:=y) h;have v:=vp hq;have hvl:=v.len;have hci:=v.cs;have hst:=v.steps;refine ⟨by unfold redX;dsimp only;omega,by unfold redX;dsimp only;omega,by unfold redX;dsimp only;rw [carE_len];omega,fun e he=>?_⟩;unfold redX at he;dsimp only at he;obtain ⟨j,hj,rfl⟩:=List.mem_iff_getElem.1 he;have h2:j<(redQ y p).evs.length:=by rw [←carE_len y (tiB y) (reB y) (redQ y p)];exact hj
 have:=congrArg List.length (carE_cs y (tiB y) (reB y) (redQ y p) hj h2);rw [List.length_map,List.length_map] at this;have h3:=kep_len y (redQ y p).evs[j].stops;have h4:=v.sl j h2;omega
def errT (e:Int):AV:=.tup [.str [],.nils,.int .i64 e]
def wrE (y:Sy) (q:Pc):Int:=if ¬chk q=0 then chk q else if canP y q=false then 31 else 0
theorem wr_spec (y:Sy) (q:Pc) (hq:q.Ok):PRet C.P 18 [.int .u8 y.n,pcA q] (if wrE y q=0 then .tup [.str (wrT y q),.int .i64 0] else .tup [.str [],.int .i64 (wrE y q)]):=by
 have h:=write_spec y q hq;unfold wrR2 at h;by_cases hc:chk q=0
 ·rw [if_neg (fun x=>x hc)] at h;by_cases h2:canP y q=false
  ·have e:wrE y q=31:=by unfold wrE;rw [if_neg (fun x=>x hc),if_pos h2]
   rw [if_pos h2] at h;rw [e,if_neg (by decide)];exact h
  ·have e:wrE y q=0:=by unfold wrE;rw [if_neg (fun x=>x hc),if_neg h2]
   rw [if_neg h2] at h;rw [e,if_pos rfl];exact h
 ·have e:wrE y q=chk q:=by unfold wrE;rw [if_pos hc]
  rw [if_pos hc] at h;rw [e,if_neg hc];exact h
def trnA (y:Sy) (p:Pc):AV:=if redE y p=0 then (if wrE y (redX y p)=0 then .tup [.str (wrT y (redX y p)),lksA (redL y p),.int .i64 0] else errT (wrE y (redX y p))) else errT (redE y p)
def A6:Ann:=fun r=>match r with
 |4=>{ slots:=[(7,0)] }
 |7=>{ slots:=[(7,1)] }
 |_=>{}
theorem trn6_none (t:List UInt8) (n:Int) (h:syOf n=none):PRet C.P 6 [.str t,.int .u8 n] (errT 30):=by
 have h16:=sysName_spec n;unfold sysName at h16;rw [h] at h16;refine pret_of ok mixed (A:=A6) 2 Tryz.func6 rfl ?_
 (repeat' (first|exact rfl|((conv=>whnf);first|(refine ⟨_,h16,?_⟩)|exact rfl|exact ⟨rfl,rfl⟩|refine go1 ?_|(intro ep)|(refine ifB ?_ ?_<;>intro hb<;>(try simp only [qs] at hb)<;>(try simp (disch:=omega) only [wrapI] at hb)<;>(try (exfalso;omega)))|fail)))
theorem trn6 (t:List UInt8) (y y0:Sy) (p:Pc) (hp:p.Ok) (hr:readS t=some (y0,p)):PRet C.P 6 [.str t,.int .u8 y.n] (trnA y p):=by
 have h16:=sys16 y;have h5:=read_some hr;have h17:=red_spec y p hp;unfold trnA;by_cases h1:redE y p=0
 ·rw [if_pos h1] at h17 ⊢;have hc:chk p=0:=by
   unfold redE at h1
   split at h1
   ·rename_i hx;exact absurd h1 hx
   ·rename_i hx;exact Decidable.of_not_not hx
  have h18:=wr_spec y (redX y p) (redX_ok hc);by_cases h2:wrE y (redX y p)=0
  ·rw [if_pos h2] at h18 ⊢;refine pret_of ok mixed (A:=A6) 2 Tryz.func6 rfl ?_
   (repeat' (first|exact rfl|((conv=>whnf);first|(refine ⟨_,h16,?_⟩)|(refine ⟨_,h5,?_⟩)|(refine ⟨_,h17,?_⟩)|(refine ⟨_,h18,?_⟩)|exact rfl|exact ⟨rfl,rfl⟩|refine go1 ?_|(intro ep)|(refine ifB ?_ ?_<;>intro hb<;>(try simp only [qs] at hb)<;>(try simp (disch:=omega) only [wrapI] at hb)<;>(try (exfalso;omega)))|fail)))
  ·rw [if_neg h2] at h18 ⊢;refine pret_of ok mixed (A:=A6) 2 Tryz.func6 rfl ?_
   (repeat' (first|exact rfl|((conv=>whnf);first|(refine ⟨_,h16,?_⟩)|(refine ⟨_,h5,?_⟩)|(refine ⟨_,h17,?_⟩)|(refine ⟨_,h18,?_⟩)|(exact absurd hb h2)|exact rfl|exact ⟨rfl,rfl⟩|refine go1 ?_|(intro ep)|(refine ifB ?_ ?_<;>intro hb<;>(try simp only [qs] at hb)<;>(try simp (disch:=omega) only [wrapI] at hb)<;>(try (exfalso;omega)))|fail)))
 ·rw [if_neg h1] at h17 ⊢;refine pret_of ok mixed (A:=A6) 2 Tryz.func6 rfl ?_
  (repeat' (first|exact rfl|((conv=>whnf);first|(refine ⟨_,h16,?_⟩)|(refine ⟨_,h5,?_⟩)|(refine ⟨_,h17,?_⟩)|(exact absurd hb h1)|exact rfl|exact ⟨rfl,rfl⟩|refine go1 ?_|(intro ep)|(refine ifB ?_ ?_<;>intro hb<;>(try simp only [qs] at hb)<;>(try simp (disch:=omega) only [wrapI] at hb)<;>(try (exfalso;omega)))|fail)))
theorem ACalls.any {P:Program} {f:FuncId} {args:List AV} {h:Heap} {K0:AV→Prop} {K:AV→Heap→Prop} (hc:ACalls P f args Heap.nil fun r _=>K0 r) (hK:∀r,K0 r→K r h):ACalls P f args h K:=by
 obtain ⟨st,dy⟩:=h;refine ACalls.part (h:=⟨st,dy⟩) (st1:=[]) (dy:=dy) (K0:=fun r h1=>K0 r∧h1.dy=dy) 0 rfl rfl rfl (ACalls.frameD (K0:=fun r _=>K0 r) hc fun r h1 k=>⟨k,rfl⟩) fun r h1 ⟨k,e⟩=>?_;rw [e];exact hK r k
theorem trn6_bad (t:List UInt8) (y:Sy) (hr:readS t=none):ACalls C.P 6 [.str t,.int .u8 y.n] Heap.nil fun r _=>∃e:Int,e≠0∧r=errT e:=by
 have h16:=sys16 y;have h5:=read_none hr;have key:∀{h:Heap} {K:AV→Heap→Prop},(∀l e:Int,e≠0→K (.tup [.int .u8 0,zeroA,.int .i64 l,.int .i64 e]) h)→ACalls C.P 5 [.str t] h K:=fun hK=>ACalls.any h5 fun r ⟨l,e,he,hr⟩=>by subst hr;exact hK l e he
 refine fn_of (okx [] [5]) mixed (A:=A6) 2 Tryz.func6 rfl ?_
 (repeat' (first|exact ⟨_,‹_≠_›,rfl⟩|exact rfl|((conv=>whnf);first|(refine ⟨_,h16,?_⟩)|(refine key fun l e he=>?_)|(exact absurd hb ‹_≠_›)|exact rfl|exact ⟨rfl,rfl⟩|refine go1 ?_|(intro ep)|(refine ifB ?_ ?_<;>intro hb<;>(try simp only [qs] at hb)<;>(try simp (disch:=omega) only [wrapI] at hb)<;>(try (exfalso;omega)))|fail)))

theorem allR {n:Nat} {f:Nat→Bool} (h:(List.range n).all f=true) {k:Nat} (hk:k<n):f k=true:=List.all_eq_true.1 h k (List.mem_range.2 hk)
def noB (l:List UInt8):Bool:=!(l.contains 32)&& !(l.contains 10)
theorem noB_32 {l:List UInt8} (h:noB l=true):(32:UInt8)∉l:=by
 unfold noB at h;simp at h;exact h.1
theorem noB_10 {l:List UInt8} (h:noB l=true):(10:UInt8)∉l:=by
 unfold noB at h;simp at h;exact h.2
theorem noB_app {a b:List UInt8} (h:noB a=true) (k:noB b=true):noB (a++b)=true:=by
 unfold noB at *;simp at *;exact ⟨⟨h.1,k.1⟩,h.2,k.2⟩
def t_nm (p:Nat):Bool:=(match pnm (fmtN (p:Int)) with
 | .inl r=>sndV r.1 r.2.1 r.2.2==(p:Int)
 | .inr _=>false)&&noB (fmtN (p:Int))&& !((fmtN (p:Int)).contains 47)
theorem t_nm_all:(List.range 128).all t_nm=true:=by kernel_rfl
def t_no (p:Nat):Bool:=(numS (itoa3 (p:Int))==((p:Int),true))&&noB (itoa3 (p:Int))&& !((itoa3 (p:Int)).getLast?==some 43)
theorem t_no_all:(List.range 128).all t_no=true:=by kernel_rfl
theorem num_back {s:Int} (h0:0≤s) (h1:s≤127):numS (itoa3 s)=(s,true)∧noB (itoa3 s)=true∧(itoa3 s).getLast?≠some 43:=by
 obtain ⟨n,rfl⟩:∃n:Nat,s=n:=⟨s.toNat,by omega⟩;have:=allR t_no_all (k:=n) (by omega);unfold t_no at this;simp only [Bool.and_eq_true,beq_iff_eq,Bool.not_eq_true'] at this;exact ⟨this.1.1,this.1.2,by simpa using this.2⟩
def wrdC (c:Crs):List UInt8:=((fmtN c.pitch++[47])++itoa3 c.frets)++(if c.oct=true then [43] else [])
theorem fmtC_eq (c:Crs):fmtC c=wrdC c++[32]:=rfl
theorem crs_back {c:Crs} (hf:0≤c.frets∧c.frets≤18) (hp:0≤c.pitch∧c.pitch≤127):crsP (wrdC c)= .inl (c.pitch,c.frets,c.oct)∧noB (wrdC c)=true∧wrdC c≠[58]:=by
 obtain ⟨p,f,o⟩:=c;dsimp only at hf hp;obtain ⟨n1,n2,n3⟩:=num_back hf.1 (by omega:f≤127);obtain ⟨n,rfl⟩:∃n:Nat,p=n:=⟨p.toNat,by omega⟩;have:=allR t_nm_all (k:=n) (by omega);unfold t_nm at this;simp only [Bool.and_eq_true,Bool.not_eq_true'] at this;obtain ⟨⟨h1,h2⟩,h3⟩:=this;have h3:(47:UInt8)∉fmtN n:=by simpa using h3
 have hw:wrdC ⟨n,f,o⟩=fmtN n++47::(itoa3 f++(if o=true then [43] else [])):=by unfold wrdC;simp
 refine ⟨?_,?_,?_⟩
 ·unfold crsP;rw [hw,cutB_at h3];have hs:sfxB 43 (itoa3 f++(if o=true then [43] else []))=(itoa3 f,o):=by
   unfold sfxB;cases o with
   |true=>simp
   |false=>simp only [Bool.false_eq_true,if_false,List.append_nil];rw [if_neg n3]
  simp only [Bool.true_eq_false,if_false,hs]
  split
  ·rename_i e he;rw [he] at h1;cases h1
  ·rename_i r hr;rw [hr] at h1;have h1:=eq_of_beq h1;rw [n1];simp [h1]
 ·rw [hw];refine noB_app h2 ?_;have:noB (itoa3 f++(if o=true then [43] else []))=true:=noB_app n2 (by cases o<;>rfl);unfold noB at this ⊢;simp at this ⊢;exact this
 ·rw [hw];intro h;have:(47:UInt8)∈([58]:List UInt8):=by rw [←h];simp
  simp at this
theorem split_cs:∀(l:List Crs) (x:List UInt8),(∀c∈l,(32:UInt8)∉wrdC c)→splitC 32 (fmtCs l++x)=l.map wrdC++splitC 32 x
 | [],x,_=>rfl
 |c::l,x,h=>by
  have e:fmtCs (c::l)++x=wrdC c++32::(fmtCs l++x):=by simp [fmtCs,fmtC_eq]
  rw [e,splitC_at (h c (by simp)),split_cs l x fun c hc=>h c (by simp [hc])];rfl
theorem split_ss:∀(l:List Int) (x:List UInt8),(32:UInt8)∉x→(∀s∈l,(32:UInt8)∉itoa3 s)→splitC 32 (x++fmtSs l)=x::l.map itoa3
 | [],x,hx,_=>by rw [show fmtSs []=[] from rfl,List.append_nil,splitC_no hx];rfl
 |s::l,x,hx,h=>by
  have e:x++fmtSs (s::l)=x++32::(itoa3 s++fmtSs l):=by simp [fmtSs]
  rw [e,splitC_at hx,split_ss l (itoa3 s) (h s (by simp)) fun s hs=>h s (by simp [hs])];rfl
theorem idx_cs:∀(l:List Crs) (k:Int) (x:List (List UInt8)),(∀c∈l,wrdC c≠[58])→idxF [58] (l.map wrdC++[58]::x) k=k+l.length
 | [],k,x,_=>by simp [idxF]
 |c::l,k,x,h=>by
  rw [List.map_cons,List.cons_append,idxF,if_neg (fun e=>h c (by simp) e.symm),idx_cs l (k+1) x fun c hc=>h c (by simp [hc])];rw [List.length_cons];omega
theorem crsG_back:∀(l acc:List Crs),(∀c∈l,crsP (wrdC c)= .inl (c.pitch,c.frets,c.oct))→crsG acc (l.map wrdC)= .inl (acc++l)
 | [],acc,_=>by simp [crsG]
 |c::l,acc,h=>by
  rw [List.map_cons,crsG,h c (by simp)];dsimp only;rw [crsG_back l _ fun c hc=>h c (by simp [hc])];simp
theorem stpG_back:∀(l acc:List Int),(∀s∈l,numS (itoa3 s)=(s,true))→stpG acc (l.map itoa3)=some (acc++l)
 | [],acc,_=>by simp [stpG]
 |s::l,acc,h=>by
  rw [List.map_cons,stpG,h s (by simp),if_pos rfl,stpG_back l _ fun c hc=>h c (by simp [hc])];simp
theorem fmt_words {i:Ins} (h:InOk i):splitC 32 (fmtI i)=i.cs.map wrdC++[58]::i.steps.map itoa3:=by
 unfold fmtI;rw [List.append_assoc,split_cs _ _ fun c hc=>noB_32 (crs_back ⟨(h.crs c hc).1,(h.crs c hc).2.1⟩ (h.crs c hc).2.2).2.1,
  split_ss _ _ (by decide) fun s hs=>noB_32 (num_back (by have:=h.stp s hs;omega) (h.stp s hs).2).2.1]
theorem prs_fmt {i:Ins} (hc:chkIn i=0):prsI (fmtI i)= .inl i:=by
 have h:=chkIn_ok hc;have hx:idxF [58] (splitC 32 (fmtI i)) 0=(i.cs.length:Int):=by
  rw [fmt_words h,idx_cs _ _ _ fun c hc=>(crs_back ⟨(h.crs c hc).1,(h.crs c hc).2.1⟩ (h.crs c hc).2.2).2.2,Int.zero_add]
 have t1:(i.cs.map wrdC++[58]::i.steps.map itoa3).take i.cs.length=i.cs.map wrdC:=by
  rw [List.take_append_of_le_length (by simp),List.take_of_length_le (by simp)]
 have t2:(i.cs.map wrdC++[58]::i.steps.map itoa3).drop (i.cs.length+1)=i.steps.map itoa3:=by
  rw [List.drop_append,List.drop_of_length_le (by simp),List.length_map,show i.cs.length+1-i.cs.length=1 by omega];rfl
 unfold prsI prsW;rw [hx,if_neg (by omega),Int.toNat_natCast,fmt_words h,t1,t2,crsG_back _ _ fun c hc=>(crs_back ⟨(h.crs c hc).1,(h.crs c hc).2.1⟩ (h.crs c hc).2.2).1];dsimp only;rw [stpG_back _ _ fun s hs=>(num_back (by have:=h.stp s hs;omega) (h.stp s hs).2).1];simp only [List.nil_append];rw [if_pos hc]
theorem fmtI_10 {i:Ins} (hc:chkIn i=0):(10:UInt8)∉fmtI i:=by
 have h:=chkIn_ok hc;unfold fmtI fmtCs fmtSs;simp only [List.mem_append,List.mem_flatMap,not_or,not_exists,not_and];refine ⟨⟨fun c hc=>?_,by decide⟩,fun s hs=>?_⟩
 ·rw [fmtC_eq];have:=noB_10 (crs_back ⟨(h.crs c hc).1,(h.crs c hc).2.1⟩ (h.crs c hc).2.2).2.1;simp [this]
 ·have:=noB_10 (num_back (by have:=h.stp s hs;omega) (h.stp s hs).2).2.1;simp [this]

def coOf (y:Sy) (c:Int):Int:=if y= .ge∨6<c then 0 else c
def hldT (y:Sy) (k:Int):List UInt8:=if k=0 then [] else if y= .fr then 95::itoa3 k else [42]
def hwr (y:Sy) (k:Int):Int:=if k=0 then 0 else if y= .fr then k else -1
def mrkT (y:Sy) (r g k:Int):List UInt8:=(rgtS y r).1++(grcS y g).1++hldT y k
def mrkB (y:Sy) (r g:Int):Bool:=(rgtS y r).2&&(grcS y g).2
def t_mk (y:Sy) (r g k:Nat) (f:Int):Bool:=!(mrkB y r g)||(y== .sp&&decide (0<k))||((mkR y (mrkT y r g k)).1==(r:Int)&&(mkG y (mrkT y r g k)).1==(g:Int)&&mkO y f (mrkT y r g k)==some (hwr y k)&&noB (mrkT y r g k)&&decide ((mrkT y r g k).length≤5))
def t_mkA (y:Sy):Bool:=(List.range 4).all fun r=>(List.range 5).all fun g=>((List.range 16).all fun k=>t_mk y r g k 1)&&t_mk y r g 0 0
theorem t_mk_fr:t_mkA .fr=true:=by kernel_rfl
theorem t_mk_it:t_mkA .it=true:=by kernel_rfl
theorem t_mk_sp:t_mkA .sp=true:=by kernel_rfl
theorem t_mk_ge:t_mkA .ge=true:=by kernel_rfl
theorem t_mk_all (y:Sy):t_mkA y=true:=by
 cases y
 ·exact t_mk_fr
 ·exact t_mk_it
 ·exact t_mk_sp
 ·exact t_mk_ge
theorem mkO_pos {y:Sy} {f:Int} {t:List UInt8} (h:0<f):mkO y f t=mkO y 1 t:=by
 unfold mkO mkH mkN0 mkS;simp [h]
def preA (y:Sy) (p:Nat×Nat) (t:List UInt8):Bool:=(List.range 4).all fun r=>(List.range 5).all fun g=>!(mrkB y r g)||(List.range 16).all fun k=>(mkO y p.2 (t++mrkT y r g k)).isNone
def preP (y:Sy) (co:Int) (t:List UInt8) (pos:Nat):Bool:=decide (pos=0)||(match placeS y co (t.take pos) with
 |none=>true
 |some p=>preA y p (t.drop pos))
def hdB (t:List UInt8):Bool:=match t with
 | []=>false
 |b::_=>!(([45,126,37,124]:List UInt8).contains b)
def t_sy (y:Sy) (c f:Nat):Bool:=!(symS y c f).2||(placeS y (coOf y c) (symS y c f).1==some (c,f)&&(noB (symS y c f).1&&decide ((symS y c f).1.length≤4))&&(symS y c f).1.all (fun b=>decide (b.toNat<128))&&hdB (symS y c f).1&&(List.range (symS y c f).1.length).all (preP y (coOf y c) (symS y c f).1))
def t_syA (y:Sy):Bool:=(List.range 15).all fun c=>decide (c=0)||(List.range 19).all fun f=>t_sy y c f
theorem t_sy_fr:t_syA .fr=true:=by kernel_rfl
theorem t_sy_it:t_syA .it=true:=by kernel_rfl
theorem t_sy_sp:t_syA .sp=true:=by kernel_rfl
theorem t_sy_ge:t_syA .ge=true:=by kernel_rfl
theorem t_sy_all (y:Sy):t_syA y=true:=by
 cases y
 ·exact t_sy_fr
 ·exact t_sy_it
 ·exact t_sy_sp
 ·exact t_sy_ge
theorem celR_to {y:Sy} {co:Int} {t:List UInt8} {L:Nat} {w:Wr} (hL:L≤t.length) (ha:∀p (h:p<L),(t[p]'(by omega)).toNat<128) (hno:∀p,p<L→celAt y co t p=none) (hw:celAt y co t L=some w):
  ∀(n pos:Nat),pos≤L→L<n+pos→celR y co t n pos=some w
 |0,pos,h1,h2=>by omega
 |n+1,pos,h1,h2=>by
  rw [celR,if_pos (by omega)];by_cases hp:pos=L
  ·subst hp;rw [hw]
  ·rw [hno pos (by omega)];dsimp only;have e:(runeA (t++[32]) pos).2=1:=runeA_ascii _ _ (by simp;omega) (by
    rw [List.getElem_append_left (by omega)];exact ha pos (by omega))
   rw [e];exact celR_to hL ha hno hw n (pos+1) (by omega) (by omega)
theorem hld_tx {y:Sy} {h lg:Int} (ho:(hldS y h lg).2=true):(hldS y h lg).1=hldT y h∧(y= .sp→h=0):=by
 cases y
 ·refine ⟨?_,fun e=>by cases e⟩;unfold hldS holdFr hldT;simp only
  split
  ·rfl
  ·rfl
 ·refine ⟨?_,fun e=>by cases e⟩;unfold hldS holdSt at *;unfold hldT;simp only at *
  split
  ·rfl
  ·rename_i h0;rw [if_neg h0] at ho
   split at ho
   ·rename_i h1;rw [if_pos h1];rfl
   ·cases ho
 ·unfold hldS at ho ⊢;simp only [decide_eq_true_eq] at ho;subst ho;exact ⟨rfl,fun _=>rfl⟩
 ·refine ⟨?_,fun e=>by cases e⟩;unfold hldS holdSt at *;unfold hldT;simp only at *
  split
  ·rfl
  ·rename_i h0;rw [if_neg h0] at ho
   split at ho
   ·rename_i h1;rw [if_pos h1];rfl
   ·cases ho
theorem cell_back {y:Sy} {s:Stp} {lg:Int} (hs:s.In) (hf:0<s.h→s.f≠0) (ho:(cellS y s lg).2=true):
  cellW y (coOf y s.c) (cellS y s lg).1=some ⟨s.c,s.f,s.r,s.g,hwr y s.h⟩∧noB (cellS y s lg).1=true∧hdB (cellS y s lg).1=true∧(cellS y s lg).1.length≤9:=by
 obtain ⟨c,f,r,g,h⟩:=s;obtain ⟨c1,c2,f1,f2,r1,r2,g1,g2,h1,h2⟩:=hs;dsimp only at *;obtain ⟨c,rfl⟩:∃n:Nat,c=n:=⟨c.toNat,by omega⟩;obtain ⟨f,rfl⟩:∃n:Nat,f=n:=⟨f.toNat,by omega⟩;obtain ⟨r,rfl⟩:∃n:Nat,r=n:=⟨r.toNat,by omega⟩;obtain ⟨g,rfl⟩:∃n:Nat,g=n:=⟨g.toNat,by omega⟩;obtain ⟨h,rfl⟩:∃n:Nat,h=n:=⟨h.toNat,by omega⟩;unfold cellS at ho ⊢;dsimp only at ho ⊢;simp only [Bool.and_eq_true] at ho;obtain ⟨⟨⟨o1,o2⟩,o3⟩,o4⟩:=ho;obtain ⟨e4,e5⟩:=hld_tx o4;have ht:(symS y c f).1++(rgtS y r).1++(grcS y g).1++(hldS y h lg).1=(symS y c f).1++mrkT y r g h:=by
  rw [e4];unfold mrkT;simp only [List.append_assoc]
 rw [ht];have hmb:mrkB y r g=true:=by unfold mrkB;rw [o2,o3];rfl
 have hsp:(y==Sy.sp&&decide (0<h))=false:=by
  cases hy:(y==Sy.sp) with
  |false=>rfl
  |true=>
   have:=e5 (eq_of_beq hy);simp;omega
 have A:=t_mk_all y;have A:=allR (allR A (k:=r) (by omega)) (k:=g) (by omega);rw [Bool.and_eq_true] at A;have M:∃f':Int,mkO y f (mrkT y r g h)=mkO y f' (mrkT y r g h)∧t_mk y r g h f'=true:=by
  by_cases hf0:f=0
  ·have hh:h=0:=by
    rcases Nat.eq_zero_or_pos h with e|e
    ·exact e
    ·exact absurd hf0 (by have:=hf (by omega);omega)
   subst hf0 hh;exact ⟨0,rfl,A.2⟩
  ·exact ⟨1,mkO_pos (by omega),allR A.1 (by omega)⟩
 obtain ⟨f',M1,M2⟩:=M;unfold t_mk at M2;rw [hmb,hsp] at M2;simp only [Bool.not_true,Bool.false_or,Bool.and_eq_true,beq_iff_eq,decide_eq_true_eq] at M2;obtain ⟨⟨⟨⟨m1,m2⟩,m3⟩,m4⟩,m5⟩:=M2;have B:=t_sy_all y;have B:=allR B (k:=c) (by omega);rw [decide_eq_false (by omega:¬c=0),Bool.false_or] at B;have B:=allR B (k:=f) (by omega);unfold t_sy at B;rw [o1] at B;simp only [Bool.not_true,Bool.false_or,Bool.and_eq_true,beq_iff_eq,decide_eq_true_eq] at B;obtain ⟨⟨⟨⟨b1,b2,b6⟩,b3⟩,b4⟩,b5⟩:=B;obtain ⟨S,hS⟩:∃S,S=(symS y c f).1:=⟨_,rfl⟩;rw [←hS] at b1 b2 b3 b4 b5 b6 ⊢;obtain ⟨T,hT⟩:∃T,T=mrkT y r g h:=⟨_,rfl⟩;rw [←hT] at m1 m2 m3 m4 m5 M1 ⊢;refine ⟨?_,noB_app b2 m4,?_,by rw [List.length_append];omega⟩
 ·refine celR_to (L:=S.length) (by simp) (fun p hp=>?_) (fun p hp=>?_) ?_ _ 0 (by omega) (by simp;omega)
  ·rw [List.getElem_append_left hp];simpa using List.all_eq_true.1 b3 _ (List.getElem_mem hp)
  ·unfold celAt
   split
   ·rfl
   ·rename_i hp0;have P:=allR b5 hp;unfold preP at P;rw [decide_eq_false hp0,Bool.false_or] at P;rw [List.take_append_of_le_length (by omega),List.drop_append_of_le_length (by omega)]
    split
    ·rfl
    ·rename_i q hq;rw [hq] at P;dsimp only at P;unfold preA at P;have P:=allR (allR P (k:=r) (by omega)) (k:=g) (by omega);rw [hmb,Bool.not_true,Bool.false_or] at P;have P:=allR P (k:=h) (by omega);rw [←hT] at P;rw [Option.isNone_iff_eq_none] at P;rw [P]
  ·unfold celAt;rw [if_neg (by intro e;rw [List.length_eq_zero_iff] at e;rw [e] at b4;cases b4),List.take_left,List.drop_left,b1];dsimp only;rw [M1,m3];dsimp only;rw [m1,m2]
 ·cases S with
  |nil=>cases b4
  |cons b S=>exact b4
end Go.Ab.V

namespace Go.Ab.V
open Go.Proofs
theorem splitC_join {c:UInt8}:∀(ws:List (List UInt8)),ws≠[]→(∀w∈ws,c∉w)→splitC c (joinS [c] ws)=ws
 | [],h,_=>absurd rfl h
 | [x],_,h=>by rw [joinS,splitC_no (h x (by simp))]
 |x::z::r,_,h=>by
  rw [joinS]
  ·rw [List.append_assoc,List.singleton_append,splitC_at (h x (by simp)),splitC_join (z::r) (by simp) fun w hw=>h w (by simp [hw])]
  ·simp
theorem joinS_no {c d:UInt8} (hd:d≠c):∀(ws:List (List UInt8)),(∀w∈ws,d∉w)→d∉joinS [c] ws
 | [],_=>by simp [joinS]
 | [x],h=>by rw [joinS];exact h x (by simp)
 |x::z::r,h=>by
  have:=joinS_no hd (z::r) fun w hw=>h w (by simp [hw]);rw [joinS]
  ·simp only [List.mem_append,List.mem_singleton,not_or];exact ⟨⟨h x (by simp),hd⟩,this⟩
  ·simp
section
variable (y:Sy) (p:Pc) (k n:Nat)
def celW (s:Stp):List UInt8:=(cellS y s (longest p.evs k s.c)).1
theorem colG_all (Q:List UInt8→Prop):∀(l:List Stp) (O X:List (List UInt8)),(∀w∈O,Q w)→(∀w∈X,Q w)→(∀s∈l,Q (celW y p k s))→(∀w∈(colG y p k n O X l).1,Q w)∧(∀w∈(colG y p k n O X l).2,Q w)
 | [],O,X,ho,hx,_=>⟨ho,hx⟩
 |s::r,O,X,ho,hx,hc=>by
  have h0:=hc s (by simp);have h1:∀s∈r,Q (celW y p k s):=fun s hs=>hc s (by simp [hs]);rw [colG]
  split
  ·refine colG_all Q r _ _ (fun w hw=>?_) hx h1
   rcases List.mem_or_eq_of_mem_set hw with h|rfl
   ·exact ho w h
   ·exact h0
  ·split
   ·refine colG_all Q r _ _ ho (fun w hw=>?_) h1
    rcases List.mem_append.1 hw with h|h
    ·exact hx w h
    ·rw [List.mem_singleton.1 h];exact h0
   ·refine colG_all Q r _ _ ho (fun w hw=>?_) h1
    rcases List.mem_cons.1 hw with h|h
    ·rw [h];exact h0
    ·exact hx w h
theorem cgG_len:∀(l:List Stp) (O X:List (List UInt8)),(colG y p k n O X l).1.length=O.length
 | [],O,X=>rfl
 |s::r,O,X=>by
  rw [colG]
  split
  ·rw [cgG_len r,List.length_set]
  ·split
   ·exact cgG_len r _ _
   ·exact cgG_len r _ _
theorem lin_ne (y:Sy) (hy:y≠.ge) {n:Nat} {a b:Int} (ha:1≤a∧a≤n) (hb:1≤b∧b≤n) (h:a≠b):(linS y a n).toNat-1≠(linS y b n).toNat-1∧(linS y a n).toNat-1<n:=by
 cases y
 ·simp only [linS];omega
 ·simp only [linS];omega
 ·simp only [linS];omega
 ·exact absurd rfl hy
theorem colG_get (hy:y≠.ge) (c:Int) (hc:1≤c∧c≤n):∀(l:List Stp) (O X:List (List UInt8)),O.length=n→(∀s∈l,1≤s.c)→l.Pairwise (fun a b=>a.c<b.c)→
  (colG y p k n O X l).1.getD ((linS y c n).toNat-1) []=match l.find? (fun s=>s.c==c) with
   |some s=>celW y p k s
   |none=>O.getD ((linS y c n).toNat-1) []
 | [],O,X,_,_,_=>rfl
 |s::r,O,X,ho,h1,hp=>by
  have hp2:=List.pairwise_cons.1 hp;have h1r:∀s∈r,1≤s.c:=fun s hs=>h1 s (by simp [hs]);rw [colG];by_cases hsc:s.c=c
  ·have hf:r.find? (fun s=>s.c==c)=none:=by
    rw [List.find?_eq_none];intro x hx;have:=hp2.1 x hx;simp;omega
   rw [if_pos (by omega),colG_get hy c hc r _ X (by rw [List.length_set];exact ho) h1r hp2.2,hf,List.find?_cons_of_pos (by simpa using hsc)];dsimp only;rw [hsc,List.getD_eq_getElem?_getD,List.getElem?_set_self (by
    have:(linS y c n).toNat-1<n:=by
     cases y
     ·simp only [linS];omega
     ·simp only [linS];omega
     ·simp only [linS];omega
     ·exact absurd rfl hy
    omega)]
   show (cellS y s (longest p.evs k c)).1=_;rw [←hsc];rfl
  ·rw [List.find?_cons_of_neg (by simpa using hsc)]
   split
   ·rename_i hsn;rw [colG_get hy c hc r _ X (by rw [List.length_set];exact ho) h1r hp2.2]
    split
    ·rfl
    ·rw [List.getD_eq_getElem?_getD,List.getElem?_set_ne (by
      have:=(lin_ne y hy (n:=n) (a:=s.c) (b:=c) ⟨h1 s (by simp),by omega⟩ hc hsc).1;omega),←List.getD_eq_getElem?_getD]
   ·split
    ·exact colG_get hy c hc r O _ ho h1r hp2.2
    ·exact colG_get hy c hc r O _ ho h1r hp2.2
theorem colG_out:∀(l:List Stp) (O X:List (List UInt8)),(colG y p k n O X l).2=if obS y=true then X++(l.filter fun s:Stp=>!decide (s.c≤(n:Int))).map (celW y p k) else ((l.filter fun s:Stp=>!decide (s.c≤(n:Int))).map (celW y p k)).reverse++X
 | [],O,X=>by simp [colG]
 |s::r,O,X=>by
  rw [colG];by_cases hs:s.c≤n
  ·rw [if_pos hs,colG_out r,List.filter_cons_of_neg (by simpa using hs)]
  ·rw [if_neg hs,List.filter_cons_of_pos (by simpa using hs)]
   split
   ·rename_i ho;rw [colG_out r,if_pos ho];simp [celW]
   ·rename_i ho;rw [colG_out r,if_neg ho];simp [celW]
end
theorem asc_split {n:Int}:∀{l:List Stp},l.Pairwise (fun a b=>a.c<b.c)→l.filter (fun s:Stp=>decide (s.c≤(n:Int)))++l.filter (fun s:Stp=>!decide (s.c≤(n:Int)))=l
 | [],_=>rfl
 |s::r,h=>by
  have h2:=List.pairwise_cons.1 h;by_cases hs:s.c≤n
  ·rw [List.filter_cons_of_pos (by simpa using hs),List.filter_cons_of_neg (by simpa using hs),List.cons_append,asc_split h2.2]
  ·have e1:r.filter (fun s:Stp=>decide (s.c≤(n:Int)))=[]:=by
    rw [List.filter_eq_nil_iff];intro x hx;have:=h2.1 x hx;simp;omega
   have e2:r.filter (fun s:Stp=>!decide (s.c≤(n:Int)))=r:=by
    rw [List.filter_eq_self];intro x hx;have:=h2.1 x hx;simp;omega
   rw [List.filter_cons_of_neg (by simpa using hs),List.filter_cons_of_pos (by simpa using hs),e1,e2];rfl
def stpW (y:Sy) (s:Stp):Wr:=⟨s.c,s.f,s.r,s.g,hwr y s.h⟩
theorem stfA_back {y:Sy} {n:Nat} {O:List (List UInt8)} {W:Stp→List UInt8}:∀(m c:Nat) (l:List Stp) (acc:List Wr),l.Pairwise (fun a b=>a.c<b.c)→(∀s∈l,(c:Int)≤s.c∧s.c<c+m)→
  (∀c':Nat,c≤c'→c'<c+m→O.getD ((linS y c' n).toNat-1) []=match l.find? (fun s=>s.c==(c':Int)) with|some s=>W s|none=>[45])→
  (∀s∈l,cellW y s.c (W s)=some (stpW y s)∧W s≠[45])→stfA y n O acc m c=some (acc++l.map (stpW y))
 |0,c,l,acc,_,h,_,_=>by
  have:l=[]:=by
   cases l with
   |nil=>rfl
   |cons s r=>have:=h s (by simp);omega
  subst this;simp [stfA]
 |m+1,c,l,acc,hp,h,hg,hw=>by
  have h0:=hg c (Nat.le_refl _) (by omega);rw [stfA,h0];have skip:l.find? (fun s=>s.c==(c:Int))=none→(∀s∈l,((c+1:Nat):Int)≤s.c)→stfA y n O acc m (c+1)=some (acc++l.map (stpW y)):=fun hn hl=>by
   refine stfA_back m (c+1) l acc hp (fun s hs=>⟨hl s hs,by have:=h s hs;omega⟩) (fun c' h1 h2=>hg c' (by omega) (by omega)) hw
  cases l with
  |nil=>
   simp only [List.find?_nil,if_true];exact skip rfl (by simp)
  |cons s r=>
   have hp2:=List.pairwise_cons.1 hp;by_cases hsc:s.c=c
   ·rw [List.find?_cons_of_pos (by simpa using hsc)];dsimp only;obtain ⟨w1,w2⟩:=hw s (by simp);rw [if_neg w2];rw [hsc] at w1;rw [w1];dsimp only;rw [stfA_back m (c+1) r (acc++[stpW y s]) hp2.2 (fun x hx=>⟨by have:=hp2.1 x hx;omega,by have:=h x (by simp [hx]);omega⟩) (fun c' h1 h2=>?_) fun x hx=>hw x (by simp [hx])]
    ·simp
    ·rw [hg c' (by omega) (by omega),List.find?_cons_of_neg (by simp;omega)]
   ·have hn:(s::r).find? (fun s=>s.c==(c:Int))=none:=by
     rw [List.find?_eq_none];intro x hx;have h1:=h s (by simp)
     rcases List.mem_cons.1 hx with rfl|hx
     ·simpa using hsc
     ·have:=hp2.1 x hx;simp;omega
    rw [hn];simp only [if_true];refine skip hn fun x hx=>?_;have h1:=h s (by simp)
    rcases List.mem_cons.1 hx with rfl|hx
    ·omega
    ·have:=hp2.1 x hx;omega
theorem outA_back {y:Sy} {W:Stp→List UInt8}:∀(l:List Stp) (acc:List Wr) (last:Int),l.Pairwise (fun a b=>a.c<b.c)→(∀s∈l,last<s.c)→(∀s∈l,cellW y 0 (W s)=some (stpW y s))→outA y acc last (l.map W)=some (acc++l.map (stpW y))
 | [],acc,last,_,_,_=>by simp [outA]
 |s::r,acc,last,hp,hl,hw=>by
  have hp2:=List.pairwise_cons.1 hp;rw [List.map_cons,outA,hw s (by simp)];dsimp only;have ih:=outA_back r (acc++[stpW y s]) (stpW y s).c hp2.2 (fun x hx=>hp2.1 x hx) fun x hx=>hw x (by simp [hx]);rw [if_neg (by have:=hl s (by simp);show ¬s.c≤last;omega),ih];simp
structure EvC (y:Sy) (p:Pc) (k:Nat) (e:Evt):Prop where
 sg:e.v=0→hasS y 6=true
 th:e.t=true→hasS y 5=true
 ti:e.tie=true→hasS y 7=true
 re:e.tie=false→e.stops=[]→hasS y 8=true
 st:∀s∈e.stops,(cellS y s (longest p.evs k s.c)).2=true
theorem lk1_nil {b:Bool} {e c w:Int} (h:lk1 b e c w=[]):b=true:=by
 unfold lk1 at h
 split at h
 ·assumption
 ·cases h
theorem lackEv_nil {y:Sy} {p:Pc} {k:Nat} {e:Evt} (h:lackEv y p.evs k e=[]):EvC y p k e:=by
 unfold lackEv lackHd at h;simp only [List.append_eq_nil_iff,List.flatMap_eq_nil_iff] at h;obtain ⟨⟨⟨h1,h2⟩,h3⟩,h4⟩:=h;refine ⟨fun e0=>?_,fun e0=>?_,fun e0=>?_,fun e0 e1=>?_,fun s hs=>?_⟩
 ·rw [if_pos e0] at h1;exact lk1_nil h1
 ·rw [if_pos e0] at h2;exact lk1_nil h2
 ·rw [if_pos e0] at h3;exact lk1_nil h3
 ·rw [if_neg (by simp [e0]),if_pos (by simp [e1])] at h3;exact lk1_nil h3
 ·have:=h4 s hs;unfold lackSt at this
  split at this
  ·rename_i h0;simp only [List.append_eq_nil_iff] at this;unfold cellS;dsimp only;rw [h0,lk1_nil this.1.1,lk1_nil this.1.2,lk1_nil this.2];rfl
  ·cases this
theorem lackAll_nil {y:Sy} {evs:List Evt}:∀{l:List Evt} {i:Nat},lackAll y evs i l=[]→∀j (h:j<l.length),lackEv y evs ((i+j:Nat):Int) l[j]=[]
 | [],_,_,j,h=>by simp at h
 |e::r,i,h0,j,h=>by
  rw [lackAll,List.append_eq_nil_iff] at h0;cases j with
  |zero=>exact h0.1
  |succ j=>
   have:=lackAll_nil h0.2 j (by simpa using h);rw [show i+(j+1)=i+1+j by omega];exact this
theorem can_ev {y:Sy} {p:Pc} (h:canP y p=true) {k:Nat} (hk:k<p.evs.length):EvC y p k p.evs[k]:=by
 unfold canP at h
 split at h
 ·cases h
 ·have h:=of_decide_eq_true h;have:=lackAll_nil (List.length_eq_zero_iff.1 h) k hk;rw [Nat.zero_add] at this;exact lackEv_nil this
def t_tm (y:Sy) (v:Nat) (d t:Bool):Bool:=!(right v d t)|| !(twS y v d t).2||(parseTm y (twS y v d t).1==some (v,d,t)&&noB (twS y v d t).1&& !((twS y v d t).1==[124]))
def t_tmA:Bool:=[Sy.fr,.it,.sp,.ge].all fun y=>(List.range 8).all fun v=>t_tm y v false false&&t_tm y v false true&&t_tm y v true false&&t_tm y v true true
theorem t_tm_all:t_tmA=true:=by kernel_rfl
theorem tm_back {y:Sy} {v:Int} {d t:Bool} (hr:right v d t=true) (h0:0≤v) (h7:v≤7) (hs:v=0→hasS y 6=true) (ht:t=true→hasS y 5=true):
  (∃n:Nat,v=n∧parseTm y (twS y v d t).1=some (n,d,t))∧noB (twS y v d t).1=true∧(twS y v d t).1≠[124]:=by
 obtain ⟨n,rfl⟩:∃n:Nat,v=n:=⟨v.toNat,by omega⟩;have h2:(twS y n d t).2=true:=by
  unfold twS
  split
  ·rename_i h;exact hs h
  ·split
   ·rename_i h;exact ht h
   ·split<;>rfl
 have A:=List.all_eq_true.1 t_tm_all y (by cases y<;>simp);have A:=allR A (k:=n) (by omega);simp only [Bool.and_eq_true] at A;have B:t_tm y n d t=true:=by
  cases d<;>cases t
  ·exact A.1.1.1
  ·exact A.1.1.2
  ·exact A.1.2
  ·exact A.2
 unfold t_tm at B;rw [hr,h2] at B;simp only [Bool.not_true,Bool.false_or,Bool.and_eq_true,beq_iff_eq,Bool.not_eq_true',beq_eq_false_iff_ne] at B;exact ⟨⟨n,rfl,B.1.1⟩,B.1.2,B.2⟩
end Go.Ab.V
