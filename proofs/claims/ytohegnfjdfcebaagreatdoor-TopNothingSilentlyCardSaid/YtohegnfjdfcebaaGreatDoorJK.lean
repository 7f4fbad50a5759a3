/-
  What is proved here serves the law's text: each part says its own claim and its conditions. No condition is left open.
-/
import Derived.Test.YtohegnfjdfcebaaGreatDoorJE
import Derived.Test.YtohegnfjdfcebaaGreatDoorKV
import Derived.Test.YtohegnfjdfcebaaGreatDoorJJ
set_option maxHeartbeats 32000000
set_option maxRecDepth 100000
set_option linter.unusedSimpArgs false
set_option linter.unusedVariables false

namespace Go.Ab.V
open Go.Proofs Go.RowKit
def A46i:Ann:=fun r=>match r with
 |22=>{ slots:=[(2,9)] }
 |24=>{ slots:=[(1,12),(3,13)],frz:=[2090,1012] }
 |32=>{ slots:=[(2,16),(4,17)] }
 |_=>{}
theorem strR_rep (a b:Nat):strR (List.replicate a [45]++List.replicate b [])=List.replicate a [.str [45]]++List.replicate b [.str []]:=by
 simp [strR]
theorem Vp.ok {p:Pc} (v:Vp p):p.Ok:=⟨by have:=v.cs;omega,by have:=v.steps;omega,by have:=v.len;omega,fun e he=>by obtain ⟨i,hi,rfl⟩:=List.mem_iff_getElem.1 he;have:=v.sl i hi;omega⟩
theorem cellS_len (y:Sy) (s:Stp) (lg:Int) (h:s.In):(cellS y s lg).1.length≤27:=by
 have h1:=symS_len y s.c s.f h.c2 h.f1 h.f2;have h2:=rgtS_len y s.r;have h3:=grcS_len y s.g;have h4:=hldS_len y s.h lg;unfold cellS;simp only [List.length_append];omega
theorem strR_g2 {l:List (List UInt8)} {i:Nat} (h:i<l.length):(strR l)[i]? =some [.str l[i]]:=by
 unfold strR;rw [List.getElem?_map,List.getElem?_eq_getElem h];rfl
theorem strR_set (l:List (List UInt8)) (i:Nat) (t:List UInt8):(strR l).set i [.str t]=strR (l.set i t):=by
 unfold strR;rw [List.map_set]
theorem colG_len {y:Sy} {p:Pc} {k n m:Nat}:∀{l:List Stp} {O X:List (List UInt8)},(∀s∈l,(cellS y s (longest p.evs k s.c)).1.length≤m)→(∀x∈O,x.length≤m)→(∀x∈X,x.length≤m)→
  (colG y p k n O X l).1.length=O.length∧(colG y p k n O X l).2.length≤X.length+l.length∧(∀x∈(colG y p k n O X l).1,x.length≤m)∧(∀x∈(colG y p k n O X l).2,x.length≤m)
 | [],O,X,_,h1,h2=>⟨rfl,by simp [colG],h1,h2⟩
 |s::r,O,X,h0,h1,h2=>by
  have hs:=h0 s (by simp);have h0:∀s∈r,(cellS y s (longest p.evs k s.c)).1.length≤m:=fun s hs=>h0 s (by simp [hs]);rw [colG]
  split
  ·have:=colG_len (n:=n) (O:=O.set ((linS y s.c n).toNat-1) (cellS y s (longest p.evs k s.c)).1) (X:=X) h0 (fun x hx=>by rcases List.mem_or_eq_of_mem_set hx with h|rfl;exact h1 x h;exact hs) h2;rw [List.length_set] at this;rw [List.length_cons];exact ⟨this.1,by omega,this.2.2⟩
  ·split
   ·have:=colG_len (n:=n) (O:=O) (X:=X++[(cellS y s (longest p.evs k s.c)).1]) h0 h1 (fun x hx=>by rcases List.mem_append.1 hx with h|h;exact h2 x h;rw [List.mem_singleton.1 h];exact hs);rw [List.length_append,List.length_singleton] at this;rw [List.length_cons];exact ⟨this.1,by omega,this.2.2⟩
   ·have:=colG_len (n:=n) (O:=O) (X:=(cellS y s (longest p.evs k s.c)).1::X) h0 h1 (fun x hx=>by rcases List.mem_cons.1 hx with h|h;rw [h];exact hs;exact h2 x h);rw [List.length_cons] at this;rw [List.length_cons];exact ⟨this.1,by omega,this.2.2⟩
theorem colW_len {y:Sy} {p:Pc} {k m:Nat} (hm:2≤m) {e:Evt} (h:∀s∈e.stops,(cellS y s (longest p.evs k s.c)).1.length≤m):(colW y p k e).length≤8+e.stops.length∧∀x∈colW y p k e,x.length≤m:=by
 have hh:(colH y e).length≤2∧∀x∈colH y e,x.length≤m:=by
  have:=twS_len y e.v e.d e.t;unfold colH
  split<;>simp<;>omega
 have hn:colN y p≤6:=by unfold colN stf;split<;>omega
 unfold colW
 split
 ·rw [List.length_append,List.length_singleton];refine ⟨by omega,fun x hx=>?_⟩
  rcases List.mem_append.1 hx with hx|hx
  ·exact hh.2 x hx
  ·rw [List.mem_singleton.1 hx];simp;omega
 ·split
  ·rw [List.length_append,List.length_singleton];refine ⟨by omega,fun x hx=>?_⟩
   rcases List.mem_append.1 hx with hx|hx
   ·exact hh.2 x hx
   ·rw [List.mem_singleton.1 hx];simp;omega
  ·obtain ⟨g1,g2,g3,g4⟩:=colG_len (y:=y) (p:=p) (k:=k) (n:=colN y p) (m:=m) (O:=List.replicate (colN y p) [45]) (X:=[]) h (fun x hx=>by rw [List.eq_of_mem_replicate hx];simp;omega) (fun x hx=>by cases hx);rw [List.length_replicate] at g1;rw [List.length_nil] at g2;have hM:(colM y p k e.stops).length≤6+e.stops.length∧∀x∈colM y p k e.stops,x.length≤m:=by
    unfold colM
    split<;>(rw [List.length_append];exact ⟨by omega,fun x hx=>(List.mem_append.1 hx).elim (fun h=>by first|exact g3 x h|exact g4 x h) fun h=>by first|exact g4 x h|exact g3 x h⟩)
   rw [List.length_append];exact ⟨by omega,fun x hx=>(List.mem_append.1 hx).elim (hh.2 x) (hM.2 x)⟩
theorem colS_len {y:Sy} {p:Pc} {k m:Nat} (hm:2≤m) {e:Evt} (h:∀s∈e.stops,(cellS y s (longest p.evs k s.c)).1.length≤m):(colS y p k e).length≤(8+e.stops.length) * (m+1):=by
 obtain ⟨h1,h2⟩:=colW_len hm h;unfold colS;exact Nat.le_trans (joinS_len _ m h2) (Nat.mul_le_mul_right _ h1)
theorem wk_lnil {C:Ctx} {c:Code} {fr:List AV} {h:Heap} {K:AE→List AV→Heap→Prop} (t sz:Nat) (ht:fr[t]? =some .nils) (hk:WK C c (fr.set t (.lslc sz [] 0 0 false)) h K):WK C c fr h K:=by
 refine ⟨fun rd B σ w a Q hrd hy hB s hf hd hQ=>hk.use rd B σ w a Q hrd hy hB s ⟨by rw [List.length_set];exact hf.1,fun i x v hx hv=>?_⟩ hd hQ⟩;rw [List.getElem?_set] at hx
 split at hx
 ·rename_i e;subst e
  split at hx
  ·cases hx;have:=hf.2 _ _ _ ht hv;cases this;exact .lnil
  ·cases hx
 ·exact hf.2 i x v hx hv
theorem strR_take (l:List (List UInt8)):List.take l.length (List.drop 0 (strR l))=strR l:=by
 rw [List.drop_zero];exact List.take_of_length_le (by simp [strR])
theorem strR_app (a b:List (List UInt8)):strR a++strR b=strR (a++b):=by simp [strR]
theorem strR_len (a:List (List UInt8)):(strR a).length=a.length:=by simp [strR]
theorem col_stops (y:Sy) (p:Pc) (k:Nat) (hc:chk p=0) (hk:k<p.evs.length) (hti:p.evs[k].tie=false) (hns:p.evs[k].stops≠[]):ACalls C.P 46 [.int .u8 y.n,y.a,pcA p,.int .i64 k] Heap.nil fun r _=>r= .str (colS y p k p.evs[k]):=by
 have hm:=mapR (f:=evR) hk;have hsi:=sgn_in hc hk;have hst:=stp_in hc hk;have v:=vp hc;have hvl:=v.len;have hsl:=v.sl k hk;have h58:=staff_spec p.ins;have hs6:stf p.ins≤6:=by unfold stf;omega
 have hOk:p.Ok:=v.ok;have hWl:=colW_len (y:=y) (p:=p) (k:=k) (m:=27) (by omega) (e:=p.evs[k]) fun s hs=>cellS_len y s _ (hst s hs);generalize p.evs[k]=e at hm hti hsi hns hst hsl hWl ⊢;obtain ⟨eb,ev,ed,et,ey,l⟩:=e;dsimp only at hti hsi hns hst hsl hWl;subst hti;have h57:=tw_spec y ev ed et hsi.1 hsi.2;obtain ⟨W,hW⟩:∃W,W=colW y p k ⟨eb,ev,ed,et,false,l⟩:=⟨_,rfl⟩;unfold colS;rw [←hW] at hWl ⊢;unfold colW at hW;dsimp only at hW;rw [if_neg (by decide),if_neg hns] at hW;obtain ⟨H,hH⟩:∃H,H=colH y ⟨eb,ev,ed,et,false,l⟩:=⟨_,rfl⟩;rw [←hH] at hW;unfold colH at hH;dsimp only at hH;generalize twS y ev ed et=tw at h57 hH;obtain ⟨w,b⟩:=tw;dsimp only at hH;have hHl:H.length≤2:=by rw [hH];split<;>simp
 have hobs:=ob_spec y;have hll:¬(l.length:Int)=0:=by
  intro h;exact hns (List.length_eq_zero_iff.1 (by omega))
 unfold colM at hW;obtain ⟨n,hn⟩:∃n,n=colN y p:=⟨_,rfl⟩;rw [←hn] at hW;have hn6:n≤6:=by rw [hn];unfold colN;split<;>omega
 have hlin:∀c:Int,1≤c→c≤n→1≤linS y c n∧linS y c n≤n:=by
  intro c h1 h2;cases y
  ·exact ⟨h1,h2⟩
  ·exact ⟨by show 1≤(n:Int)+1-c;omega,by show (n:Int)+1-c≤n;omega⟩
  ·exact ⟨h1,h2⟩
  ·have:n=0:=by rw [hn];rfl
   omega
 obtain ⟨G,hG⟩:∃G,G=colG y p k n (List.replicate n [45]) [] l:=⟨_,rfl⟩;rw [←hG] at hW;have hGl:=colG_len (y:=y) (p:=p) (k:=k) (n:=n) (m:=27) (l:=l) (O:=List.replicate n [45]) (X:=[]) (fun s hs=>cellS_len y s _ (hst s hs)) (fun x hx=>by rw [List.eq_of_mem_replicate hx];simp) (fun x hx=>by cases hx);rw [←hG,List.length_replicate] at hGl;have hJ:=join_spec W [32] 0 (by omega) [] rfl (by
  have:=joinS_len W 27 hWl.2;have:W.length * 28≤22 * 28:=Nat.mul_le_mul_right _ (by omega);omega)
 refine ofP (fnPW_of (okx [] [85]) 18 Tryz.func46 rfl ?_);refine wk_seq (wkA (okx [] [85]) mixed (A:=A46) ?_)
 (repeat' (first|exact rfl|((conv=>whnf);first|exact rfl|exact ⟨rfl,rfl⟩|refine go1 ?_|(intro ep)|fail)));(conv=>whnf)
 obtain ⟨e0,he⟩:∃e,e=ep:=⟨_,rfl⟩;subst he;refine wk_seq (wkA (okx [] [85]) mixed (A:=A46) ?_)
 (repeat' (first|exact rfl|((conv=>whnf);first|(refine optS hm ?_)|exact rfl|exact ⟨rfl,rfl⟩|refine go1 ?_|(intro ep)|fail)))
 (conv=>whnf);obtain ⟨e1,he⟩:∃e,e=ep:=⟨_,rfl⟩;subst he;refine wk_seq (wkA (okx [] [85]) mixed (A:=A46) ?_)
 (repeat' (first|exact rfl|((conv=>whnf);first|(refine ⟨_,h57,?_⟩)|exact rfl|exact ⟨rfl,rfl⟩|refine go1 ?_|(intro ep)|fail)))
 (conv=>whnf);refine wk_seq (wkA (okx [] [85]) mixed (A:=A46) ?_)
 (repeat' (first|exact rfl|((conv=>whnf);first|exact rfl|exact ⟨rfl,rfl⟩|refine go1 ?_|(intro ep)|fail)));(conv=>whnf)
 refine wk_cut [0,1,3,6,9,12] [0,1,2] (S:=Nat) (fun e2=>frOf 0 129 [(0,.int .u8 y.n),(1,y.a),(3,.int .i64 (k:Int)),(6,.optr (.s 0) e0 3 0 0),(9,.optr (.s 1) e1 6 0 0),(12,.oslc (.s 2) e2 1 0 H.length false)]) (fun e2=>⟨[.vec e0 [[crsA p.ins.cs,intsA p.ins.steps,evsA p.evs]],.vec e1 [[.bool eb,.int .i64 ev,.bool ed,.bool et,.bool false,stsA l]],.vec e2 (strR H),.hole,.hole,.hole,.hole,.hole,.hole,.hole,.hole,.hole,.hole,.hole,.hole,.hole,.hole,.hole],[]⟩) (wkA (okx [] [85]) mixed (A:=A46) ?_) fun e2=>?_
 ·cases eb
  ·have hH:H=[w]:=hH;subst hH
   (repeat' (first|exact back_of _ ⟨rfl,rfl⟩|exact rfl|((conv=>whnf);first|exact rfl|exact ⟨rfl,rfl⟩|refine go1 ?_|(intro ep)|fail)))
  ·have hH:H=[[124],w]:=hH;subst hH
   (repeat' (first|exact back_of _ ⟨rfl,rfl⟩|exact rfl|((conv=>whnf);first|exact rfl|exact ⟨rfl,rfl⟩|refine go1 ?_|(intro ep)|fail)))
 clear hH h57;refine wk_seq (wkA (okx [] [85]) mixed (A:=A46) ?_)
 (repeat' (first|exact rfl|((conv=>whnf);first|(exact absurd hb hll)|exact rfl|exact ⟨rfl,rfl⟩|refine go1 ?_|(intro ep)|(refine ifB ?_ ?_<;>intro hb<;>(try simp only [qs] at hb)<;>(try simp (disch:=omega) only [wrapI] at hb)<;>(try (exfalso;omega)))|fail)))
 (conv=>whnf);refine wk_seq (wkA (okx [] [85]) mixed (A:=A46) ?_)
 (repeat' (first|exact rfl|((conv=>whnf);first|exact rfl|exact ⟨rfl,rfl⟩|refine go1 ?_|(intro ep)|fail)));(conv=>whnf)
 refine wk_cut [1,3,6,9,12,13] [0,1,2] (S:=Unit) (fun _=>frOf 0 129 [(1,y.a),(3,.int .i64 (k:Int)),(6,.optr (.s 0) e0 3 0 0),(9,.optr (.s 1) e1 6 0 0),(12,.oslc (.s 2) e2 1 0 H.length false),(13,.int .i64 (n:Int))]) (fun _=>⟨[.vec e0 [[crsA p.ins.cs,intsA p.ins.steps,evsA p.evs]],.vec e1 [[.bool eb,.int .i64 ev,.bool ed,.bool et,.bool false,stsA l]],.vec e2 (strR H),.hole,.hole,.hole,.hole,.hole,.hole,.hole,.hole,.hole,.hole,.hole,.hole,.hole,.hole,.hole],[]⟩) (wkA (okx [] [85]) mixed (A:=A46) ?_) fun _=>?_
 ·unfold colN at hn;by_cases hy:y= .ge
  ·rw [if_pos hy] at hn;subst hn;have hyn:(y.n:Int)=4:=by rw [hy];rfl
   (repeat' (first|exact back_of () ⟨rfl,rfl⟩|exact rfl|(exact absurd hyn (by assumption))|((conv=>whnf);first|exact rfl|exact ⟨rfl,rfl⟩|refine go1 ?_|(intro ep)|(refine ifB ?_ ?_<;>intro hb<;>(try simp only [qs] at hb)<;>(try simp (disch:=omega) only [wrapI] at hb)<;>(try (exfalso;omega)))|fail)))
  ·rw [if_neg hy] at hn;rw [←hn] at h58;have hyn:¬(y.n:Int)=4:=by cases y<;>first|decide|exact absurd rfl hy
   (repeat' (first|exact back_of () ⟨rfl,rfl⟩|exact rfl|(exact absurd (by assumption) hyn)|((conv=>whnf);first|(refine ⟨_,h58,?_⟩)|exact rfl|exact ⟨rfl,rfl⟩|refine go1 ?_|(intro ep)|(refine ifB ?_ ?_<;>intro hb<;>(try simp only [qs] at hb)<;>(try simp (disch:=omega) only [wrapI] at hb)<;>(try (exfalso;omega)))|fail)))
 refine wk_seq (wkA (okx [] [85]) mixed (A:=A46) ?_)
 (repeat' (first|exact rfl|((conv=>whnf);first|exact rfl|exact ⟨rfl,rfl⟩|refine go1 ?_|(intro ep)|(refine ⟨⟨by omega,by omega,by show (16:Int) * _≤_;omega,by omega⟩,?_⟩)|fail)))
 (conv=>whnf);obtain ⟨e8,he⟩:∃e,e=ep:=⟨_,rfl⟩;subst he;refine wk_cut [1,3,6,9,12,13,14] [0,1,2,8] (S:=Unit) (fun _=>frOf 0 129 [(1,y.a),(3,.int .i64 (k:Int)),(6,.optr (.s 0) e0 3 0 0),(9,.optr (.s 1) e1 6 0 0),(12,.oslc (.s 2) e2 1 0 H.length false),(13,.int .i64 (n:Int)),(14,.oslc (.s 8) e8 1 0 n false)])
  (fun _=>⟨[.vec e0 [[crsA p.ins.cs,intsA p.ins.steps,evsA p.evs]],.vec e1 [[.bool eb,.int .i64 ev,.bool ed,.bool et,.bool false,stsA l]],.vec e2 (strR H),.hole,.hole,.hole,.hole,.hole,.vec e8 (strR (List.replicate n [45])),.hole,.hole,.hole,.hole,.hole,.hole,.hole,.hole,.hole],[]⟩) ?_ fun _=>?_
 ·refine wk_seq (wkA (okx [] [85]) mixed (A:=A46) ?_)
  (repeat' (first|exact rfl|((conv=>whnf);first|exact rfl|exact ⟨rfl,rfl⟩|refine go1 ?_|(intro ep)|fail)));(conv=>whnf)
  refine wk_block (loopK [1,3,6,9,12,13,14,63,64] [0,1,2,8] (S:={ i:Nat // i≤n })
   (fun s=>frOf 0 129 [(1,y.a),(3,.int .i64 (k:Int)),(6,.optr (.s 0) e0 3 0 0),(9,.optr (.s 1) e1 6 0 0),(12,.oslc (.s 2) e2 1 0 H.length false),(13,.int .i64 (n:Int)),(14,.oslc (.s 8) e8 1 0 n false),(63,.int .i64 (n:Int)),(64,.int .i64 (s.1:Int))])
   (fun s=>⟨[.vec e0 [[crsA p.ins.cs,intsA p.ins.steps,evsA p.evs]],.vec e1 [[.bool eb,.int .i64 ev,.bool ed,.bool et,.bool false,stsA l]],.vec e2 (strR H),.hole,.hole,.hole,.hole,.hole,.vec e8 (strR (List.replicate s.1 [45]++List.replicate (n-s.1) [])),.hole,.hole,.hole,.hole,.hole,.hole,.hole,.hole,.hole],[]⟩) (fun s=>n-s.1) ⟨0,by omega⟩ rfl ?_ ?_)
  ·show _=(⟨[.vec e0 [[crsA p.ins.cs,intsA p.ins.steps,evsA p.evs]],.vec e1 [[.bool eb,.int .i64 ev,.bool ed,.bool et,.bool false,stsA l]],.vec e2 (strR H),.hole,.hole,.hole,.hole,.hole,.vec e8 (strR (List.replicate 0 [45]++List.replicate (n-0) [])),.hole,.hole,.hole,.hole,.hole,.hole,.hole,.hole,.hole],[]⟩:Heap);rw [strR_rep];exact rfl
  rintro ⟨i,hi⟩;dsimp only;refine wk_seq (wkA (okx [] [85]) mixed (A:=A46) ?_)
  (repeat' (first|exact rfl|((conv=>whnf);first|exact rfl|exact ⟨rfl,rfl⟩|refine go1 ?_|(intro ep)|fail)));(conv=>whnf)
  by_cases hin:i<n
  ·refine wk_seq (wk_cond (t:=true) (by show AV.bool (decide ((i:Int)<(n:Int)))=_;rw [decide_eq_true (by omega)]) (wk_skip ?_));(conv=>whnf);obtain ⟨m,hm2⟩:∃m,n-i=m+1:=⟨n-i-1,by omega⟩;have hwi:IntKind.i64.wrap ((i:Int)+1)=((i+1:Nat):Int):=by simp (disch:=omega) only [wrapI];omega
   have hg:(strR (List.replicate i [45]++List.replicate (n-i) []))[0+((i:Nat):Int).toNat]? =some [.str []]:=by
    rw [hm2,Nat.zero_add,Int.toNat_natCast,strR_g2 (by simp)];simp
   have hse:(strR (List.replicate i [45]++List.replicate (n-i) [])).set (0+((i:Nat):Int).toNat) [.str [45]]=strR (List.replicate (i+1) [45]++List.replicate (n-(i+1)) []):=by
    rw [hm2,show n-(i+1)=m by omega,Nat.zero_add,Int.toNat_natCast,strR_set,List.set_append_right _ _ (by simp)];rw [List.length_replicate,Nat.sub_self,List.replicate_succ (n:=m),List.set_cons_zero,List.replicate_succ' (n:=i),List.append_assoc];rfl
   refine wk_seq (wkA (okx [] [85]) mixed (A:=A46) ?_)
   (repeat' (first|exact rfl|((conv=>whnf);first|(refine optS hg ?_)|exact rfl|exact ⟨rfl,rfl⟩|refine go1 ?_|(intro ep)|fail)))
   (conv=>whnf);refine wkA (okx [] [85]) mixed (A:=A46) ?_
   (repeat' (first|exact rfl|((conv=>whnf);first|(rw [hwi])|exact rfl|exact ⟨rfl,rfl⟩|refine go1 ?_|(intro ep)|fail)))
   (conv=>whnf);exact back_of ⟨i+1,hin⟩ ⟨rfl,by dsimp only;rw [←hse];exact rfl,by dsimp only;omega⟩
  ·refine wk_seq (wk_cond (t:=false) (by show AV.bool (decide ((i:Int)<(n:Int)))=_;rw [decide_eq_false (by omega)]) (wk_exit ?_));obtain rfl:i=n:=by omega
   (conv=>whnf);exact back_of () ⟨rfl,by rw [Nat.sub_self,List.replicate_zero,List.append_nil];exact rfl⟩
 refine wk_seq (wkA (okx [] [85]) mixed (A:=A46) ?_)
 (repeat' (first|exact rfl|((conv=>whnf);first|exact rfl|exact ⟨rfl,rfl⟩|refine go1 ?_|(intro ep)|fail)));(conv=>whnf)
 cases hob:obS y with
 |true=>
   rw [hob] at hobs hW;refine wk_lift 16 11 1 rfl fun e11=>?_;refine wk_cut [1,12,14,16] [2,8,11] (S:=Nat) (fun e11=>frOf 0 129 [(1,y.a),(12,.oslc (.s 2) e2 1 0 H.length false),(14,.oslc (.s 8) e8 1 0 n false),(16,.oslc (.s 11) e11 1 0 G.2.length false)])
    (fun e11=>⟨[.hole,.hole,.vec e2 (strR H),.hole,.hole,.hole,.hole,.hole,.vec e8 (strR G.1),.hole,.hole,.vec e11 (strR G.2),.hole,.hole,.hole,.hole,.hole,.hole],[]⟩) ?_ fun e11=>?_
   ·refine wk_seq (wkA (okx [] [85]) mixed (A:=A46) ?_)
    (repeat' (first|exact rfl|((conv=>whnf);first|exact rfl|exact ⟨rfl,rfl⟩|refine go1 ?_|(intro ep)|fail)));(conv=>whnf)
    refine wk_block (loopK [1,3,6,12,13,14,16,72,73,74] [0,2,8,11] (S:={ z:Nat×Nat×List (List UInt8)×List (List UInt8) // z.1≤l.length∧z.2.2.1.length=n∧z.2.2.2.length≤z.1∧colG y p k n z.2.2.1 z.2.2.2 (l.drop z.1)=G })
     (fun s=>frOf 0 129 [(1,y.a),(3,.int .i64 (k:Int)),(6,.optr (.s 0) e0 3 0 0),(12,.oslc (.s 2) e2 1 0 H.length false),(13,.int .i64 (n:Int)),(14,.oslc (.s 8) e8 1 0 n false),(16,.oslc (.s 11) s.1.2.1 1 0 s.1.2.2.2.length false),(72,stsA l),(73,.int .i64 (l.length:Int)),(74,.int .i64 (s.1.1:Int))])
     (fun s=>⟨[.vec e0 [[crsA p.ins.cs,intsA p.ins.steps,evsA p.evs]],.hole,.vec e2 (strR H),.hole,.hole,.hole,.hole,.hole,.vec e8 (strR s.1.2.2.1),.hole,.hole,.vec s.1.2.1 (strR s.1.2.2.2),.hole,.hole,.hole,.hole,.hole,.hole],[]⟩) (fun s=>l.length-s.1.1) ⟨(0,e11,List.replicate n [45],[]),by simp,by simp,by simp,hG.symm⟩ rfl rfl ?_)
    rintro ⟨⟨j,e11,O,X⟩,hj,hO,hX,hu⟩;dsimp only at hj hO hX hu;dsimp only;refine wk_seq (wkA (okx [] [85]) mixed (A:=A46) ?_)
    (repeat' (first|exact rfl|((conv=>whnf);first|exact rfl|exact ⟨rfl,rfl⟩|refine go1 ?_|(intro ep)|fail)));(conv=>whnf)
    by_cases hjl:j<l.length
    ·refine wk_seq (wk_cond (t:=true) (by show AV.bool (decide ((j:Int)<(l.length:Int)))=_;rw [decide_eq_true (by omega)]) (wk_skip ?_));(conv=>whnf);have hml:=mapR (f:=stR) hjl;rw [drop_at hjl,colG] at hu;have hin:=hst l[j] (List.getElem_mem hjl);have hwj:IntKind.i64.wrap ((j:Int)+1)=((j+1:Nat):Int):=by simp (disch:=omega) only [wrapI];omega
     generalize l[j]=s at hml hin hu;have h29:=longest_spec p hOk k s.c;have h76:=cell_spec y s (longest p.evs k s.c) hin;have hls:=hlin s.c hin.c1;generalize cellS y s (longest p.evs k s.c)=t at h76 hu;obtain ⟨t,tb⟩:=t;dsimp only at hu;refine wk_seq (wk_block ?_);refine wk_seq (wkA (okx [] [85]) mixed (A:=A46) ?_)
     (repeat' (first|exact rfl|((conv=>whnf);first|(refine optS hml ?_)|exact rfl|exact ⟨rfl,rfl⟩|refine go1 ?_|(intro ep)|fail)))
     (conv=>whnf);refine wk_seq (wkA (okx [] [85]) mixed (A:=A46) ?_)
     (repeat' (first|exact rfl|((conv=>whnf);first|(refine ⟨_,h29,?_⟩)|(refine ⟨_,h76,?_⟩)|exact rfl|exact ⟨rfl,rfl⟩|refine go1 ?_|(intro ep)|(refine ⟨by omega,?_⟩)|(refine ifB ?_ ?_<;>intro hb<;>(try simp only [qs] at hb)<;>(try simp (disch:=omega) only [wrapI] at hb)<;>(try (exfalso;omega)))|fail)))
     (conv=>whnf);refine wkA (okx [] [85]) mixed (A:=A46) ?_;by_cases hcn:s.c≤((n:Nat):Int)
     ·rw [if_pos hcn] at hu;have hls:=hls hcn;have hlp:=lin_spec y s.c n (by have:=hin.c1;omega) (by have:=hin.c2;omega) (by omega) (by omega);obtain ⟨L,hL⟩:∃L,L=linS y s.c n:=⟨_,rfl⟩;rw [←hL] at hls hu hlp;have hwL:IntKind.i64.wrap (L-1)=L-1:=by simp (disch:=omega) only [wrapI]
      have hg:(strR O)[0+(IntKind.i64.wrap (L-1)).toNat]? =some [.str (O[L.toNat-1]'(by omega))]:=by
       rw [hwL,Nat.zero_add,show (L-1).toNat=L.toNat-1 by omega];exact strR_g2 (by omega)
      have hse:(strR O).set (0+(IntKind.i64.wrap (L-1)).toNat) [.str t]=strR (O.set (L.toNat-1) t):=by
       rw [hwL,Nat.zero_add,show (L-1).toNat=L.toNat-1 by omega];exact strR_set _ _ _
      (repeat' (first|exact rfl|((conv=>whnf);first|refine optS hg ?_|(refine ⟨_,_,lin_mo y,hlp,?_⟩)|exact rfl|exact ⟨rfl,rfl⟩|refine go1 ?_|(intro ep)|(refine ⟨by omega,?_⟩)|(refine ifB ?_ ?_<;>intro hb<;>(try simp only [qs] at hb)<;>(try simp (disch:=omega) only [wrapI] at hb)<;>(try (exfalso;omega)))|fail)))
      all_goals (conv=>whnf)
      all_goals refine wkA (okx [] [85]) mixed (A:=A46) ?_
      all_goals (repeat' (first|exact rfl|((conv=>whnf);first|(rw [hwj])|exact rfl|exact ⟨rfl,rfl⟩|refine go1 ?_|(intro ep)|fail)))
      all_goals (conv=>whnf)
      all_goals exact back_of ⟨(j+1,e11,O.set (L.toNat-1) t,X),by omega,by simp [hO],by dsimp only;omega,hu⟩ ⟨rfl,by dsimp only;rw [←hse];exact rfl,by dsimp only;omega⟩
     ·rw [if_neg hcn,if_pos hob] at hu;have hap:strR (X++[t])=List.take X.length (List.drop 0 (strR X))++[[.str t]]:=by rw [strR_take];simp [strR]
      (repeat' (first|exact rfl|((conv=>whnf);first|(refine ⟨_,_,ob_mo y,hobs,?_⟩)|exact rfl|exact ⟨rfl,rfl⟩|refine go1 ?_|(intro ep)|(refine ⟨by omega,?_⟩)|(refine ifB ?_ ?_<;>intro hb<;>(try simp only [qs] at hb)<;>(try simp (disch:=omega) only [wrapI] at hb)<;>(try (exfalso;omega)))|fail)))
      all_goals (conv=>whnf)
      all_goals refine wkA (okx [] [85]) mixed (A:=A46) ?_
      all_goals (repeat' (first|exact rfl|((conv=>whnf);first|(rw [hwj])|exact rfl|exact ⟨rfl,rfl⟩|refine go1 ?_|(intro ep)|fail)))
      all_goals (conv=>whnf)
      all_goals exact back_of ⟨(j+1,ep,O,X++[t]),by omega,hO,by dsimp only;rw [List.length_append,List.length_singleton];omega,hu⟩ ⟨by dsimp only;rw [List.length_append];rfl,by dsimp only;rw [hap];exact rfl,by dsimp only;omega⟩
    ·refine wk_seq (wk_cond (t:=false) (by show AV.bool (decide ((j:Int)<(l.length:Int)))=_;rw [decide_eq_false (by omega)]) (wk_exit ?_));rw [List.drop_eq_nil_of_le (by omega),colG] at hu;subst hu;(conv=>whnf);exact back_of e11 ⟨rfl,rfl⟩
   ·have hW:W=H++(G.1++G.2):=hW;have t1:List.take n (List.drop 0 (strR G.1))=strR G.1:=by rw [←hGl.1,strR_take]
    have t2:List.take G.2.length (List.drop 0 (strR G.2))=strR G.2:=by rw [strR_take]
    have hWn:W.length=H.length+n+G.2.length:=by rw [hW];simp only [List.length_append];omega
    have hrow:((((strR H).drop 0).take H.length++((strR G.1).drop 0).take n).drop 0).take (H.length+(((strR G.1).drop 0).take n).length)++((strR G.2).drop 0).take G.2.length=strR W:=by
     rw [t1,t2,strR_take,strR_len,strR_app,←List.length_append,strR_take,strR_app,hW,List.append_assoc]
    have l1:(((strR G.1).drop 0).take n).length=n:=by rw [t1,strR_len];exact hGl.1
    have l2:(((strR G.2).drop 0).take G.2.length).length=G.2.length:=by rw [t2,strR_len]
    refine wk_seq (wkA (okx [] [85]) mixed (A:=A46) ?_)
    (repeat' (first|exact rfl|((conv=>whnf);first|(refine ⟨_,_,ob_mo y,hobs,?_⟩)|exact rfl|exact ⟨rfl,rfl⟩|refine go1 ?_|(intro ep)|(refine ⟨⟨by rw [l1];omega,by rw [l1];omega⟩,?_⟩)|(refine ⟨⟨by rw [l1,l2];omega,by rw [l1,l2];omega⟩,?_⟩)|(refine ifB ?_ ?_<;>intro hb<;>(try simp only [qs] at hb)<;>(try simp (disch:=omega) only [wrapI] at hb)<;>(try (exfalso;omega)))|fail)))
    all_goals (conv=>whnf)
    refine wkA (okx [] [85]) mixed (A:=A46) ?_;have hJ2:PRet C.P 85 [.lslc 1 (((((strR H).drop 0).take H.length++((strR G.1).drop 0).take n).drop 0).take (H.length+(((strR G.1).drop 0).take n).length)++((strR G.2).drop 0).take G.2.length) 0 (H.length+(((strR G.1).drop 0).take n).length+(((strR G.2).drop 0).take G.2.length).length) false,.str [32]] (.str (joinS [32] W)):=by
     rw [hrow,l1,l2,←hWn];exact hJ
    (conv=>whnf);refine ACalls.fz 2 ?_;(conv=>whnf);refine ⟨by rw [hrow];exact pure_strR W,by (repeat' (first|exact trivial|exact eqsP_rows _ (fun x=>rfl)|((conv=>whnf);first|exact trivial|refine ⟨rfl,?_⟩|refine ⟨?_,?_⟩|fail))),by (repeat' (first|exact trivial|exact eqsP_rows _ (fun x=>rfl)|((conv=>whnf);first|exact trivial|refine ⟨rfl,?_⟩|refine ⟨?_,?_⟩|fail))),by (repeat' (first|exact trivial|exact eqsP_rows _ (fun x=>rfl)|((conv=>whnf);first|exact trivial|refine ⟨rfl,?_⟩|refine ⟨?_,?_⟩|fail))),?_⟩;refine PRet.calls hJ2 ?_
    (repeat' (first|exact rfl|((conv=>whnf);first|exact rfl|exact ⟨rfl,rfl⟩|refine go1 ?_|(intro ep)|(refine ifB ?_ ?_<;>intro hb<;>(try simp only [qs] at hb)<;>(try simp (disch:=omega) only [wrapI] at hb)<;>(try (exfalso;omega)))|fail)))
 |false=>
   rw [hob] at hobs hW;refine wk_lnil 16 1 rfl ?_;refine wk_cut [1,12,14,16] [2,8] (S:=Unit) (fun _=>frOf 0 129 [(1,y.a),(12,.oslc (.s 2) e2 1 0 H.length false),(14,.oslc (.s 8) e8 1 0 n false),(16,.lslc 1 (strR G.2) 0 G.2.length false)])
    (fun _=>⟨[.hole,.hole,.vec e2 (strR H),.hole,.hole,.hole,.hole,.hole,.vec e8 (strR G.1),.hole,.hole,.hole,.hole,.hole,.hole,.hole,.hole,.hole],[]⟩) ?_ fun _=>?_
   ·refine wk_seq (wkA (okx [] [85]) mixed (A:=A46i) ?_)
    (repeat' (first|exact rfl|((conv=>whnf);first|exact rfl|exact ⟨rfl,rfl⟩|refine go1 ?_|(intro ep)|fail)));(conv=>whnf)
    refine wk_block (loopK [1,3,6,12,13,14,16,72,73,74] [0,2,8] (S:={ z:Nat×List (List UInt8)×List (List UInt8) // z.1≤l.length∧z.2.1.length=n∧z.2.2.length≤z.1∧colG y p k n z.2.1 z.2.2 (l.drop z.1)=G })
     (fun s=>frOf 0 129 [(1,y.a),(3,.int .i64 (k:Int)),(6,.optr (.s 0) e0 3 0 0),(12,.oslc (.s 2) e2 1 0 H.length false),(13,.int .i64 (n:Int)),(14,.oslc (.s 8) e8 1 0 n false),(16,.lslc 1 (strR s.1.2.2) 0 s.1.2.2.length false),(72,stsA l),(73,.int .i64 (l.length:Int)),(74,.int .i64 (s.1.1:Int))])
     (fun s=>⟨[.vec e0 [[crsA p.ins.cs,intsA p.ins.steps,evsA p.evs]],.hole,.vec e2 (strR H),.hole,.hole,.hole,.hole,.hole,.vec e8 (strR s.1.2.1),.hole,.hole,.hole,.hole,.hole,.hole,.hole,.hole,.hole],[]⟩) (fun s=>l.length-s.1.1) ⟨(0,List.replicate n [45],[]),by simp,by simp,by simp,hG.symm⟩ rfl rfl ?_)
    rintro ⟨⟨j,O,X⟩,hj,hO,hX,hu⟩;dsimp only at hj hO hX hu;dsimp only;refine wk_seq (wkA (okx [] [85]) mixed (A:=A46i) ?_)
    (repeat' (first|exact rfl|((conv=>whnf);first|exact rfl|exact ⟨rfl,rfl⟩|refine go1 ?_|(intro ep)|fail)));(conv=>whnf)
    by_cases hjl:j<l.length
    ·refine wk_seq (wk_cond (t:=true) (by show AV.bool (decide ((j:Int)<(l.length:Int)))=_;rw [decide_eq_true (by omega)]) (wk_skip ?_));(conv=>whnf);have hml:=mapR (f:=stR) hjl;rw [drop_at hjl,colG] at hu;have hin:=hst l[j] (List.getElem_mem hjl);have hwj:IntKind.i64.wrap ((j:Int)+1)=((j+1:Nat):Int):=by simp (disch:=omega) only [wrapI];omega
     generalize l[j]=s at hml hin hu;have h29:=longest_spec p hOk k s.c;have h76:=cell_spec y s (longest p.evs k s.c) hin;have hls:=hlin s.c hin.c1;generalize cellS y s (longest p.evs k s.c)=t at h76 hu;obtain ⟨t,tb⟩:=t;dsimp only at hu;refine wk_seq (wk_block ?_);refine wk_seq (wkA (okx [] [85]) mixed (A:=A46i) ?_)
     (repeat' (first|exact rfl|((conv=>whnf);first|(refine optS hml ?_)|exact rfl|exact ⟨rfl,rfl⟩|refine go1 ?_|(intro ep)|fail)))
     (conv=>whnf);refine wk_seq (wkA (okx [] [85]) mixed (A:=A46i) ?_)
     (repeat' (first|exact rfl|((conv=>whnf);first|(refine ⟨_,h29,?_⟩)|(refine ⟨_,h76,?_⟩)|exact rfl|exact ⟨rfl,rfl⟩|refine go1 ?_|(intro ep)|(refine ⟨by omega,?_⟩)|(refine ifB ?_ ?_<;>intro hb<;>(try simp only [qs] at hb)<;>(try simp (disch:=omega) only [wrapI] at hb)<;>(try (exfalso;omega)))|fail)))
     (conv=>whnf);refine wkA (okx [] [85]) mixed (A:=A46i) ?_;by_cases hcn:s.c≤((n:Nat):Int)
     ·rw [if_pos hcn] at hu;have hls:=hls hcn;have hlp:=lin_spec y s.c n (by have:=hin.c1;omega) (by have:=hin.c2;omega) (by omega) (by omega);obtain ⟨L,hL⟩:∃L,L=linS y s.c n:=⟨_,rfl⟩;rw [←hL] at hls hu hlp;have hwL:IntKind.i64.wrap (L-1)=L-1:=by simp (disch:=omega) only [wrapI]
      have hg:(strR O)[0+(IntKind.i64.wrap (L-1)).toNat]? =some [.str (O[L.toNat-1]'(by omega))]:=by
       rw [hwL,Nat.zero_add,show (L-1).toNat=L.toNat-1 by omega];exact strR_g2 (by omega)
      have hse:(strR O).set (0+(IntKind.i64.wrap (L-1)).toNat) [.str t]=strR (O.set (L.toNat-1) t):=by
       rw [hwL,Nat.zero_add,show (L-1).toNat=L.toNat-1 by omega];exact strR_set _ _ _
      (repeat' (first|exact rfl|((conv=>whnf);first|refine optS hg ?_|(refine ⟨_,_,lin_mo y,hlp,?_⟩)|exact rfl|exact ⟨rfl,rfl⟩|refine go1 ?_|(intro ep)|(refine ⟨by omega,?_⟩)|(refine ifB ?_ ?_<;>intro hb<;>(try simp only [qs] at hb)<;>(try simp (disch:=omega) only [wrapI] at hb)<;>(try (exfalso;omega)))|fail)))
      all_goals (conv=>whnf)
      all_goals refine wkA (okx [] [85]) mixed (A:=A46i) ?_
      all_goals (repeat' (first|exact rfl|((conv=>whnf);first|(rw [hwj])|exact rfl|exact ⟨rfl,rfl⟩|refine go1 ?_|(intro ep)|fail)))
      all_goals (conv=>whnf)
      all_goals exact back_of ⟨(j+1,O.set (L.toNat-1) t,X),by omega,by simp [hO],by dsimp only;omega,hu⟩ ⟨rfl,by dsimp only;rw [←hse];exact rfl,by dsimp only;omega⟩
     ·rw [if_neg hcn,if_neg (by rw [hob];decide)] at hu;have hXX:(((strR X).drop 0).take X.length).length=X.length:=by rw [strR_take,strR_len]
      have hap:strR (t::X)=List.take 1 (List.drop 0 [[.str t]])++List.take X.length (List.drop 0 (strR X)):=by rw [strR_take];rfl
      have hXl:(t::X).length=1+(((strR X).drop 0).take X.length).length:=by rw [hXX,List.length_cons];omega
      have hfc:∀(Y:List (List UInt8)) (Z:List (List AV)),((strR Y).map fun r=>r.map (fcS (1012-1000) Z))=strR Y:=fun Y Z=>fc_rows Y (fun x=>rfl);have hpr:pureRows (List.take 1 (List.drop 0 [[AV.str t]])++List.take X.length (List.drop 0 (strR X))):=by rw [←hap];exact pure_strR _
      (repeat' (first|exact rfl|((conv=>whnf);first|(refine ⟨_,_,ob_mo y,hobs,?_⟩)|(refine ⟨⟨by rw [hXX];omega,by rw [hXX];omega⟩,?_⟩)|(refine ⟨hpr,by (repeat' (first|exact trivial|exact eqsP_rows _ (fun x=>rfl)|((conv=>whnf);first|exact trivial|refine ⟨rfl,?_⟩|refine ⟨?_,?_⟩|fail))),by (repeat' (first|exact trivial|exact eqsP_rows _ (fun x=>rfl)|((conv=>whnf);first|exact trivial|refine ⟨rfl,?_⟩|refine ⟨?_,?_⟩|fail))),by (repeat' (first|exact trivial|exact eqsP_rows _ (fun x=>rfl)|((conv=>whnf);first|exact trivial|refine ⟨rfl,?_⟩|refine ⟨?_,?_⟩|fail))),?_⟩)|exact rfl|exact ⟨rfl,rfl⟩|refine go1 ?_|(intro ep)|(refine ⟨by omega,?_⟩)|(refine ifB ?_ ?_<;>intro hb<;>(try simp only [qs] at hb)<;>(try simp (disch:=omega) only [wrapI] at hb)<;>(try (exfalso;omega)))|fail)))
      all_goals (conv=>whnf)
      all_goals refine wkA (okx [] [85]) mixed (A:=A46i) ?_
      all_goals (repeat' (first|exact rfl|((conv=>whnf);first|(rw [hwj])|exact rfl|exact ⟨rfl,rfl⟩|refine go1 ?_|(intro ep)|fail)))
      all_goals (conv=>whnf)
      all_goals exact back_of ⟨(j+1,O,t::X),by omega,hO,by dsimp only;rw [List.length_cons];omega,hu⟩ ⟨by dsimp only;rw [hXl,hap];rfl,by
       dsimp only;have h1:=hfc H (List.take 1 (List.drop 0 [[AV.str t]])++List.take X.length (List.drop 0 (strR X)));have h2:=hfc O (List.take 1 (List.drop 0 [[AV.str t]])++List.take X.length (List.drop 0 (strR X)))
       conv=>rhs;rw [←h1,←h2]
       exact rfl,by dsimp only;omega⟩
    ·refine wk_seq (wk_cond (t:=false) (by show AV.bool (decide ((j:Int)<(l.length:Int)))=_;rw [decide_eq_false (by omega)]) (wk_exit ?_));rw [List.drop_eq_nil_of_le (by omega),colG] at hu;subst hu;(conv=>whnf);exact back_of () ⟨rfl,rfl⟩
   ·have hW:W=H++(G.2++G.1):=hW;have t1:List.take G.2.length (List.drop 0 (strR G.2))=strR G.2:=by rw [strR_take]
    have t2:List.take n (List.drop 0 (strR G.1))=strR G.1:=by rw [←hGl.1,strR_take]
    have hWn:W.length=H.length+G.2.length+n:=by rw [hW];simp only [List.length_append];omega
    have hrow:((((strR H).drop 0).take H.length++((strR G.2).drop 0).take G.2.length).drop 0).take (H.length+(((strR G.2).drop 0).take G.2.length).length)++((strR G.1).drop 0).take n=strR W:=by
     rw [t1,t2,strR_take,strR_len,strR_app,←List.length_append,strR_take,strR_app,hW,List.append_assoc]
    have l1:(((strR G.2).drop 0).take G.2.length).length=G.2.length:=by rw [t1,strR_len]
    have l2:(((strR G.1).drop 0).take n).length=n:=by rw [t2,strR_len];exact hGl.1
    refine wk_seq (wkA (okx [] [85]) mixed (A:=A46i) ?_)
    (repeat' (first|exact rfl|((conv=>whnf);first|(refine ⟨_,_,ob_mo y,hobs,?_⟩)|exact rfl|exact ⟨rfl,rfl⟩|refine go1 ?_|(intro ep)|(refine ⟨⟨by rw [l1];omega,by rw [l1];omega⟩,?_⟩)|(refine ⟨⟨by rw [l1,l2];omega,by rw [l1,l2];omega⟩,?_⟩)|(refine ifB ?_ ?_<;>intro hb<;>(try simp only [qs] at hb)<;>(try simp (disch:=omega) only [wrapI] at hb)<;>(try (exfalso;omega)))|fail)))
    all_goals (conv=>whnf)
    refine wkA (okx [] [85]) mixed (A:=A46i) ?_;have hJ2:PRet C.P 85 [.lslc 1 (((((strR H).drop 0).take H.length++((strR G.2).drop 0).take G.2.length).drop 0).take (H.length+(((strR G.2).drop 0).take G.2.length).length)++((strR G.1).drop 0).take n) 0 (H.length+(((strR G.2).drop 0).take G.2.length).length+(((strR G.1).drop 0).take n).length) false,.str [32]] (.str (joinS [32] W)):=by
     rw [hrow,l1,l2,←hWn];exact hJ
    (conv=>whnf);refine ACalls.fz 2 ?_;(conv=>whnf);refine ⟨by rw [hrow];exact pure_strR W,by (repeat' (first|exact trivial|exact eqsP_rows _ (fun x=>rfl)|((conv=>whnf);first|exact trivial|refine ⟨rfl,?_⟩|refine ⟨?_,?_⟩|fail))),by (repeat' (first|exact trivial|exact eqsP_rows _ (fun x=>rfl)|((conv=>whnf);first|exact trivial|refine ⟨rfl,?_⟩|refine ⟨?_,?_⟩|fail))),by (repeat' (first|exact trivial|exact eqsP_rows _ (fun x=>rfl)|((conv=>whnf);first|exact trivial|refine ⟨rfl,?_⟩|refine ⟨?_,?_⟩|fail))),?_⟩;refine PRet.calls hJ2 ?_
    (repeat' (first|exact rfl|((conv=>whnf);first|exact rfl|exact ⟨rfl,rfl⟩|refine go1 ?_|(intro ep)|(refine ifB ?_ ?_<;>intro hb<;>(try simp only [qs] at hb)<;>(try simp (disch:=omega) only [wrapI] at hb)<;>(try (exfalso;omega)))|fail)))
theorem col_spec (y:Sy) (p:Pc) (k:Nat) (hc:chk p=0) (hk:k<p.evs.length):PRet C.P 46 [.int .u8 y.n,y.a,pcA p,.int .i64 k] (.str (colS y p k p.evs[k])):=by
 by_cases ht:p.evs[k].tie=true∨p.evs[k].stops=[]
 ·exact colT_spec y p k hc hk ht
 ·refine PRet.of_freeze rfl (fun h=>rfl) ((col_stops y p k hc hk (by simpa using fun h=>ht (.inl h)) fun h=>ht (.inr h)).mono fun r h e σ σ' x fz hv=>?_);rw [e] at hv;cases hv;exact .str
end Go.Ab.V
