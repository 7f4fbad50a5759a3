/-
  What is proved here serves the law's text: each part says its own claim and its conditions. No condition is left open.
-/
import Derived.Test.YtohegnfjdfcebaaGreatDoorJR
import Derived.Test.YtohegnfjdfcebaaGreatDoorJS
set_option maxHeartbeats 32000000
set_option maxRecDepth 100000
set_option linter.unusedSimpArgs false
set_option linter.unusedVariables false

namespace Go.Ab.V
open Go.Proofs
theorem same7 (l:List Int) (hl:l.length≤100000):PRet C.P 7 [.lslc 1 (ints l) 0 l.length false,.lslc 1 (ints l) 0 l.length false] (.bool true):=by
 refine pret_of ok mixed (A:=fun _=>{}) 0 Tryz.func7 rfl ?_
 (repeat' (first|exact rfl|((conv=>whnf);first|exact rfl|exact ⟨rfl,rfl⟩|refine go1 ?_|(intro ep)|(refine ifB ?_ ?_<;>intro hb<;>(try simp only [qs] at hb)<;>(try simp (disch:=omega) only [wrapI] at hb)<;>(try (exfalso;omega)))|fail)))
 (conv=>whnf);refine loopM ok mixed (A:=fun _=>{}) [0,1,5] [] (S:={ k:Nat // k≤l.length })
  (fr:=fun s=>frOf 0 26 [(0,.lslc 1 (ints l) 0 l.length false),(1,.lslc 1 (ints l) 0 l.length false),(5,.int .i64 (s.1:Int))])
  (h:=fun s=>⟨[],[]⟩) (μ:=fun s=>l.length-s.1) ⟨0,by omega⟩ rfl rfl ?_
 rintro ⟨k,hk⟩;show aexR _ _ _ (frOf 0 26 [(0,.lslc 1 (ints l) 0 l.length false),(1,.lslc 1 (ints l) 0 l.length false),(5,.int .i64 (k:Int))]) ⟨[],[]⟩ _;(conv=>whnf);refine ifB (fun g1=>?_) (fun g1=>?_)
 ·simp only [decide_eq_true_eq] at g1;have hkl:k<l.length:=by omega
  have hm:(ints l)[0+((k:Nat):Int).toNat]? =some [.int .i64 l[k]]:=mapR (f:=fun x:Int=>[AV.int .i64 x]) hkl;generalize l[k]=x at hm;have hw:IntKind.i64.wrap ((k:Int)+1)=((k+1:Nat):Int):=by simp (disch:=omega) only [wrapI];omega
  (repeat' (first|exact rfl|((conv=>whnf);first|(refine optS hm ?_)|(rw [hw])|(exact absurd rfl hb)|exact rfl|exact ⟨rfl,rfl⟩|refine go1 ?_|(intro ep)|(refine ifB ?_ ?_<;>intro hb<;>(try simp only [qs] at hb)<;>(try simp (disch:=omega) only [wrapI] at hb)<;>(try (exfalso;omega)))|fail)))
  all_goals (conv=>whnf)
  all_goals exact back_of ⟨k+1,hkl⟩ ⟨rfl,rfl,by dsimp only;omega⟩
 ·simp only [decide_eq_false_iff_not] at g1
  (repeat' (first|exact rfl|((conv=>whnf);first|exact rfl|exact ⟨rfl,rfl⟩|refine go1 ?_|(intro ep)|(refine ifB ?_ ?_<;>intro hb<;>(try simp only [qs] at hb)<;>(try simp (disch:=omega) only [wrapI] at hb)<;>(try (exfalso;omega)))|fail)))
def exF:List UInt8:=[116,97,98,108,97,116,117,114,101,32,102,114,101,110,99,104,10,71,52,47,50,32,68,52,47,50,32,58,32,49,32,50,10,67,32,98,32,97,10]
def exG:List UInt8:=[116,97,98,108,97,116,117,114,101,32,103,101,114,109,97,110,10,71,52,47,50,32,68,52,47,50,32,58,32,49,32,50,10,67,32,101,32,52,10]
def exP:Pc:=⟨⟨[⟨67,2,false⟩,⟨62,2,false⟩],[1,2]⟩,[⟨false,4,false,false,false,[⟨1,1,0,0,0⟩,⟨2,0,0,0,0⟩]⟩]⟩
theorem exP_chk:chk exP=0:=by kernel_rfl
theorem exP_can:canP .fr exP=true:=by kernel_rfl
theorem exF_wr:wrT .fr exP=exF:=by kernel_rfl
theorem ex_read:readS exF=some (.fr,exP):=by
 rw [←exF_wr];exact read_back exP_chk exP_can (by rw [exF_wr];decide)
theorem ex_red:redE .ge exP=0:=by kernel_rfl
theorem ex_wrE:wrE .ge (redX .ge exP)=0:=by kernel_rfl
theorem ex_wr:wrT .ge (redX .ge exP)=exG:=by kernel_rfl
theorem ex_lk:redL .ge exP=[]:=by kernel_rfl
theorem ex_trn:PRet C.P 6 [.str exF,.int .u8 4] (.tup [.str exG,lksA [],.int .i64 0]):=by
 have h:=trn6 exF .ge .fr exP (pc_ok exP_chk).1 ex_read;unfold trnA at h;rw [if_pos ex_red,if_pos ex_wrE,ex_wr,ex_lk] at h;exact h
theorem carries4:PRet C.P 4 [] (.bool true):=by
 have h6:=ex_trn;refine pret_of ok mixed (A:=fun _=>{}) 0 Tryz.func4 rfl ?_
 (repeat' (first|exact rfl|((conv=>whnf);first|(refine ⟨_,h6,?_⟩)|exact rfl|exact ⟨rfl,rfl⟩|refine go1 ?_|(intro ep)|(refine ifB ?_ ?_<;>intro hb<;>(try simp only [qs] at hb)<;>(try simp (disch:=omega) only [wrapI] at hb)<;>(try (exfalso;omega)))|fail)))

def A3:Ann:=fun r=>match r with
 |3=>{ slots:=[(7,0)] }
 |7=>{ slots:=[(7,1)] }
 |24=>{ slots:=[(9,2)] }
 |29=>{ slots:=[(9,3)] }
 |_=>{}
def fnd (m:List Stp) (s:Stp):Bool:=m.any fun u=>u.c==s.c&&u.f==s.f
theorem fnd_snoc {m:List Stp} {s:Stp} {j:Nat} (h:j<m.length):fnd (m.take (j+1)) s=(fnd (m.take j) s||(m[j].c==s.c&&m[j].f==s.f)):=by
 unfold fnd;rw [List.take_succ_eq_append_getElem h,List.any_append];simp
theorem lostN_snoc {L:List Lck} {i:Int} {k:Nat} (h:k<L.length):lostN (L.take (k+1)) i=lostN (L.take k) i+(if L[k].e=i∧L[k].w=1 then 1 else 0):=by
 unfold lostN;rw [List.take_succ_eq_append_getElem h,List.countP_append,List.countP_singleton];unfold lostP;by_cases h1:L[k].e=i∧L[k].w=1
 ·rw [if_pos h1,if_pos (by simp [h1])]
 ·rw [if_neg h1,if_neg (by simpa using h1)]
theorem times_len (p:Pc):(times p).length=p.evs.length+1:=by
 have h1:∀(l:List Sgn) (t:Int),(tmsT t l).length=l.length:=fun l=>by
  induction l with
  |nil=>intro t;rfl
  |cons s r ih=>intro t;simp [tmsT,ih]
 have h2:∀(l:List Evt) (s:Sgn),(fcs s l).length=l.length:=fun l=>by
  induction l with
  |nil=>intro s;rfl
  |cons e r ih=>intro s;simp [fcs,ih]
 unfold times;rw [List.length_cons,h1,h2]
theorem law3m (t:List UInt8) (ht:t.length≤6000) (y y0:Sy) (p X:Pc) (L:List Lck) (u:List UInt8) (hc:chk p=0) (hcX:chk X=0) (hr:readS t=some (y0,p)) (h6:PRet C.P 6 [.str t,.int .u8 y.n] (.tup [.str u,lksA L,.int .i64 0]))
  (hr2:readS u=some (y,X)) (hN:X.evs.length=p.evs.length) (htm:times X=times p) (hLl:L.length≤1000000)
  (hlost:∀j (h1:j<X.evs.length) (h2:j<p.evs.length),X.evs[j].stops.length+lostN L j=p.evs[j].stops.length)
  (hfnd:∀j (h1:j<X.evs.length) (h2:j<p.evs.length),∀s∈X.evs[j].stops,fnd p.evs[j].stops s=true):ACalls C.P 3 [.str t,.int .u8 y.n] Heap.nil fun r _=>r= .bool true:=by
 have h5:=read_some hr;have h5b:=read_some hr2;have vP:=vp hc;have hvl:=vP.len;have h8:=times_spec p (pc_ok hc).2;have h8b:=times_spec X (pc_ok hcX).2;rw [htm,hN] at h8b;have h7:=same7 (times p) (by rw [times_len];omega);rw [times_len] at h7;have h4:=carries4;refine ofP (fnPW_of ok 4 Tryz.func3 rfl ?_);refine wk_seq (wkA ok mixed (A:=A3) ?_)
 (repeat' (first|exact rfl|((conv=>whnf);first|exact rfl|exact ⟨rfl,rfl⟩|refine go1 ?_|(intro ep)|fail)));(conv=>whnf)
 refine wk_seq (wkA ok mixed (A:=A3) ?_)
 (repeat' (first|exact rfl|((conv=>whnf);first|exact rfl|exact ⟨rfl,rfl⟩|refine go1 ?_|(intro ep)|(refine ifB ?_ ?_<;>intro hb<;>(try simp only [qs] at hb)<;>(try simp (disch:=omega) only [wrapI] at hb)<;>(try (exfalso;omega)))|fail)))
 (conv=>whnf);refine wk_seq (wkA ok mixed (A:=A3) ?_)
 (repeat' (first|exact rfl|((conv=>whnf);first|(refine ⟨_,h5,?_⟩)|exact rfl|exact ⟨rfl,rfl⟩|refine go1 ?_|(intro ep)|fail)))
 (conv=>whnf);obtain ⟨e6,he⟩:∃e,e=ep:=⟨_,rfl⟩;subst he;refine wk_seq (wkA ok mixed (A:=A3) ?_)
 (repeat' (first|exact rfl|((conv=>whnf);first|(refine ⟨_,h6,?_⟩)|exact rfl|exact ⟨rfl,rfl⟩|refine go1 ?_|(intro ep)|fail)))
 (conv=>whnf);refine wk_seq (wkA ok mixed (A:=A3) ?_)
 (repeat' (first|exact rfl|((conv=>whnf);first|exact rfl|exact ⟨rfl,rfl⟩|refine go1 ?_|(intro ep)|fail)));(conv=>whnf)
 refine wk_seq (wkA ok mixed (A:=A3) ?_)
 (repeat' (first|exact rfl|((conv=>whnf);first|(refine ⟨_,h5b,?_⟩)|exact rfl|exact ⟨rfl,rfl⟩|refine go1 ?_|(intro ep)|fail)))
 (conv=>whnf);obtain ⟨e13,he⟩:∃e,e=ep:=⟨_,rfl⟩;subst he;refine wk_seq (wkA ok mixed (A:=A3) ?_)
 (repeat' (first|exact rfl|((conv=>whnf);first|(refine ⟨_,h8,?_⟩)|(refine ⟨_,h8b,?_⟩)|(refine ⟨_,h7,?_⟩)|(exact absurd rfl hb)|(exact absurd hb (by omega))|exact rfl|exact ⟨rfl,rfl⟩|refine go1 ?_|(intro ep)|(refine ifB ?_ ?_<;>intro hb<;>(try simp only [qs] at hb)<;>(try simp (disch:=omega) only [wrapI] at hb)<;>(try (exfalso;omega)))|fail)))
 all_goals (conv=>whnf)
 refine wk_cut [] [] (S:=Unit) (fun _=>frOf 0 198 []) (fun _=>⟨[.hole,.hole,.hole,.hole],[]⟩) ?_ fun _=>?_
 ·clear h5 h5b h6 h7 h8 h8b h4 hr hr2 htm;refine wk_seq (wkA ok mixed (A:=A3) ?_)
  (repeat' (first|exact rfl|((conv=>whnf);first|exact rfl|exact ⟨rfl,rfl⟩|refine go1 ?_|(intro ep)|fail)));(conv=>whnf)
  refine wk_block (loopK [6,10,13,16] [0,1] (S:={ i:Nat // i≤p.evs.length })
   (fun s=>frOf 0 198 [(6,.optr (.s 0) e6 3 0 0),(10,lksA L),(13,.optr (.s 1) e13 3 0 0),(16,.int .i64 (s.1:Int))]) (fun s=>⟨[.vec e6 [[crsA p.ins.cs,intsA p.ins.steps,evsA p.evs]],.vec e13 [[crsA X.ins.cs,intsA X.ins.steps,evsA X.evs]],.hole,.hole],[]⟩) (fun s=>p.evs.length-s.1) ⟨0,by omega⟩ rfl rfl ?_)
  rintro ⟨i,hi⟩;dsimp only;refine wk_seq (wk_seq (wkA ok mixed (A:=A3) ?_))
  (repeat' (first|exact rfl|((conv=>whnf);first|exact rfl|exact ⟨rfl,rfl⟩|refine go1 ?_|(intro ep)|fail)));(conv=>whnf)
  by_cases hil:i<p.evs.length
  ·refine wk_cond (t:=true) (by show AV.bool (decide ((i:Int)<(p.evs.length:Int)))=_;rw [decide_eq_true (by omega)]) (wk_skip ?_);(conv=>whnf);have hix:i<X.evs.length:=by omega
   have hls:=hlost i hix hil;have hfi:=hfnd i hix hil;have hmP:=mapR (f:=evR) hil;have hmX:=mapR (f:=evR) hix;have hwi:IntKind.i64.wrap ((i:Int)+1)=((i+1:Nat):Int):=by simp (disch:=omega) only [wrapI];omega
   have hpl:=vP.sl i hil;obtain ⟨m,hm⟩:∃m,m=p.evs[i].stops:=⟨_,rfl⟩;obtain ⟨l,hl⟩:∃l,l=X.evs[i].stops:=⟨_,rfl⟩;have hmP:(p.evs.map evR)[0+((i:Nat):Int).toNat]? =some [.bool p.evs[i].bar,.int .i64 p.evs[i].v,.bool p.evs[i].d,.bool p.evs[i].t,.bool p.evs[i].tie,stsA m]:=by rw [hmP,hm];rfl
   have hmX:(X.evs.map evR)[0+((i:Nat):Int).toNat]? =some [.bool X.evs[i].bar,.int .i64 X.evs[i].v,.bool X.evs[i].d,.bool X.evs[i].t,.bool X.evs[i].tie,stsA l]:=by rw [hmX,hl];rfl
   rw [←hm,←hl] at hls;rw [←hm] at hfi hpl;rw [←hl] at hfi;generalize p.evs[i].bar=b1 at hmP;generalize p.evs[i].v=b2 at hmP;generalize p.evs[i].d=b3 at hmP;generalize p.evs[i].t=b4 at hmP;generalize p.evs[i].tie=b5 at hmP;generalize X.evs[i].bar=c1 at hmX;generalize X.evs[i].v=c2 at hmX;generalize X.evs[i].d=c3 at hmX;generalize X.evs[i].t=c4 at hmX;generalize X.evs[i].tie=c5 at hmX;refine wk_seq (wk_block ?_);refine wk_seq (wkA ok mixed (A:=A3) ?_)
   (repeat' (first|exact rfl|((conv=>whnf);first|exact rfl|exact ⟨rfl,rfl⟩|refine go1 ?_|(intro ep)|fail)));(conv=>whnf)
   refine wk_cut [6,10,13,16,17] [0,1] (S:=Unit) (fun _=>frOf 0 198 [(6,.optr (.s 0) e6 3 0 0),(10,lksA L),(13,.optr (.s 1) e13 3 0 0),(16,.int .i64 (i:Int)),(17,.int .i64 (lostN L (i:Int):Int))]) (fun _=>⟨[.vec e6 [[crsA p.ins.cs,intsA p.ins.steps,evsA p.evs]],.vec e13 [[crsA X.ins.cs,intsA X.ins.steps,evsA X.evs]],.hole,.hole],[]⟩) ?_ fun _=>?_
   ·refine wk_seq (wkA ok mixed (A:=A3) ?_)
    (repeat' (first|exact rfl|((conv=>whnf);first|exact rfl|exact ⟨rfl,rfl⟩|refine go1 ?_|(intro ep)|fail)));(conv=>whnf)
    refine wk_block (loopK [6,10,13,16,17,18] [0,1] (S:={ k:Nat // k≤L.length })
     (fun s=>frOf 0 198 [(6,.optr (.s 0) e6 3 0 0),(10,lksA L),(13,.optr (.s 1) e13 3 0 0),(16,.int .i64 (i:Int)),(17,.int .i64 (lostN (L.take s.1) (i:Int):Int)),(18,.int .i64 (s.1:Int))]) (fun s=>⟨[.vec e6 [[crsA p.ins.cs,intsA p.ins.steps,evsA p.evs]],.vec e13 [[crsA X.ins.cs,intsA X.ins.steps,evsA X.evs]],.hole,.hole],[]⟩) (fun s=>L.length-s.1) ⟨0,by omega⟩ rfl rfl ?_)
    rintro ⟨k,hk⟩;dsimp only;refine wk_seq (wk_seq (wkA ok mixed (A:=A3) ?_))
    (repeat' (first|exact rfl|((conv=>whnf);first|exact rfl|exact ⟨rfl,rfl⟩|refine go1 ?_|(intro ep)|fail)));(conv=>whnf)
    by_cases hkl:k<L.length
    ·refine wk_cond (t:=true) (by show AV.bool (decide ((k:Int)<(L.length:Int)))=_;rw [decide_eq_true (by omega)]) (wk_skip ?_);(conv=>whnf);have hmL:=mapR (f:=lkR) hkl;have hsn:=lostN_snoc (i:=(i:Int)) hkl;have hwk:IntKind.i64.wrap ((k:Int)+1)=((k+1:Nat):Int):=by simp (disch:=omega) only [wrapI];omega
     have hlk:lostN (L.take k) (i:Int)≤k:=by
      unfold lostN;have h1:=List.countP_le_length (p:=lostP (i:Int)) (l:=L.take k);rw [List.length_take] at h1;omega
     obtain ⟨q,hq⟩:∃q,q=lostN (L.take k) (i:Int):=⟨_,rfl⟩;rw [←hq] at hsn hlk ⊢;have hwq:IntKind.i64.wrap ((q:Int)+1)=((q+1:Nat):Int):=by simp (disch:=omega) only [wrapI];omega
     generalize L[k]=z at hmL hsn;obtain ⟨ze,zc,zw⟩:=z;dsimp only at hsn;have hmL:(L.map lkR)[0+((k:Nat):Int).toNat]? =some [.int .i64 ze,.int .i64 zc,.int .i64 zw]:=hmL;refine wk_seq (wkA ok mixed (A:=A3) ?_);by_cases h1:ze=(i:Int)∧zw=1
     ·rw [if_pos h1] at hsn;obtain ⟨h1,h2⟩:=h1
      (repeat' (first|exact rfl|((conv=>whnf);first|(refine optS hmL ?_)|(rw [hwq])|(exact absurd h1 hb)|(exact absurd h2 hb)|exact rfl|exact ⟨rfl,rfl⟩|refine go1 ?_|(intro ep)|(refine ifB ?_ ?_<;>intro hb<;>(try simp only [qs] at hb)<;>(try simp (disch:=omega) only [wrapI] at hb)<;>(try (exfalso;omega)))|fail)))
      all_goals (conv=>whnf)
      all_goals refine wkA ok mixed (A:=A3) ?_
      all_goals (repeat' (first|exact rfl|((conv=>whnf);first|(rw [hwk])|exact rfl|exact ⟨rfl,rfl⟩|refine go1 ?_|(intro ep)|fail)))
      all_goals (conv=>whnf)
      all_goals exact back_of ⟨k+1,hkl⟩ ⟨by dsimp only;rw [hsn];rfl,rfl,by dsimp only;omega⟩
     ·rw [if_neg h1,Nat.add_zero] at hsn
      (repeat' (first|exact rfl|((conv=>whnf);first|(refine optS hmL ?_)|(exact absurd ⟨‹ze=(i:Int)›,‹zw=1›⟩ h1)|exact rfl|exact ⟨rfl,rfl⟩|refine go1 ?_|(intro ep)|(refine ifB ?_ ?_<;>intro hb<;>(try simp only [qs] at hb)<;>(try simp (disch:=omega) only [wrapI] at hb)<;>(try (exfalso;omega)))|fail)))
      all_goals (conv=>whnf)
      all_goals refine wkA ok mixed (A:=A3) ?_
      all_goals (repeat' (first|exact rfl|((conv=>whnf);first|(rw [hwk])|exact rfl|exact ⟨rfl,rfl⟩|refine go1 ?_|(intro ep)|fail)))
      all_goals (conv=>whnf)
      all_goals exact back_of ⟨k+1,hkl⟩ ⟨by dsimp only;rw [hsn];rfl,rfl,by dsimp only;omega⟩
    ·refine wk_cond (t:=false) (by show AV.bool (decide ((k:Int)<(L.length:Int)))=_;rw [decide_eq_false (by omega)]) (wk_exit ?_);obtain rfl:k=L.length:=by omega
     rw [List.take_length];(conv=>whnf);exact back_of () ⟨rfl,rfl⟩
   ·generalize hG:lostN L (i:Int)=G at hls ⊢;have hwG:IntKind.i64.wrap ((m.length:Int)-(G:Int))=(l.length:Int):=by simp (disch:=omega) only [wrapI];omega
    refine wk_seq (wkA ok mixed (A:=A3) ?_)
    (repeat' (first|exact rfl|((conv=>whnf);first|(refine optS hmP ?_)|(refine optS hmX ?_)|(rw [hwG])|(exact absurd rfl hb)|exact rfl|exact ⟨rfl,rfl⟩|refine go1 ?_|(intro ep)|(refine ifB ?_ ?_<;>intro hb<;>(try simp only [qs] at hb)<;>(try simp (disch:=omega) only [wrapI] at hb)<;>(try (exfalso;omega)))|fail)))
    all_goals (conv=>whnf)
    refine wk_mask [6,10,13,16] [0,1] (fr':=frOf 0 198 [(6,.optr (.s 0) e6 3 0 0),(10,lksA L),(13,.optr (.s 1) e13 3 0 0),(16,.int .i64 (i:Int))]) (h':=⟨[.vec e6 [[crsA p.ins.cs,intsA p.ins.steps,evsA p.evs]],.vec e13 [[crsA X.ins.cs,intsA X.ins.steps,evsA X.evs]],.hole,.hole],[]⟩) rfl rfl ?_;refine wk_seq (wkA ok mixed (A:=A3) ?_)
    (repeat' (first|exact rfl|((conv=>whnf);first|exact rfl|exact ⟨rfl,rfl⟩|refine go1 ?_|(intro ep)|fail)));(conv=>whnf)
    refine wk_block (loopK [6,10,13,16,19] [0,1] (S:={ k:Nat // k≤l.length })
     (fun s=>frOf 0 198 [(6,.optr (.s 0) e6 3 0 0),(10,lksA L),(13,.optr (.s 1) e13 3 0 0),(16,.int .i64 (i:Int)),(19,.int .i64 (s.1:Int))]) (fun s=>⟨[.vec e6 [[crsA p.ins.cs,intsA p.ins.steps,evsA p.evs]],.vec e13 [[crsA X.ins.cs,intsA X.ins.steps,evsA X.evs]],.hole,.hole],[]⟩) (fun s=>l.length-s.1) ⟨0,by omega⟩ rfl rfl ?_)
    rintro ⟨k,hk⟩;dsimp only;refine wk_seq (wk_seq (wkA ok mixed (A:=A3) ?_))
    (repeat' (first|exact rfl|((conv=>whnf);first|(refine optS hmX ?_)|exact rfl|exact ⟨rfl,rfl⟩|refine go1 ?_|(intro ep)|fail)))
    (conv=>whnf);by_cases hkl:k<l.length
    ·refine wk_cond (t:=true) (by show AV.bool (decide ((k:Int)<(l.length:Int)))=_;rw [decide_eq_true (by omega)]) (wk_skip ?_);(conv=>whnf);have hmS:=mapR (f:=stR) hkl;have hfs:=hfi _ (List.getElem_mem hkl);have hwk:IntKind.i64.wrap ((k:Int)+1)=((k+1:Nat):Int):=by simp (disch:=omega) only [wrapI];omega
     generalize l[k]=s at hmS hfs;refine wk_seq (wk_block ?_);refine wk_seq (wkA ok mixed (A:=A3) ?_)
     (repeat' (first|exact rfl|((conv=>whnf);first|(refine optS hmX ?_)|(refine optS hmS ?_)|exact rfl|exact ⟨rfl,rfl⟩|refine go1 ?_|(intro ep)|fail)))
     (conv=>whnf);obtain ⟨e20,he⟩:∃e,e=ep:=⟨_,rfl⟩;subst he;refine wk_seq (wkA ok mixed (A:=A3) ?_)
     (repeat' (first|exact rfl|((conv=>whnf);first|exact rfl|exact ⟨rfl,rfl⟩|refine go1 ?_|(intro ep)|fail)));(conv=>whnf)
     refine wk_cut [6,10,13,16,19,20,21] [0,1,2] (S:=Unit) (fun _=>frOf 0 198 [(6,.optr (.s 0) e6 3 0 0),(10,lksA L),(13,.optr (.s 1) e13 3 0 0),(16,.int .i64 (i:Int)),(19,.int .i64 (k:Int)),(20,.optr (.s 2) e20 5 0 0),(21,.bool true)]) (fun _=>⟨[.vec e6 [[crsA p.ins.cs,intsA p.ins.steps,evsA p.evs]],.vec e13 [[crsA X.ins.cs,intsA X.ins.steps,evsA X.evs]],.vec e20 [stR s],.hole],[]⟩) ?_ fun _=>?_
     ·refine wk_mask [6,10,13,16,19,20,21] [0,1,2] (fr':=frOf 0 198 [(6,.optr (.s 0) e6 3 0 0),(10,lksA L),(13,.optr (.s 1) e13 3 0 0),(16,.int .i64 (i:Int)),(19,.int .i64 (k:Int)),(20,.optr (.s 2) e20 5 0 0),(21,.bool false)]) (h':=⟨[.vec e6 [[crsA p.ins.cs,intsA p.ins.steps,evsA p.evs]],.vec e13 [[crsA X.ins.cs,intsA X.ins.steps,evsA X.evs]],.vec e20 [stR s],.hole],[]⟩) rfl rfl ?_;refine wk_seq (wkA ok mixed (A:=A3) ?_)
      (repeat' (first|exact rfl|((conv=>whnf);first|exact rfl|exact ⟨rfl,rfl⟩|refine go1 ?_|(intro ep)|fail)));(conv=>whnf)
      refine wk_block (loopK [6,10,13,16,19,20,21,22] [0,1,2] (S:={ j:Nat // j≤m.length })
       (fun z=>frOf 0 198 [(6,.optr (.s 0) e6 3 0 0),(10,lksA L),(13,.optr (.s 1) e13 3 0 0),(16,.int .i64 (i:Int)),(19,.int .i64 (k:Int)),(20,.optr (.s 2) e20 5 0 0),(21,.bool (fnd (m.take z.1) s)),(22,.int .i64 (z.1:Int))]) (fun z=>⟨[.vec e6 [[crsA p.ins.cs,intsA p.ins.steps,evsA p.evs]],.vec e13 [[crsA X.ins.cs,intsA X.ins.steps,evsA X.evs]],.vec e20 [stR s],.hole],[]⟩) (fun z=>m.length-z.1) ⟨0,by omega⟩ rfl rfl ?_)
      rintro ⟨j,hj⟩;dsimp only;refine wk_seq (wk_seq (wkA ok mixed (A:=A3) ?_))
      (repeat' (first|exact rfl|((conv=>whnf);first|(refine optS hmP ?_)|exact rfl|exact ⟨rfl,rfl⟩|refine go1 ?_|(intro ep)|fail)))
      (conv=>whnf);by_cases hjl:j<m.length
      ·refine wk_cond (t:=true) (by show AV.bool (decide ((j:Int)<(m.length:Int)))=_;rw [decide_eq_true (by omega)]) (wk_skip ?_);(conv=>whnf);have hmT:=mapR (f:=stR) hjl;have hsn:=fnd_snoc (s:=s) hjl;have hwj:IntKind.i64.wrap ((j:Int)+1)=((j+1:Nat):Int):=by simp (disch:=omega) only [wrapI];omega
       generalize fnd (m.take j) s=b at hsn ⊢;generalize m[j]=w at hmT hsn;refine wk_seq (wk_block ?_);refine wk_seq (wkA ok mixed (A:=A3) ?_)
       (repeat' (first|exact rfl|((conv=>whnf);first|(refine optS hmP ?_)|(refine optS hmT ?_)|exact rfl|exact ⟨rfl,rfl⟩|refine go1 ?_|(intro ep)|fail)))
       (conv=>whnf);refine wkA ok mixed (A:=A3) ?_;cases b with
       |true=>
        rw [Bool.true_or] at hsn
        (repeat' (first|exact rfl|((conv=>whnf);first|exact rfl|exact ⟨rfl,rfl⟩|refine go1 ?_|(intro ep)|(refine ifB ?_ ?_<;>intro hb<;>(try simp only [qs] at hb)<;>(try simp (disch:=omega) only [wrapI] at hb)<;>(try (exfalso;omega)))|fail)))
        all_goals (conv=>whnf)
        all_goals refine wkA ok mixed (A:=A3) ?_
        all_goals (repeat' (first|exact rfl|((conv=>whnf);first|(rw [hwj])|exact rfl|exact ⟨rfl,rfl⟩|refine go1 ?_|(intro ep)|fail)))
        all_goals (conv=>whnf)
        all_goals exact back_of ⟨j+1,hjl⟩ ⟨by dsimp only;rw [hsn];rfl,rfl,by dsimp only;omega⟩
       |false=>
        rw [Bool.false_or] at hsn;by_cases h1:w.c=s.c
        ·have h1b:(w.c==s.c)=true:=by simp [h1]
         rw [h1b,Bool.true_and] at hsn
         (repeat' (first|exact rfl|((conv=>whnf);first|(exact absurd h1 hb)|exact rfl|exact ⟨rfl,rfl⟩|refine go1 ?_|(intro ep)|(refine ifB ?_ ?_<;>intro hb<;>(try simp only [qs] at hb)<;>(try simp (disch:=omega) only [wrapI] at hb)<;>(try (exfalso;omega)))|fail)))
         all_goals (conv=>whnf)
         all_goals refine wkA ok mixed (A:=A3) ?_
         all_goals (repeat' (first|exact rfl|((conv=>whnf);first|(rw [hwj])|exact rfl|exact ⟨rfl,rfl⟩|refine go1 ?_|(intro ep)|fail)))
         all_goals (conv=>whnf)
         all_goals exact back_of ⟨j+1,hjl⟩ ⟨by dsimp only;rw [hsn];rfl,rfl,by dsimp only;omega⟩
        ·have h1b:(w.c==s.c)=false:=by simp [h1]
         rw [h1b,Bool.false_and] at hsn
         (repeat' (first|exact rfl|((conv=>whnf);first|(exact absurd hb h1)|exact rfl|exact ⟨rfl,rfl⟩|refine go1 ?_|(intro ep)|(refine ifB ?_ ?_<;>intro hb<;>(try simp only [qs] at hb)<;>(try simp (disch:=omega) only [wrapI] at hb)<;>(try (exfalso;omega)))|fail)))
         all_goals (conv=>whnf)
         all_goals refine wkA ok mixed (A:=A3) ?_
         all_goals (repeat' (first|exact rfl|((conv=>whnf);first|(rw [hwj])|exact rfl|exact ⟨rfl,rfl⟩|refine go1 ?_|(intro ep)|fail)))
         all_goals (conv=>whnf)
         all_goals exact back_of ⟨j+1,hjl⟩ ⟨by dsimp only;rw [hsn];rfl,rfl,by dsimp only;omega⟩
      ·refine wk_cond (t:=false) (by show AV.bool (decide ((j:Int)<(m.length:Int)))=_;rw [decide_eq_false (by omega)]) (wk_exit ?_);obtain rfl:j=m.length:=by omega
       rw [List.take_length,hfs];(conv=>whnf);exact back_of () ⟨rfl,rfl⟩
     ·refine wkA ok mixed (A:=A3) ?_
      (repeat' (first|exact rfl|((conv=>whnf);first|exact rfl|exact ⟨rfl,rfl⟩|refine go1 ?_|(intro ep)|fail)))
      (conv=>whnf);refine wkA ok mixed (A:=A3) ?_
      (repeat' (first|exact rfl|((conv=>whnf);first|(rw [hwk])|exact rfl|exact ⟨rfl,rfl⟩|refine go1 ?_|(intro ep)|fail)))
      (conv=>whnf);exact back_of ⟨k+1,hkl⟩ ⟨rfl,rfl,by dsimp only;omega⟩
    ·refine wk_cond (t:=false) (by show AV.bool (decide ((k:Int)<(l.length:Int)))=_;rw [decide_eq_false (by omega)]) (wk_exit ?_);(conv=>whnf);refine wkA ok mixed (A:=A3) ?_
     (repeat' (first|exact rfl|((conv=>whnf);first|(rw [hwi])|exact rfl|exact ⟨rfl,rfl⟩|refine go1 ?_|(intro ep)|fail)))
     (conv=>whnf);exact back_of ⟨i+1,hil⟩ ⟨rfl,rfl,by dsimp only;omega⟩
  ·refine wk_cond (t:=false) (by show AV.bool (decide ((i:Int)<(p.evs.length:Int)))=_;rw [decide_eq_false (by omega)]) (wk_exit ?_);(conv=>whnf);exact back_of () ⟨rfl,rfl⟩
 ·refine wkA ok mixed (A:=A3) ?_
  (repeat' (first|exact rfl|((conv=>whnf);first|(refine ⟨_,h4,?_⟩)|exact rfl|exact ⟨rfl,rfl⟩|refine go1 ?_|(intro ep)|fail)))

theorem readS_ok {t:List UInt8} (ht:t.length≤6000) {y:Sy} {p:Pc} (h:readS t=some (y,p)):p.Ok:=by
 obtain ⟨h1,h2,h3⟩:=readS_len h;obtain ⟨h4,h5⟩:=chkIn_len h3;refine ⟨by omega,by omega,by omega,fun e he=>?_⟩;have:=nStops_mem he;omega
theorem law3_long (t:List UInt8) (n:Int) (ht:6000<t.length):ACalls C.P 3 [.str t,.int .u8 n] Heap.nil fun r _=>r= .bool true:=by
 have h4:=carries4;refine fn_of ok mixed (A:=A3) 4 Tryz.func3 rfl ?_
 (repeat' (first|exact rfl|((conv=>whnf);first|(refine ⟨_,h4,?_⟩)|exact rfl|exact ⟨rfl,rfl⟩|refine go1 ?_|(intro ep)|(refine ifB ?_ ?_<;>intro hb<;>(try simp only [qs] at hb)<;>(try simp (disch:=omega) only [wrapI] at hb)<;>(try (exfalso;omega)))|fail)))
theorem law3_e (t:List UInt8) (n:Int) (ht:t.length≤6000) (key5:∀{h:Heap} {K:AV→Heap→Prop},(∀r,(∃l e:Int,e≠0∧r= .tup [.int .u8 0,zeroA,.int .i64 l,.int .i64 e])→K r h)→ACalls C.P 5 [.str t] h K)
  (key6:∀{h:Heap} {K:AV→Heap→Prop},(∀e:Int,e≠0→K (errT e) h)→ACalls C.P 6 [.str t,.int .u8 n] h K):ACalls C.P 3 [.str t,.int .u8 n] Heap.nil fun r _=>r= .bool true:=by
 have h4:=carries4;refine fn_of (okx [] [5,6]) mixed (A:=A3) 4 Tryz.func3 rfl ?_
 (repeat' (first|exact rfl|((conv=>whnf);first|(refine key5 fun r hr5=>?_;obtain ⟨l,e,he,rfl⟩:=hr5)|(refine key6 fun e2 he2=>?_)|(refine ⟨_,h4,?_⟩)|(exact absurd hb ‹_≠_›)|exact rfl|exact ⟨rfl,rfl⟩|refine go1 ?_|(intro ep)|(refine ifB ?_ ?_<;>intro hb<;>(try simp only [qs] at hb)<;>(try simp (disch:=omega) only [wrapI] at hb)<;>(try (exfalso;omega)))|fail)))
theorem law3_r (t:List UInt8) (n:Int) (ht:t.length≤6000) {y0:Sy} {p:Pc} (hr:readS t=some (y0,p)) {e:Int} (he:e≠0) (h6:PRet C.P 6 [.str t,.int .u8 n] (errT e)):ACalls C.P 3 [.str t,.int .u8 n] Heap.nil fun r _=>r= .bool true:=by
 have h4:=carries4;have h5:=read_some hr;refine fn_of ok mixed (A:=A3) 4 Tryz.func3 rfl ?_
 (repeat' (first|exact rfl|((conv=>whnf);first|(refine ⟨_,h5,?_⟩)|(refine ⟨_,h6,?_⟩)|(refine ⟨_,h4,?_⟩)|(exact absurd hb he)|exact rfl|exact ⟨rfl,rfl⟩|refine go1 ?_|(intro ep)|(refine ifB ?_ ?_<;>intro hb<;>(try simp only [qs] at hb)<;>(try simp (disch:=omega) only [wrapI] at hb)<;>(try (exfalso;omega)))|fail)))
theorem syOf_some {n:Int} {y:Sy} (h:syOf n=some y):n=y.n:=by
 unfold syOf at h
 split at h
 ·cases h;assumption
 ·split at h
  ·cases h;assumption
  ·split at h
   ·cases h;assumption
   ·split at h
    ·cases h;assumption
    ·cases h
theorem law_nothing (t:List UInt8) (n:Int):ACalls C.P 3 [.str t,.int .u8 n] Heap.nil fun r _=>r= .bool true:=by
 by_cases ht:6000<t.length
 ·exact law3_long t n ht
 have ht:t.length≤6000:=by omega
 cases hr:readS t with
 |none=>
  refine law3_e t n ht (fun hK=>ACalls.any (read_none hr) hK) fun {h K} hK=>?_;cases hs:syOf n with
  |none=>exact PRet.calls (trn6_none t n hs) (hK 30 (by decide))
  |some y=>
   rw [syOf_some hs];exact ACalls.any (trn6_bad t y hr) fun r ⟨e,he,hx⟩=>by subst hx;exact hK e he
 |some z=>
  obtain ⟨y0,p⟩:=z;cases hs:syOf n with
  |none=>exact law3_r t n ht hr (e:=30) (by decide) (trn6_none t n hs)
  |some y=>
   rw [syOf_some hs];have h6:=trn6 t y y0 p (readS_ok ht hr) hr;unfold trnA at h6;by_cases h1:redE y p=0
   ·rw [if_pos h1] at h6;by_cases h2:wrE y (redX y p)=0
    ·rw [if_pos h2] at h6;have hc:chk p=0:=by
      unfold redE at h1
      split at h1
      ·rename_i hx;exact absurd h1 hx
      ·rename_i hx;exact Decidable.of_not_not hx
     have hcX:chk (redX y p)=0∧canP y (redX y p)=true:=by
      unfold wrE at h2
      split at h2
      ·rename_i hx;exact absurd h2 hx
      ·rename_i hx;refine ⟨Decidable.of_not_not hx,?_⟩
       split at h2
       ·cases h2
       ·rename_i hy;simpa using hy
     obtain ⟨hcX,hcan⟩:=hcX;have hns:=(readS_len hr).1;have hlen:=wrT_len hcX hcan (by have:=redX_stops y p;omega);have v:=vp (redQ_chk (y:=y) hc);have hvl:=v.len;refine law3m t ht y y0 p (redX y p) (redL y p) (wrT y (redX y p)) hc hcX hr h6 (read_back hcX hcan hlen) (redX_len y p) (redX_times hc) ?_ (fun j h1 h2=>redX_lost y p h1 h2) fun j h1 h2 s hs=>?_
     ·have:=losL_len y (tiB y) (reB y) (carE y (tiB y) (reB y) (redQ y p)) (redQ y p).evs 0 (fun e he=>by
       obtain ⟨j,hj,rfl⟩:=List.mem_iff_getElem.1 he;exact v.sl j hj)
      unfold redL;omega
     ·obtain ⟨u,hu,e1,e2⟩:=redX_found y p h1 h2 s hs;unfold fnd;rw [List.any_eq_true];exact ⟨u,hu,by simp [e1,e2]⟩
    ·rw [if_neg h2] at h6;exact law3_r t y.n ht hr h2 h6
   ·rw [if_neg h1] at h6;exact law3_r t y.n ht hr h1 h6
#print axioms law_nothing
end Go.Ab.V
