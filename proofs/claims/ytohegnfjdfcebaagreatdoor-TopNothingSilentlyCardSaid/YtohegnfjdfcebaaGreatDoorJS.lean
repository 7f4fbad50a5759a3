/-
  What is proved here serves the law's text: each part says its own claim and its conditions. No condition is left open.
-/
import Derived.Test.YtohegnfjdfcebaaGreatDoorJR
import Derived.Test.YtohegnfjdfcebaaGreatDoorJP
import Derived.Test.YtohegnfjdfcebaaGreatDoorJO
set_option maxHeartbeats 32000000
set_option maxRecDepth 100000
set_option linter.unusedSimpArgs false
set_option linter.unusedVariables false

namespace Go.Ab.V
open Go.Proofs
theorem find_filter {f q:Stp→Bool}:∀{l:List Stp},(∀s∈l,f s=true→q s=true)→(l.filter q).find? f=l.find? f
 | [],_=>rfl
 |s::r,h=>by
  have ih:=find_filter (l:=r) fun x hx=>h x (by simp [hx]);by_cases hf:f s=true
  ·rw [List.filter_cons_of_pos (h s (by simp) hf),List.find?_cons_of_pos hf,List.find?_cons_of_pos hf]
  ·by_cases hq:q s=true
   ·rw [List.filter_cons_of_pos hq,List.find?_cons_of_neg hf,List.find?_cons_of_neg hf,ih]
   ·rw [List.filter_cons_of_neg hq,List.find?_cons_of_neg hf,ih]
structure ChC (y:Sy) (p:Pc) (k:Nat) (l:List Stp):Prop where
 ne:l≠[]
 asc:l.Pairwise (fun a b=>a.c<b.c)
 inn:∀s∈l,s.In
 crs:∀s∈l,s.c≤p.ins.cs.length
 hf:∀s∈l,0<s.h→s.f≠0
 ok:∀s∈l,(cellS y s (longest p.evs k s.c)).2=true
theorem ChC.back {y:Sy} {p:Pc} {k:Nat} {l:List Stp} (h:ChC y p k l):∀s∈l,cellW y (coOf y s.c) (celW y p k s)=some (stpW y s)∧noB (celW y p k s)=true∧hdB (celW y p k s)=true∧(celW y p k s).length≤9:=
 fun s hs=>cell_back (h.inn s hs) (h.hf s hs) (h.ok s hs)
theorem hdB_ne {t:List UInt8} (h:hdB t=true):t≠[45]∧t≠[126]∧t≠[37]:=by
 refine ⟨?_,?_,?_⟩<;>rintro rfl<;>simp [hdB] at h
theorem chord_back {y:Sy} {p:Pc} {k:Nat} {l:List Stp} (h:ChC y p k l):chordS y p.ins (colM y p k l)=some (l.map (stpW y)):=by
 obtain ⟨n,hn⟩:∃n,n=colN y p:=⟨_,rfl⟩;have hn':nS y p.ins=n:=hn.symm;have hc1:∀s∈l,1≤s.c:=fun s hs=>(h.inn s hs).c1;have hb:=h.back;have hlen:(colG y p k n (List.replicate n [45]) [] l).1.length=n:=by rw [cgG_len,List.length_replicate]
 have hout:=colG_out y p k n l (List.replicate n [45]) [];have hge:∀s∈l,s.c≤n→y≠.ge∧coOf y s.c=s.c:=fun s hs hsn=>by
  have h1:=hc1 s hs;have hy:y≠.ge:=by
   rintro rfl;rw [hn] at hsn;unfold colN at hsn;simp at hsn;omega
  refine ⟨hy,?_⟩;unfold coOf;rw [if_neg];rintro (e|e)
  ·exact hy e
  ·rw [hn] at hsn;unfold colN stf at hsn;rw [if_neg hy] at hsn;omega
 have hou:∀s∈l,¬s.c≤n→coOf y s.c=0:=fun s hs hsn=>by
  unfold coOf;by_cases hy:y= .ge
  ·rw [if_pos (.inl hy)]
  ·rw [if_pos]
   right
   have h2:=h.crs s hs;rw [hn] at hsn;unfold colN stf at hsn;rw [if_neg hy] at hsn;omega
 have hget:∀c':Nat,1≤c'→c'<1+n→(colG y p k n (List.replicate n [45]) [] l).1.getD ((linS y c' n).toNat-1) []=match (l.filter fun s:Stp=>decide (s.c≤(n:Int))).find? (fun s=>s.c==(c':Int)) with
   |some s=>celW y p k s
   |none=>[45]:=fun c' h1 h2=>by
  have hy:y≠.ge:=by
   rintro rfl;rw [hn] at h2;unfold colN at h2;simp at h2;omega
  rw [colG_get y p k n hy c' (by omega) l _ _ (by rw [List.length_replicate]) hc1 h.asc,find_filter fun s hs hf=>by
   have:=eq_of_beq hf;simp;omega]
  cases hf:l.find? (fun s=>s.c==(c':Int)) with
  |some s=>rfl
  |none=>
   dsimp only;rw [List.getD_eq_getElem?_getD,List.getElem?_replicate,if_pos]
   ·rfl
   ·cases y
    ·simp only [linS];omega
    ·simp only [linS];omega
    ·simp only [linS];omega
    ·exact absurd rfl hy
 have hst:stfA y n (colG y p k n (List.replicate n [45]) [] l).1 [] n 1=some ((l.filter fun s:Stp=>decide (s.c≤(n:Int))).map (stpW y)):=by
  have:=stfA_back (y:=y) (W:=celW y p k) n 1 (l.filter fun s:Stp=>decide (s.c≤(n:Int))) [] (h.asc.sublist List.filter_sublist) (fun s hs=>?_) hget (fun s hs=>?_)
  ·rw [this];rfl
  ·obtain ⟨hs,hsn⟩:=List.mem_filter.1 hs;have:=hc1 s hs;simp at hsn;omega
  ·obtain ⟨hs,hsn⟩:=List.mem_filter.1 hs;obtain ⟨b1,b2,b3,_⟩:=hb s hs;rw [(hge s hs (by simpa using hsn)).2] at b1;exact ⟨b1,(hdB_ne b3).1⟩
 have hot:outA y ((l.filter fun s:Stp=>decide (s.c≤(n:Int))).map (stpW y)) 0 ((l.filter fun s:Stp=>!decide (s.c≤(n:Int))).map (celW y p k))=some (l.map (stpW y)):=by
  rw [outA_back _ _ _ (h.asc.sublist List.filter_sublist) (fun s hs=>?_) fun s hs=>?_]
  ·rw [←List.map_append,asc_split h.asc]
  ·have:=hc1 s (List.mem_filter.1 hs).1;omega
  ·obtain ⟨hs,hsn⟩:=List.mem_filter.1 hs;have b1:=(hb s hs).1;rw [hou s hs (by simpa using hsn)] at b1;exact b1
 unfold chordS colM;rw [hn',←hn];obtain ⟨G,hG⟩:∃G,G=colG y p k n (List.replicate n [45]) [] l:=⟨_,rfl⟩;rw [←hG] at hlen hout hst ⊢;have hon:onS y n (if obS y=true then G.1++G.2 else G.2++G.1)=G.1:=by
  unfold onS;by_cases ho:obS y=true
  ·simp only [if_pos ho];rw [←hlen,List.take_left]
  ·simp only [if_neg ho];rw [List.length_append,hlen,Nat.add_sub_cancel,List.drop_left]
 have hos:ouS y n (if obS y=true then G.1++G.2 else G.2++G.1)=(l.filter fun s:Stp=>!decide (s.c≤(n:Int))).map (celW y p k):=by
  unfold ouS;by_cases ho:obS y=true
  ·simp only [if_pos ho] at hout ⊢;rw [←hlen,List.drop_left,hlen,hout];rfl
  ·simp only [if_neg ho] at hout ⊢;rw [List.length_append,hlen,Nat.add_sub_cancel,List.take_left,hout];simp
 rw [if_neg (by split<;>(rw [List.length_append];omega)),hon,hos,hst];dsimp only;rw [hot];dsimp only;rw [if_neg (by simpa using h.ne)]
def colE (y:Sy) (p:Pc) (k:Nat) (e:Evt):List (List UInt8):=if e.tie=true then [[126]] else if e.stops=[] then [[37]] else colM y p k e.stops
theorem colW_eq (y:Sy) (p:Pc) (k:Nat) (e:Evt):colW y p k e=colH y e++colE y p k e:=by
 unfold colW colE
 split
 ·rfl
 ·split<;>rfl
def z0 (s:Stp):Stp:=⟨s.c,s.f,s.r,s.g,0⟩
def z0E (e:Evt):Evt:=⟨e.bar,e.v,e.d,e.t,e.tie,e.stops.map z0⟩
theorem colM_all {y:Sy} {p:Pc} {k:Nat} {l:List Stp} (Q:List UInt8→Prop) (h0:Q [45]) (h:∀s∈l,Q (celW y p k s)):∀w∈colM y p k l,Q w:=by
 obtain ⟨h1,h2⟩:=colG_all y p k (colN y p) Q l (List.replicate (colN y p) [45]) [] (fun w hw=>by rw [List.eq_of_mem_replicate hw];exact h0) (by simp) h;unfold colM
 split
 ·intro w hw
  rcases List.mem_append.1 hw with hw|hw
  ·exact h1 w hw
  ·exact h2 w hw
 ·intro w hw
  rcases List.mem_append.1 hw with hw|hw
  ·exact h2 w hw
  ·exact h1 w hw
theorem colM_ne {y:Sy} {p:Pc} {k:Nat} {l:List Stp} (h:ChC y p k l):colM y p k l≠[]:=by
 intro e;have hc:=chord_back h;rw [e] at hc;unfold chordS at hc
 split at hc
 ·cases hc
 ·rename_i hn;have hn0:nS y p.ins=0:=by simpa using hn
  rw [hn0] at hc;have e1:onS y 0 ([]:List (List UInt8))=[]:=by unfold onS;split<;>rfl
  have e2:ouS y 0 ([]:List (List UInt8))=[]:=by unfold ouS;split<;>rfl
  rw [e1,e2] at hc;simp [stfA,outA] at hc
structure EvK (y:Sy) (p:Pc) (k:Nat) (e:Evt):Prop where
 rt:right e.v e.d e.t=true
 v0:0≤e.v
 v7:e.v≤7
 can:EvC y p k e
 f0:¬(k=0∧e.v=0)
 f1:e.tie=true→k≠0∧e.stops=[]
 fr:∀s∈e.stops,s.f≤fretsOf p.ins s.c∧s.c≤p.ins.cs.length
 ch:e.stops≠[]→ChC y p k e.stops
theorem colK_back {y:Sy} {p:Pc} {k:Nat} {e:Evt} (h:EvK y p k e):colK y p.ins (colE y p k e)=some (e.tie,e.stops.map (stpW y))∧colE y p k e≠[]∧∀w∈colE y p k e,noB w=true:=by
 unfold colE;by_cases ht:e.tie=true
 ·rw [if_pos ht];refine ⟨?_,by simp,by intro w hw;rw [List.mem_singleton.1 hw];rfl⟩;unfold colK;rw [if_pos ⟨rfl,rfl,h.can.ti ht⟩,ht,(h.f1 ht).2];rfl
 ·rw [if_neg ht];have ht:e.tie=false:=by simpa using ht
  by_cases hs:e.stops=[]
  ·rw [if_pos hs];refine ⟨?_,by simp,by intro w hw;rw [List.mem_singleton.1 hw];rfl⟩;unfold colK;rw [if_neg (by simp),if_pos ⟨rfl,rfl,h.can.re ht hs⟩,ht,hs];rfl
  ·rw [if_neg hs];have hch:=h.ch hs;have hb:=hch.back;have hq:∀w∈colM y p k e.stops,noB w=true∧w≠[126]∧w≠[37]:=colM_all (fun w=>noB w=true∧w≠[126]∧w≠[37]) ⟨rfl,by decide,by decide⟩ fun s hs=>⟨(hb s hs).2.1,(hdB_ne (hb s hs).2.2.1).2⟩;refine ⟨?_,colM_ne hch,fun w hw=>(hq w hw).1⟩;have h0:∀t:List UInt8,(colM y p k e.stops).length=1→(colM y p k e.stops).getD 0 []=t→t∈colM y p k e.stops:=fun t h1 h2=>by
    rw [List.getD_eq_getElem?_getD,List.getElem?_eq_getElem (by omega)] at h2;rw [←h2];exact List.getElem_mem _
   unfold colK;rw [if_neg (fun x=>(hq _ (h0 _ x.1 x.2.1)).2.1 rfl),if_neg (fun x=>(hq _ (h0 _ x.1 x.2.1)).2.2 rfl),chord_back hch,ht]
theorem col_back {y:Sy} {p:Pc} {k:Nat} {e:Evt} (h:EvK y p k e):colR y p.ins (decide (k=0)) (colS y p k e)=some (z0E e,e.stops.map (stpW y))∧(10:UInt8)∉colS y p k e:=by
 obtain ⟨⟨n,hn,t1⟩,t2,t3⟩:=tm_back h.rt h.v0 h.v7 h.can.sg h.can.th;obtain ⟨k1,k2,k3⟩:=colK_back h;have hw:∀w∈colW y p k e,noB w=true:=fun w hw=>by
  rw [colW_eq] at hw
  rcases List.mem_append.1 hw with hw|hw
  ·unfold colH at hw
   split at hw
   ·simp only [List.mem_cons,List.not_mem_nil,or_false] at hw
    rcases hw with rfl|rfl
    ·rfl
    ·exact t2
   ·rw [List.mem_singleton.1 hw];exact t2
  ·exact k3 w hw
 have hne:colW y p k e≠[]:=by rw [colW_eq];intro e0;exact k2 (List.append_eq_nil_iff.1 e0).2
 refine ⟨?_,joinS_no (by decide) _ fun w hx=>noB_10 (hw w hx)⟩;have hsp:splitC 32 (colS y p k e)=colW y p k e:=splitC_join _ hne fun w hx=>noB_32 (hw w hx);have hB:∀bar,e.bar=bar→colB y p.ins (decide (k=0)) bar ((twS y e.v e.d e.t).1::colE y p k e)=some (z0E e,e.stops.map (stpW y)):=fun bar hb=>by
  unfold colB;rw [if_neg (by
   have:=List.length_pos_iff.2 k2;simp only [List.length_cons];omega)]
  show (match parseTm y (twS y e.v e.d e.t).1 with|none=>none|some p_1=>match colK y p.ins (colE y p k e) with|none=>none|some z=>colF p.ins (decide (k=0)) bar p_1.1 p_1.2.1 p_1.2.2 z.1 z.2)=_;rw [t1];dsimp only;rw [k1];dsimp only;unfold colF;rw [if_neg (by rintro ⟨a,b⟩;exact h.f0 ⟨by simpa using a,by omega⟩),if_neg (by rintro ⟨a,b⟩;exact (h.f1 b).1 (by simpa using a)),if_pos]
  ·rw [←hb,←hn];unfold z0E;simp only [List.map_map];rfl
  ·rw [List.all_eq_true];intro w hw;obtain ⟨s,hs,rfl⟩:=List.mem_map.1 hw;obtain ⟨f1,f2⟩:=h.fr s hs;unfold chkW stpW;simp [f1,f2]
 unfold colR;rw [hsp,colW_eq];unfold colH;cases hb:e.bar with
 |true=>
  rw [if_pos rfl];exact (if_pos rfl).trans (hB true hb)
 |false=>
  simp only [Bool.false_eq_true,if_false];exact (if_neg t3).trans (hB false hb)
theorem ev_ok {y:Sy} {p:Pc} (hc:chk p=0) (hcan:canP y p=true) {k:Nat} (hk:k<p.evs.length):EvK y p k p.evs[k]:=by
 have v:=vp hc;obtain ⟨_,_,hall⟩:=chk_iff.1 hc;obtain ⟨r1,r2,r3,r4⟩:=chkEv_iff.1 (hall k hk);have hs:=sgn_in hc hk;have cn:=can_ev hcan hk;refine ⟨r1,hs.1,hs.2,cn,r2,fun e=>v.tie k hk e,fun s h=>?_,fun h=>⟨h,v.asc k hk,stp_in hc hk,fun s h=>(v.sp k hk s h).1.2,fun s h=>(v.sp k hk s h).2.2.1.2.2,cn.st⟩⟩;have:=v.sp k hk s h;exact ⟨this.2.1.2,this.1.2⟩

def colLs (y:Sy) (p:Pc):Nat→List Evt→List (List UInt8)
 |_,[]=>[]
 |k,e::r=>colS y p k e::colLs y p (k+1) r
theorem colLs_len (y:Sy) (p:Pc):∀(l:List Evt) (k:Nat),(colLs y p k l).length=l.length
 | [],_=>rfl
 |e::r,k=>by simp [colLs,colLs_len y p r]
theorem colLs_get (y:Sy) (p:Pc):∀(l:List Evt) (k j:Nat) (h:j<l.length) (X:List (List UInt8)),(colLs y p k l++X).getD j []=colS y p (k+j) l[j]
 |e::r,k,0,h,X=>rfl
 |e::r,k,j+1,h,X=>by
  have:=colLs_get y p r (k+1) j (by simpa using h) X;rw [show k+(j+1)=k+1+j by omega];exact this
theorem split_cols (y:Sy) (p:Pc):∀(l:List Evt) (k:Nat),(∀j (h:j<l.length),(10:UInt8)∉colS y p (k+j) l[j])→splitC 10 (colsT y p k l)=colLs y p k l++[[]]
 | [],k,_=>rfl
 |e::r,k,h=>by
  have e1:colsT y p k (e::r)=colS y p k e++10::colsT y p (k+1) r:=by simp [colsT]
  have h0:(10:UInt8)∉colS y p k e:=h 0 (by simp);rw [e1,splitC_at h0,split_cols y p r (k+1) fun j hj=>by
   have:=h (j+1) (by simpa using hj);rw [show k+1+j=k+(j+1) by omega];exact this]
  rfl
theorem nmS_10 (y:Sy):(10:UInt8)∉tabT++nmS y:=by cases y<;>decide
theorem wr_lines {y:Sy} {p:Pc} (hc:chkIn p.ins=0) (h:∀j (h:j<p.evs.length),(10:UInt8)∉colS y p j p.evs[j]):splitC 10 (wrT y p)=(tabT++nmS y)::fmtI p.ins::(colLs y p 0 p.evs++[[]]):=by
 have e1:wrT y p=(tabT++nmS y)++10::(fmtI p.ins++10::colsT y p 0 p.evs):=by unfold wrT hdT;simp
 rw [e1,splitC_at (nmS_10 y),splitC_at (fmtI_10 hc),split_cols y p p.evs 0 fun j hj=>by rw [Nat.zero_add];exact h j hj]
theorem pfx_nm (y:Sy):pfxB tabT (tabT++nmS y)=(nmS y,true):=by cases y<;>rfl
theorem prs_nm (y:Sy):parseSys (nmS y)=some y:=by cases y<;>decide
def ntW (y:Sy) (e:Evt):List Wr:=e.stops.map (stpW y)
theorem colsS_back {y:Sy} {p:Pc} {S:List (List UInt8)} {N:Nat} (hN:p.evs.length=N) (hS:∀k (h:k<p.evs.length),S.getD (2+k) []=colS y p k p.evs[k]) (hK:∀k (h:k<p.evs.length),EvK y p k p.evs[k]):
  ∀(m k:Nat),k+m=N→colsS y p.ins S (2+N) true m (2+k) ((p.evs.take k).map z0E) ((p.evs.take k).map (ntW y))=some (p.evs.map z0E,p.evs.map (ntW y))
 |0,k,h=>by
  rw [colsS,List.take_of_length_le (by omega)]
 |m+1,k,h=>by
  have hk:k<p.evs.length:=by omega
  have hd:decide (((p.evs.take k).map z0E).length=0)=decide (k=0):=by
   rw [List.length_map,List.length_take,Nat.min_eq_left (by omega)]
  rw [colsS,if_pos (by unfold nxO;simp;omega),hd,hS k hk,(col_back (hK k hk)).1];dsimp only;have e1:(p.evs.take k).map z0E++[z0E p.evs[k]]=(p.evs.take (k+1)).map z0E:=by rw [List.take_succ_eq_append_getElem hk,List.map_append];rfl
  have e2:(p.evs.take k).map (ntW y)++[p.evs[k].stops.map (stpW y)]=(p.evs.take (k+1)).map (ntW y):=by rw [List.take_succ_eq_append_getElem hk,List.map_append];rfl
  rw [e1,e2,show 2+k+1=2+(k+1) by omega];exact colsS_back hN hS hK m (k+1) (by omega)
def sk (e:Evt):Bool×List Int:=(e.tie,e.stops.map Stp.c)
theorem hasC_map (l:List Stp) (c:Int):hasC l c=(l.map Stp.c).any (fun x=>x==c):=by unfold hasC;rw [List.any_map];rfl
theorem longL_sk (c:Int):∀(n:Nat) (l m:List Evt),l.map sk=m.map sk→longL c n l=longL c n m
 |0,_,_,_=>by simp [longL]
 |n+1,[],[],_=>rfl
 |n+1,[],_::_,h=>by simp at h
 |n+1,_::_,[],h=>by simp at h
 |n+1,a::l,b::m,h=>by
  simp only [List.map_cons,List.cons.injEq,sk,Prod.mk.injEq] at h;obtain ⟨⟨h1,h2⟩,h3⟩:=h;have ih:=longL_sk c n l m h3;have hl:a.stops.length=b.stops.length:=by have:=congrArg List.length h2;simpa using this
  have hr:restE a=restE b:=by unfold restE;rw [h1,hl]
  simp only [longL,hr,hasC_map,h2,ih]
theorem longest_sk {l m:List Evt} (h:l.map sk=m.map sk) (k c:Int):longest l k c=longest m k c:=by
 have hl:l.length=m.length:=by have:=congrArg List.length h;simpa using this
 unfold longest;rw [hl,longL_sk c 15 (l.drop (k+1).toNat) (m.drop (k+1).toNat) (by rw [List.map_drop,List.map_drop,h])]
theorem z0_c (l:List Stp):(l.map z0).map Stp.c=l.map Stp.c:=by rw [List.map_map];rfl
theorem z0E_sk (l:List Evt):(l.map z0E).map sk=l.map sk:=by
 rw [List.map_map];refine List.map_congr_left fun e _=>?_;show (e.tie,(e.stops.map z0).map Stp.c)=_;rw [z0_c];rfl
theorem setH_at (A B:List Evt) (bar:Bool) (v0:Int) (d t tie:Bool) (a b:List Stp) (s:Stp) (v:Int):
  setH (A++⟨bar,v0,d,t,tie,a++s::b⟩::B) A.length a.length v=A++⟨bar,v0,d,t,tie,a++{ s with h:=v }::b⟩::B:=by
 unfold setH;rw [List.getElem?_append_right (Nat.le_refl _),Nat.sub_self];dsimp only [List.getElem?_cons_zero];unfold setE;dsimp only;rw [List.getElem?_append_right (Nat.le_refl _),Nat.sub_self];dsimp only [List.getElem?_cons_zero];rw [List.set_append_right _ _ (Nat.le_refl _),Nat.sub_self,List.set_cons_zero,List.set_append_right _ _ (Nat.le_refl _),Nat.sub_self,List.set_cons_zero]
structure HdK (y:Sy) (lg:Int) (s:Stp):Prop where
 h0:0≤s.h
 hl:s.h≤lg
 ok:(hldS y s.h lg).2=true
theorem hwr_of {y:Sy} {lg:Int} {s:Stp} (h:HdK y lg s) (hz:s.h≠0):hwr y s.h≠0∧¬(lg=0∨lg<hwr y s.h)∧(if hwr y s.h<0 then lg else hwr y s.h)=s.h:=by
 obtain ⟨h0,hl,ok⟩:=h;unfold hwr;rw [if_neg hz];cases y
 ·rw [if_pos rfl];exact ⟨hz,by omega,if_neg (by omega)⟩
 ·rw [if_neg (by decide)];refine ⟨by decide,by omega,?_⟩;rw [if_pos (by decide)];unfold hldS holdSt at ok;simp only [if_neg hz] at ok
  split at ok
  ·omega
  ·cases ok
 ·unfold hldS at ok;simp only [decide_eq_true_eq] at ok;exact absurd ok hz
 ·rw [if_neg (by decide)];refine ⟨by decide,by omega,?_⟩;rw [if_pos (by decide)];unfold hldS holdSt at ok;simp only [if_neg hz] at ok
  split at ok
  ·omega
  ·cases ok
theorem hldN_back {y:Sy} {A B evs:List Evt} {bar:Bool} {v0:Int} {d t tie:Bool} {l:List Stp} (he:evs=A++⟨bar,v0,d,t,tie,l⟩::B) (hh:∀s∈l,HdK y (longest evs A.length s.c) s):
  ∀(b a:List Stp),l=a++b→hldN (A++⟨bar,v0,d,t,tie,a++b.map z0⟩::B.map z0E) A.length a.length (b.map (stpW y))=some (A++⟨bar,v0,d,t,tie,l⟩::B.map z0E)
 | [],a,hl=>by rw [hl];simp [hldN]
 |s::b,a,hl=>by
  have hs:=hh s (by rw [hl];simp);have key:hldW (A++⟨bar,v0,d,t,tie,a++(s::b).map z0⟩::B.map z0E) A.length a.length (stpW y s)=some (A++⟨bar,v0,d,t,tie,(a++[s])++b.map z0⟩::B.map z0E):=by
   have hlg:longest (A++⟨bar,v0,d,t,tie,a++(s::b).map z0⟩::B.map z0E) A.length s.c=longest evs A.length s.c:=by
    refine longest_sk ?_ _ _;rw [he,List.map_append,List.map_append,List.map_cons,List.map_cons,z0E_sk]
    congr 2
    unfold sk;dsimp only;rw [hl,List.map_append,List.map_append];show (tie,a.map Stp.c++s.c::(b.map z0).map Stp.c)=_;rw [z0_c];rfl
   unfold hldW;show (if hwr y s.h=0 then _ else if longest _ (A.length:Int) s.c=0∨longest _ (A.length:Int) s.c<hwr y s.h then none else some (setH _ A.length a.length (if hwr y s.h<0 then longest _ (A.length:Int) s.c else hwr y s.h)))=_;rw [hlg];by_cases hz:s.h=0
   ·rw [if_pos (by unfold hwr;rw [if_pos hz])];have e1:z0 s=s:=by obtain ⟨c,f,r,g,h⟩:=s;dsimp only at hz;subst hz;rfl
    rw [List.map_cons,e1];simp
   ·obtain ⟨w1,w2,w3⟩:=hwr_of hs hz;rw [if_neg w1,if_neg w2];rw [w3,List.map_cons,setH_at];show some (A++⟨bar,v0,d,t,tie,a++s::b.map z0⟩::B.map z0E)=_;simp
  show (match hldW _ A.length a.length (stpW y s) with|none=>none|some ev'=>hldN ev' A.length (a.length+1) (b.map (stpW y)))=_;rw [key];dsimp only;have:=hldN_back he hh b (a++[s]) (by rw [hl];simp);rw [List.length_append,List.length_singleton] at this;exact this
theorem hldL_back {y:Sy} {evs:List Evt} (hh:∀i (h:i<evs.length),∀s∈evs[i].stops,HdK y (longest evs i s.c) s):∀(B A:List Evt),evs=A++B→hldL (A++B.map z0E) A.length (B.map (ntW y))=some evs
 | [],A,he=>by rw [he];simp [hldL]
 |e::B,A,he=>by
  obtain ⟨bar,v0,d,t,tie,l⟩:=e;have hi:A.length<evs.length:=by rw [he];simp
  have hg:evs[A.length]=⟨bar,v0,d,t,tie,l⟩:=by
   have:evs[A.length]? =some ⟨bar,v0,d,t,tie,l⟩:=by rw [he,List.getElem?_append_right (Nat.le_refl _),Nat.sub_self];rfl
   rw [List.getElem?_eq_getElem hi] at this;exact Option.some.inj this
  have h1:=hldN_back (y:=y) (B:=B) he (fun s hs=>hh _ hi s (by rw [hg];exact hs)) l [] rfl;rw [List.map_cons,List.map_cons,hldL];rw [List.nil_append] at h1;show (match hldN (A++⟨bar,v0,d,t,tie,l.map z0⟩::B.map z0E) A.length 0 (l.map (stpW y)) with|none=>none|some ev'=>hldL ev' (A.length+1) (B.map (ntW y)))=_;rw [show hldN (A++⟨bar,v0,d,t,tie,l.map z0⟩::B.map z0E) A.length 0 (l.map (stpW y))=_ from h1];dsimp only;have:=hldL_back hh B (A++[⟨bar,v0,d,t,tie,l⟩]) (by rw [he];simp);rw [List.length_append,List.length_singleton] at this;rw [←this];simp
theorem read_back {y:Sy} {p:Pc} (hc:chk p=0) (hcan:canP y p=true) (hlen:(wrT y p).length≤65536):readS (wrT y p)=some (y,p):=by
 have v:=vp hc;have hvl:=v.len;have hK:∀k (h:k<p.evs.length),EvK y p k p.evs[k]:=fun k h=>ev_ok hc hcan h;have hL:=wr_lines (y:=y) v.chkI fun j hj=>(col_back (hK j hj)).2;unfold readS;rw [if_neg (by omega),hL];obtain ⟨S,hS⟩:∃S,S=(tabT++nmS y)::fmtI p.ins::(colLs y p 0 p.evs++[[]]):=⟨_,rfl⟩;rw [←hS];have hSl:S.length=p.evs.length+3:=by rw [hS];simp [colLs_len]
 have hlast:S.getD (S.length-1) []=[]:=by
  rw [hSl,hS];show (colLs y p 0 p.evs++[[]]).getD p.evs.length []=[];rw [List.getD_eq_getElem?_getD,List.getElem?_append_right (by rw [colLs_len];omega),colLs_len,Nat.sub_self];rfl
 have hn:linN S=2+p.evs.length:=by unfold linN;rw [if_pos hlast,hSl];omega
 have hcl:linC S=true:=by unfold linC;rw [hlast];rfl
 have hg0:S.getD 0 []=tabT++nmS y:=by rw [hS];rfl
 have hg1:S.getD 1 []=fmtI p.ins:=by rw [hS];rfl
 have hg2:∀k (h:k<p.evs.length),S.getD (2+k) []=colS y p k p.evs[k]:=fun k h=>by
  rw [hS,show 2+k=k+1+1 by omega];show (colLs y p 0 p.evs++[[]]).getD k []=_;rw [colLs_get y p p.evs 0 k h,Nat.zero_add]
 have hhd:hdS S (2+p.evs.length) true=some (y,p.ins):=by
  unfold hdS;rw [if_pos (by unfold nxO;simp;omega),hg0,pfx_nm];dsimp only;rw [prs_nm];dsimp only;rw [if_pos rfl,if_pos (by unfold nxO;simp;omega),hg1,prs_fmt v.chkI]
 unfold readL;rw [hn,hcl,hhd];dsimp only;rw [if_neg (by omega),show 2+p.evs.length-2=p.evs.length by omega];have h1:=colsS_back (y:=y) (p:=p) (S:=S) rfl hg2 hK p.evs.length 0 (by omega);rw [List.take_zero] at h1;rw [show colsS y p.ins S (2+p.evs.length) true p.evs.length 2 [] []=_ from h1];dsimp only;have h2:=hldL_back (y:=y) (evs:=p.evs) (fun i hi s hs=>by
  have h3:=(v.sp i hi s hs).2.2.1;refine ⟨h3.1,h3.2.1,?_⟩;have h4:=(hK i hi).can.st s hs;unfold cellS at h4;simp only [Bool.and_eq_true] at h4;exact h4.2) p.evs [] rfl
 rw [List.nil_append] at h2;rw [show hldL (p.evs.map z0E) 0 (p.evs.map (ntW y))=_ from h2]

def wsum (l:List (List UInt8)):Nat:=(l.map fun w=>w.length+1).sum
theorem wsum_cons (w:List UInt8) (l:List (List UInt8)):wsum (w::l)=w.length+1+wsum l:=by simp [wsum]
theorem wsum_app (a b:List (List UInt8)):wsum (a++b)=wsum a+wsum b:=by simp [wsum]
theorem wsum_split (c:UInt8):∀l:List UInt8,wsum (splitC c l)=l.length+1
 | []=>rfl
 |b::l=>by
  have ih:=wsum_split c l;rw [splitC]
  split
  ·rw [wsum_cons,ih];simp;omega
  ·split
   ·rename_i x r he;rw [he,wsum_cons] at ih;rw [wsum_cons,List.length_cons,List.length_cons];omega
   ·rename_i he;exact absurd he (splitC_ne c l)
theorem cellW_ne {y:Sy} {co:Int} {t:List UInt8} {w:Wr} (h:cellW y co t=some w):t≠[]:=by
 rintro rfl;have:cellW y co []=none:=by
  unfold cellW;simp [celR,celAt]
 rw [this] at h;cases h
theorem stfA_ne {y:Sy} {n:Nat} {O:List (List UInt8)}:∀{m c:Nat} {acc r:List Wr},stfA y n O acc m c=some r→∀c',c≤c'→c'<c+m→O.getD ((linS y c' n).toNat-1) []≠[]
 |0,c,acc,r,h,c',h1,h2=>by omega
 |m+1,c,acc,r,h,c',h1,h2=>by
  rw [stfA] at h;by_cases hc:c'=c
  ·subst hc
   split at h
   ·rename_i h0;rw [h0];simp
   ·split at h
    ·cases h
    ·rename_i w hw;exact cellW_ne hw
  ·split at h
   ·exact stfA_ne h c' (by omega) (by omega)
   ·split at h
    ·cases h
    ·exact stfA_ne h c' (by omega) (by omega)
theorem wsum_ge:∀{l:List (List UInt8)},(∀w∈l,w≠[])→2 * l.length≤wsum l
 | [],_=>by simp [wsum]
 |w::l,h=>by
  have:=wsum_ge (l:=l) fun w hw=>h w (by simp [hw]);have h0:=List.length_pos_iff.2 (h w (by simp));rw [wsum_cons,List.length_cons];omega
theorem outA_ws {y:Sy}:∀{X:List (List UInt8)} {last:Int} {acc r:List Wr},outA y acc last X=some r→2 * r.length≤2 * acc.length+wsum X
 | [],last,acc,r,h=>by cases h;simp [wsum]
 |t::X,last,acc,r,h=>by
  rw [outA] at h
  split at h
  ·cases h
  ·rename_i w hw;have h0:=List.length_pos_iff.2 (cellW_ne hw)
   split at h
   ·cases h
   ·have:=outA_ws h;rw [List.length_append,List.length_singleton] at this;rw [wsum_cons];omega
theorem wsum_rev (l:List (List UInt8)):wsum l.reverse=wsum l:=by
 induction l with
 |nil=>rfl
 |cons w l ih=>rw [List.reverse_cons,wsum_app,ih,wsum_cons,wsum_cons];simp [wsum];omega
theorem wsum_part (y:Sy) {n:Nat} {ws:List (List UInt8)} (h:n≤ws.length):wsum (onS y n ws)+wsum (ouS y n ws)=wsum ws∧(onS y n ws).length=n:=by
 unfold onS ouS
 split
 ·refine ⟨?_,by rw [List.length_take];omega⟩;rw [←wsum_app,List.take_append_drop]
 ·refine ⟨?_,by rw [List.length_drop];omega⟩;rw [wsum_rev,Nat.add_comm,←wsum_app,List.take_append_drop]
theorem lin_onto (y:Sy) {n j:Nat} (hn:y= .ge→n=0) (h:j<n):∃c:Nat,1≤c∧c<1+n∧(linS y c n).toNat-1=j:=by
 cases y
 ·exact ⟨j+1,by omega,by omega,by simp only [linS];omega⟩
 ·exact ⟨n-j,by omega,by omega,by simp only [linS];omega⟩
 ·exact ⟨j+1,by omega,by omega,by simp only [linS];omega⟩
 ·exact absurd (hn rfl) (by omega)
theorem chordS_ws {y:Sy} {i:Ins} {ws:List (List UInt8)} {r:List Wr} (h:chordS y i ws=some r):2 * r.length≤wsum ws:=by
 unfold chordS at h
 split at h
 ·cases h
 ·rename_i hn
  split at h
  ·cases h
  ·rename_i a ha
   split at h
   ·cases h
   ·rename_i b hb
    split at h
    ·cases h
    ·cases h;obtain ⟨p1,p2⟩:=wsum_part y (n:=nS y i) (ws:=ws) (by omega);have h1:=stfA_len ha;have h2:=outA_ws hb;have h3:2 * (onS y (nS y i) ws).length≤wsum (onS y (nS y i) ws):=wsum_ge fun w hw=>by
      obtain ⟨j,hj,rfl⟩:=List.mem_iff_getElem.1 hw;rw [p2] at hj;obtain ⟨c,c1,c2,c3⟩:=lin_onto y (fun e=>by unfold nS;rw [if_pos e]) hj;have:=stfA_ne ha c c1 c2;rw [c3,List.getD_eq_getElem?_getD,List.getElem?_eq_getElem (by omega)] at this;exact this
     simp only [List.length_nil] at h1;omega
theorem colK_ws {y:Sy} {i:Ins} {ws:List (List UInt8)} {z:Bool×List Wr} (h:colK y i ws=some z):2 * z.2.length≤wsum ws:=by
 unfold colK at h
 split at h
 ·cases h;simp
 ·split at h
  ·cases h;simp
  ·split at h
   ·cases h
   ·rename_i l hl;cases h;exact chordS_ws hl
theorem wsum_drop1 {ws:List (List UInt8)} (h:ws≠[]):wsum (ws.drop 1)+1≤wsum ws:=by
 cases ws with
 |nil=>exact absurd rfl h
 |cons w l=>rw [wsum_cons];simp only [List.drop_succ_cons,List.drop_zero];omega
theorem wsum_drop (ws:List (List UInt8)):wsum (ws.drop 1)≤wsum ws:=by
 cases ws with
 |nil=>simp
 |cons w l=>rw [wsum_cons];simp only [List.drop_succ_cons,List.drop_zero];omega
theorem colR_ws {y:Sy} {i:Ins} {first:Bool} {t:List UInt8} {ev:Evt} {nt:List Wr} (h:colR y i first t=some (ev,nt)):2 * ev.stops.length≤t.length:=by
 have B:∀{bar:Bool} {ws:List (List UInt8)},colB y i first bar ws=some (ev,nt)→2 * nt.length+1≤wsum ws:=by
  intro bar ws h;unfold colB at h
  split at h
  ·cases h
  ·rename_i hl
   split at h
   ·cases h
   ·split at h
    ·cases h
    ·rename_i z hz;have h1:=colK_ws hz;have h2:=wsum_drop1 (ws:=ws) (by rintro rfl;simp at hl);have h3:nt=z.2:=by
      unfold colF at h
      split at h
      ·cases h
      ·split at h
       ·cases h
       ·split at h
        ·cases h;rfl
        ·cases h
     rw [h3];omega
 have hl:=(colR_len h).1;have hs:=wsum_split 32 t;unfold colR at h
 split at h
 ·have h1:=B h;have h2:=wsum_drop (splitC 32 t);omega
 ·have h1:=B h;omega
def nStops (l:List Evt):Nat:=(l.map fun e=>e.stops.length).sum
theorem nStops_snoc (l:List Evt) (e:Evt):nStops (l++[e])=nStops l+e.stops.length:=by simp [nStops]
theorem wsum_get (L:List (List UInt8)) (k:Nat):(L.getD k []).length+wsum (L.drop (k+1))≤wsum (L.drop k):=by
 by_cases h:k<L.length
 ·rw [drop_at h,wsum_cons,List.getD_eq_getElem?_getD,List.getElem?_eq_getElem h];show L[k].length+_≤_;omega
 ·rw [List.drop_of_length_le (by omega),List.drop_of_length_le (by omega),List.getD_eq_getElem?_getD,List.getElem?_eq_none (by omega)];simp
theorem colsS_ws {y:Sy} {i:Ins} {L:List (List UInt8)} {n:Nat} {cl:Bool}:∀{k ln:Nat} {evs:List Evt} {nts:List (List Wr)} {r:List Evt×List (List Wr)},colsS y i L n cl k ln evs nts=some r→2 * nStops r.1≤2 * nStops evs+wsum (L.drop ln)∧r.1.length=evs.length+k
 |0,ln,evs,nts,r,h=>by cases h;exact ⟨Nat.le_add_right _ _,rfl⟩
 |k+1,ln,evs,nts,r,h=>by
  rw [colsS] at h
  split at h
  ·split at h
   ·cases h
   ·rename_i z hz;obtain ⟨ev,nt⟩:=z;obtain ⟨h1,h2⟩:=colsS_ws h;have h3:=colR_ws hz;have h4:=wsum_get L ln;rw [nStops_snoc] at h1;rw [List.length_append,List.length_singleton] at h2;dsimp only at h1 h2;omega
  ·cases h
theorem nStops_shp {l m:List Evt} (h:shpE l=shpE m):nStops l=nStops m:=by unfold nStops;exact congrArg List.sum h
theorem wsum_dropN (L:List (List UInt8)):∀k,wsum (L.drop k)≤wsum L
 |0=>by simp
 |k+1=>by have:=wsum_get L k;have:=wsum_dropN L k;omega
theorem readS_len {t:List UInt8} {y:Sy} {p:Pc} (h:readS t=some (y,p)):2 * nStops p.evs≤t.length+1∧p.evs.length≤400∧chkIn p.ins=0:=by
 unfold readS at h
 split at h
 ·cases h
 ·unfold readL at h
  split at h
  ·cases h
  ·rename_i z hz
   split at h
   ·cases h
   ·split at h
    ·cases h
    ·rename_i x hx
     split at h
     ·cases h
     ·rename_i ev hev;cases h;obtain ⟨h1,h2⟩:=colsS_ws hx;have h3:=hldL_shp hev;have h4:=wsum_dropN (splitC 10 t) 2;rw [wsum_split] at h4;have h5:=shp_len h3;have h6:nStops ([]:List Evt)=0:=rfl;simp only [List.length_nil] at h2;refine ⟨?_,?_,hdS_len (y:=z.1) (i:=z.2) hz⟩
      ·dsimp only;rw [nStops_shp h3];omega
      ·dsimp only;omega
theorem nStops_mem {l:List Evt} {e:Evt} (h:e∈l):e.stops.length≤nStops l:=by
 induction l with
 |nil=>cases h
 |cons x l ih=>
  have e1:nStops (x::l)=x.stops.length+nStops l:=by simp [nStops]
  rw [e1]
  rcases List.mem_cons.1 h with rfl|h
  ·omega
  ·have:=ih h;omega
theorem colsT_ws {y:Sy} {p:Pc} (hK:∀k (h:k<p.evs.length),EvK y p k p.evs[k]):∀k,(colsT y p 0 (p.evs.take k)).length≤81 * k+10 * nStops (p.evs.take k)
 |0=>by simp [colsT]
 |k+1=>by
  have ih:=colsT_ws hK k;by_cases h:k<p.evs.length
  ·rw [colsT_snoc y p p.evs 0 k h,List.length_append,List.length_append,List.length_singleton,Nat.zero_add,List.take_succ_eq_append_getElem h,nStops_snoc];have h1:(colS y p k p.evs[k]).length≤(8+p.evs[k].stops.length) * (9+1):=colS_len (m:=9) (by omega) fun s hs=>by
    have hne:p.evs[k].stops≠[]:=by intro e;rw [e] at hs;cases hs
    exact (((hK k h).ch hne).back s hs).2.2.2
   omega
  ·rw [List.take_of_length_le (by omega)];rw [List.take_of_length_le (by omega)] at ih;omega
theorem wrT_len {y:Sy} {p:Pc} (hc:chk p=0) (hcan:canP y p=true) (hs:nStops p.evs≤3100):(wrT y p).length≤65536:=by
 have v:=vp hc;have hvl:=v.len;have h1:=colsT_ws (y:=y) (p:=p) (fun k h=>ev_ok hc hcan h) p.evs.length;rw [List.take_length] at h1;have hfl:=fmtI_len (chkIn_ok v.chkI);have hnl:=nmS_len y;have htl:tabT.length=10:=rfl;unfold wrT hdT;simp only [List.length_append,List.length_singleton];omega

def cf (s:Stp):Int×Int:=(s.c,s.f)
def sg3 (e:Evt):Int×Bool×Bool:=(e.v,e.d,e.t)
def skE (e:Evt):(Int×Bool×Bool)×List (Int×Int):=(sg3 e,e.stops.map cf)
theorem setE_skE (e:Evt) (k:Nat) (v:Int):skE (setE e k v)=skE e:=by
 unfold setE;cases hq:e.stops[k]? with
 |none=>rfl
 |some s=>
  obtain ⟨h1,h2⟩:=List.getElem?_eq_some_iff.1 hq;subst h2;unfold skE;dsimp only;rw [List.map_set];have:(e.stops.map cf)[k]? =some (cf e.stops[k]):=by rw [List.getElem?_map,List.getElem?_eq_getElem h1];rfl
  obtain ⟨h3,h4⟩:=List.getElem?_eq_some_iff.1 this;show (_,(e.stops.map cf).set k (cf e.stops[k]))=_;rw [←h4,List.set_getElem_self];rfl
theorem setH_skE (l:List Evt) (i k:Nat) (v:Int):(setH l i k v).map skE=l.map skE:=by
 unfold setH;cases hq:l[i]? with
 |none=>rfl
 |some e=>
  obtain ⟨h1,h2⟩:=List.getElem?_eq_some_iff.1 hq;subst h2;dsimp only;rw [List.map_set,setE_skE];have:(l.map skE)[i]? =some (skE l[i]):=by rw [List.getElem?_map,List.getElem?_eq_getElem h1];rfl
  obtain ⟨h3,h4⟩:=List.getElem?_eq_some_iff.1 this;rw [←h4,List.set_getElem_self]
theorem cap0_skE (evs:List Evt) (i k:Nat) (s:Stp):(cap0 evs i k s).map skE=evs.map skE:=by
 unfold cap0;split
 ·exact setH_skE _ _ _ _
 ·rfl
theorem capW_skE (evs:List Evt) (i k:Nat):(capW evs i k).map skE=evs.map skE:=by
 unfold capW;split
 ·rfl
 ·rw [setH_skE,cap0_skE]
theorem capN_skE:∀(n:Nat) (evs:List Evt) (i k:Nat),(capN n evs i k).map skE=evs.map skE
 |0,_,_,_=>rfl
 |n+1,evs,i,k=>by rw [capN,capN_skE n,capW_skE]
theorem capL_skE:∀(n:Nat) (evs:List Evt) (i:Nat),(capL n evs i).map skE=evs.map skE
 |0,_,_=>rfl
 |n+1,evs,i=>by rw [capL,capL_skE n,capN_skE]
theorem unhS_skE:∀(l:List Lck) (evs:List Evt),(unhS evs l).map skE=evs.map skE
 | [],_=>rfl
 |z::r,evs=>by
  rw [unhS,unhS_skE r]
  split
  ·exact setH_skE _ _ _ _
  ·rfl
theorem chkdS_skE (y:Sy) (p:Pc):(chkdS y p).map skE=p.evs.map skE:=by
 unfold chkdS;split
 ·exact unhS_skE _ _
 ·rfl
theorem kep_cf (y:Sy) (l:List Stp):(kepS y l).map cf=(l.filter fun s=>!lostB y s).map cf:=by
 unfold kepS;rw [List.map_map];rfl
theorem oneE_skE (y:Sy) (ti re b:Bool) (e:Evt):skE (oneE y ti re b e)=(sg3 e,(e.stops.filter fun s=>!lostB y s).map cf):=by
 rw [←kep_cf,←oneE_stops y ti re b e];unfold oneE;split<;>rfl
theorem outS_skE (y:Sy) (ti re:Bool):∀(l:List Evt) (b:Bool),(outS y ti re b l).map skE=l.map fun e=>(sg3 e,(e.stops.filter fun s=>!lostB y s).map cf)
 | [],_=>rfl
 |e::r,b=>by rw [outS,List.map_cons,oneE_skE,outS_skE y ti re r];rfl
theorem carE_skE (y:Sy) (ti re:Bool) (q:Pc):(carE y ti re q).map skE=q.evs.map fun e=>(sg3 e,(e.stops.filter fun s=>!lostB y s).map cf):=by
 unfold carE;rw [chkdS_skE];dsimp only;rw [capL_skE,outS_skE]
theorem fcs_sg:∀(l m:List Evt) (s:Sgn),l.map sg3=m.map sg3→fcs s l=fcs s m
 | [],[],_,_=>rfl
 | [],_::_,_,h=>by simp at h
 |_::_,[],_,h=>by simp at h
 |a::l,b::m,s,h=>by
  simp only [List.map_cons,List.cons.injEq,sg3,Prod.mk.injEq] at h;obtain ⟨⟨h1,h2,h3⟩,h4⟩:=h;have hn:nextS s a=nextS s b:=by unfold nextS;rw [h1,h2,h3]
  rw [fcs,fcs,hn,fcs_sg l m _ h4]
theorem carE_sg (y:Sy) (ti re:Bool) (q:Pc):(carE y ti re q).map sg3=q.evs.map sg3:=by
 have h:=congrArg (List.map Prod.fst) (carE_skE y ti re q);rw [List.map_map,List.map_map] at h;exact h
theorem carE_at (y:Sy) (ti re:Bool) (q:Pc) {j:Nat} (h1:j<(carE y ti re q).length) (h2:j<q.evs.length):(carE y ti re q)[j].stops.map cf=(q.evs[j].stops.filter fun s=>!lostB y s).map cf:=by
 have h:=congrArg (fun l=>(l.map Prod.snd)[j]?) (carE_skE y ti re q);simp only [List.map_map,List.getElem?_map,List.getElem?_eq_getElem h1,List.getElem?_eq_getElem h2,Option.map_some,Option.some.injEq] at h;exact h
def lostP (i:Int) (z:Lck):Bool:=z.e==i&&z.w==1
def lostN (L:List Lck) (i:Int):Nat:=L.countP (lostP i)
theorem lost0 {L:List Lck} {i:Int} (h:∀z∈L,z.w≠1):L.countP (lostP i)=0:=by
 rw [List.countP_eq_zero];intro z hz;unfold lostP;simp [h z hz]
theorem losSt_cnt (y:Sy) (out:List Stp) (e i:Int) (s:Stp):(losSt y out e s).countP (lostP i)=if e=i∧lostB y s=true then 1 else 0:=by
 unfold losSt;by_cases hl:lostB y s=true
 ·rw [if_pos hl];by_cases he:e=i
  ·rw [if_pos ⟨he,hl⟩];simp [lostP,he]
  ·rw [if_neg (fun h=>he h.1)];simp [lostP,he]
 ·rw [if_neg hl,if_neg (fun h=>hl h.2),List.countP_append,lost0,lost0]
  ·intro z hz
   split at hz
   ·split at hz
    ·cases hz
    ·rw [List.mem_singleton.1 hz];simp
   ·cases hz
  ·intro z hz;obtain ⟨w,hw,rfl⟩:=List.mem_map.1 hz;unfold hndL at hw
   rcases List.mem_append.1 hw with hw|hw
   ·split at hw
    ·rw [List.mem_singleton.1 hw];simp
    ·cases hw
   ·split at hw
    ·rw [List.mem_singleton.1 hw];simp
    ·cases hw
theorem losSs_cnt (y:Sy) (out:List Stp) (e i:Int):∀l:List Stp,(losSs y out e l).countP (lostP i)=if e=i then l.countP (lostB y) else 0
 | []=>by simp [losSs]
 |s::r=>by
  have ih:=losSs_cnt y out e i r;have e1:losSs y out e (s::r)=losSt y out e s++losSs y out e r:=by simp [losSs]
  rw [e1,List.countP_append,losSt_cnt,ih,List.countP_cons];by_cases he:e=i
  ·subst he;simp only [if_true,true_and];omega
  ·rw [if_neg (fun h=>he h.1),if_neg he,if_neg he]
theorem losEv_cnt (y:Sy) (ti re:Bool) (out:List Stp) (e i:Int) (ev:Evt):(losEv y ti re out e ev).countP (lostP i)=if e=i then ev.stops.countP (lostB y) else 0:=by
 unfold losEv
 split
 ·rename_i h0;rw [h0,lost0]
  ·split<;>rfl
  ·intro z hz
   split at hz
   ·rw [List.mem_singleton.1 hz];unfold tieE;dsimp only
    split<;>split<;>simp
   ·cases hz
 ·exact losSs_cnt y out e i ev.stops
theorem losL_cnt (y:Sy) (ti re:Bool) (outs:List Evt) (k:Nat):∀(l:List Evt) (j:Nat),(losL y ti re outs j l).countP (lostP (k:Nat))=if j≤k then ((l[k-j]?).map fun e=>e.stops.countP (lostB y)).getD 0 else 0
 | [],j=>by simp [losL]
 |e::r,j=>by
  rw [losL,List.countP_append,losEv_cnt,losL_cnt y ti re outs k r (j+1)];by_cases h1:j=k
  ·subst h1;rw [if_pos rfl,if_neg (by omega),if_pos (Nat.le_refl _),Nat.sub_self];rfl
  ·rw [if_neg (by omega)];by_cases h2:j≤k
   ·rw [if_pos (by omega),if_pos h2,show k-j=(k-(j+1))+1 by omega,List.getElem?_cons_succ];omega
   ·rw [if_neg (by omega),if_neg h2]
theorem redQ_body (y:Sy) (p:Pc):(redQ y p).evs.map body=p.evs.map body:=by
 unfold redQ;split
 ·exact pln_body _
 ·rfl
theorem redQ_len (y:Sy) (p:Pc):(redQ y p).evs.length=p.evs.length:=by
 have:=congrArg List.length (redQ_body y p);simpa using this
theorem redQ_at (y:Sy) (p:Pc) {j:Nat} (h1:j<(redQ y p).evs.length) (h2:j<p.evs.length):(redQ y p).evs[j].stops=p.evs[j].stops:=by
 have h:=congrArg (fun l=>(l.map Prod.snd)[j]?) (redQ_body y p);simp only [List.map_map,List.getElem?_map,List.getElem?_eq_getElem h1,List.getElem?_eq_getElem h2,Option.map_some,Option.some.injEq] at h;exact h
theorem redX_len (y:Sy) (p:Pc):(redX y p).evs.length=p.evs.length:=by
 unfold redX;dsimp only;rw [carE_len,redQ_len]
theorem redX_times {y:Sy} {p:Pc} (hc:chk p=0):times (redX y p)=times p:=by
 have h1:times (redX y p)=times (redQ y p):=by
  unfold times redX;dsimp only;rw [fcs_sg _ _ _ (carE_sg y _ _ _)]
 rw [h1];unfold redQ;split
 ·exact pln_times hc
 ·rfl
theorem redX_at (y:Sy) (p:Pc) {j:Nat} (h1:j<(redX y p).evs.length) (h2:j<p.evs.length):(redX y p).evs[j].stops.map cf=(p.evs[j].stops.filter fun s=>!lostB y s).map cf:=by
 have h3:j<(redQ y p).evs.length:=by rw [redQ_len];exact h2
 rw [←redQ_at y p h3 h2];exact carE_at y (tiB y) (reB y) (redQ y p) h1 h3
theorem redX_lost (y:Sy) (p:Pc) {j:Nat} (h1:j<(redX y p).evs.length) (h2:j<p.evs.length):(redX y p).evs[j].stops.length+lostN (redL y p) j=p.evs[j].stops.length:=by
 have h3:j<(redQ y p).evs.length:=by rw [redQ_len];exact h2
 have h4:=congrArg List.length (redX_at y p h1 h2);rw [List.length_map,List.length_map,←List.countP_eq_length_filter] at h4;have h5:lostN (redL y p) j=p.evs[j].stops.countP (lostB y):=by
  unfold lostN redL;rw [losL_cnt,if_pos (Nat.zero_le _),Nat.sub_zero,List.getElem?_eq_getElem h3,Option.map_some,Option.getD_some,redQ_at y p h3 h2]
 rw [h4,h5];have:=List.length_eq_countP_add_countP (lostB y) (l:=p.evs[j].stops);have e:(fun s=>!lostB y s)=fun s=>decide ¬lostB y s=true:=by funext s;cases lostB y s<;>rfl
 rw [e];omega
theorem redX_found (y:Sy) (p:Pc) {j:Nat} (h1:j<(redX y p).evs.length) (h2:j<p.evs.length):∀s∈(redX y p).evs[j].stops,∃u∈p.evs[j].stops,u.c=s.c∧u.f=s.f:=fun s hs=>by
 have:cf s∈(redX y p).evs[j].stops.map cf:=List.mem_map.2 ⟨s,hs,rfl⟩;rw [redX_at y p h1 h2] at this;obtain ⟨u,hu,e⟩:=List.mem_map.1 this;refine ⟨u,(List.mem_filter.1 hu).1,?_⟩;unfold cf at e;exact ⟨congrArg Prod.fst e,congrArg Prod.snd e⟩
theorem nStops_le:∀{l m:List Evt},l.length=m.length→(∀j (h1:j<l.length) (h2:j<m.length),l[j].stops.length≤m[j].stops.length)→nStops l≤nStops m
 | [],[],_,_=>Nat.le_refl _
 | [],_::_,h,_=>by simp at h
 |_::_,[],h,_=>by simp at h
 |a::l,b::m,h,k=>by
  have h0:=k 0 (by simp) (by simp);have ih:=nStops_le (l:=l) (m:=m) (by simpa using h) fun j h1 h2=>k (j+1) (by simpa using h1) (by simpa using h2);unfold nStops at ih ⊢;simp only [List.map_cons,List.sum_cons];simp only [List.getElem_cons_zero] at h0;omega
theorem redX_stops (y:Sy) (p:Pc):nStops (redX y p).evs≤nStops p.evs:=nStops_le (redX_len y p) fun j h1 h2=>by have:=redX_lost y p h1 h2;omega
end Go.Ab.V
