/-
  What is proved here serves the law's text: each part says its own claim and its conditions. No condition is left open.
-/
import Derived.Test.YtohegnfjdfcebaaGreatDoorJN
import Derived.Test.YtohegnfjdfcebaaGreatDoorKZ
import Derived.Test.YtohegnfjdfcebaaGreatDoorKY
import Derived.Test.YtohegnfjdfcebaaGreatDoorJD
import Derived.Test.YtohegnfjdfcebaaGreatDoorJC
set_option maxHeartbeats 32000000
set_option maxRecDepth 100000
set_option linter.unusedSimpArgs false
set_option linter.unusedVariables false

namespace Go.Ab.V
open Go.Proofs
theorem losSt_len (y:Sy) (out:List Stp) (e:Int) (s:Stp):(losSt y out e s).length≤3:=by
 unfold losSt
 split
 ·simp
 ·rw [List.length_append,List.length_map];have h1:(hndL y s).length≤2:=by
   unfold hndL;rw [List.length_append]
   split<;>split<;>simp
  split
  ·split<;>simp<;>omega
  ·simp;omega
theorem losEv_len (y:Sy) (ti re:Bool) (out:List Stp) (e:Int) (ev:Evt) (h:ev.stops.length≤14):(losEv y ti re out e ev).length≤42:=by
 unfold losEv
 split
 ·split<;>simp
 ·have:=flat_len (f:=losSt y out e) (n:=3) (losSt_len y out e) ev.stops;unfold losSs;omega
theorem losL_len (y:Sy) (ti re:Bool) (outs:List Evt):∀(l:List Evt) (j:Nat),(∀e∈l,e.stops.length≤14)→(losL y ti re outs j l).length≤42 * l.length
 | [],_,_=>by simp [losL]
 |e::r,j,h=>by
  have h1:=losEv_len y ti re ((outs[j]?.map Evt.stops).getD []) j e (h e (by simp));have h2:=losL_len y ti re outs r (j+1) fun x hx=>h x (by simp [hx]);rw [losL,List.length_append,List.length_cons];omega
theorem pure_oneR {y:Sy} {ti re:Bool} {ev:Evt} {a:AV} (h:a∈oneR y ti re ev):a.pure1=true:=by
 unfold oneR at h
 split at h
 ·simp only [List.mem_cons,List.not_mem_nil,or_false] at h
  rcases h with rfl|rfl|rfl<;>rfl
 ·simp only [List.mem_cons,List.not_mem_nil,or_false] at h
  rcases h with rfl|rfl|rfl<;>rfl
theorem c80 (y:Sy) (ti re:Bool) {i:Ins} {evs outs:List Evt} {N:Nat} (hN:evs.length=N) (hol:outs.length=N) (hn:N≤1000) (hl:∀e∈evs,e.stops.length≤14) (hlo:∀e∈outs,e.stops.length≤1000)
  (hk:∀j (h:j<evs.length) (h2:j<outs.length),KepOk y outs[j].stops evs[j].stops) {id id7:Id} {e9 e7:Nat} {eps:Nat→Nat} {h:Heap} (ho:h[id]? =some (.vec e9 (rowsD memL 0 eps 0 outs))) (hd:h.dy=objsD memL eps 0 outs)
  (h7:h[id7]? =some (.vec e7 (evs.map (oneR y ti re)))) {K:AV→Heap→Prop} (hK:K (lksA (losL y ti re outs 0 evs)) h):
  ACalls C.P 80 [.agg [crsA i.cs,intsA i.steps,.oslc id e9 6 0 N false],.oslc id7 e7 3 0 N false] h K:=by
 have hlen:=losL_len y ti re outs evs 0 hl;subst hN;have hKl:K (.lslc 3 ((losL y ti re outs 0 evs).map lkR) 0 (losL y ti re outs 0 evs).length false) h:=hK;refine ACalls.peekN (losses80 y ti re i evs outs hn hol (fun e he=>by have:=hl e he;omega) hlo hk (by omega)) (fun a b c hcell=>?_) (fun σ σ' vs x hv=>?_) hKl
 ·obtain ⟨r,hr,hj⟩:=cellAt_get hcell;rw [List.getElem?_map,Option.map_eq_some_iff] at hr;obtain ⟨z,_,rfl⟩:=hr
  match b,hj with
  |0,hj=>cases hj;rfl
  |1,hj=>cases hj;rfl
  |2,hj=>cases hj;rfl
 ·obtain ⟨u,w,e,q1,q2⟩:=vrels2 (vs:=vs.toArray) (by simpa using hv);have e:vs=[u,w]:=by simpa using congrArg Array.toList e
  subst e;rw [←hol] at q1;have r1:=pc_frz x (X:=[]) ho (by rw [List.append_nil];exact hd) q1;have r2:VRel σ' (.lslc 3 (evs.map (oneR y ti re)) 0 evs.length false) w:=by
   refine (x.obj id7 e7 _ (evs.map (oneR y ti re)) h7 ⟨Nat.le_refl _,fun i r' hr=>⟨r',hr,rfl,fun j c' hc=>⟨c',hc,fun u hu=>x.pure1 ?_ hu⟩⟩⟩ _ _ _ _ _ q2).mono0 ⟨fun _ _ _ z=>by simp at z,fun _ _ z=>z⟩;obtain ⟨ev,_,rfl⟩:=List.mem_map.1 (List.mem_of_getElem? hr);exact pure_oneR (List.mem_of_getElem? hc)
  refine ⟨rfl,fun k a b ha hb=>?_⟩
  match k,ha,hb with
  |0,ha,hb=>cases ha;cases hb;exact r1
  |1,ha,hb=>cases ha;cases hb;exact r2
def A42b:Ann:=fun r=>match r with
 |30=>{ plan:=some (.one 1 (.one 2 (.br 0 3 (.one 3 (.one 4 (.one 5 (.done)))) (.one 0 (.one 4 (.one 5 (.done))))))) }
 |_=>{}
theorem carD (y:Sy) (ti re:Bool) (i:Ins) (evs outs:List Evt) {N:Nat} (hN:evs.length=N) (hol:outs.length=N) (hn:N≤1000) (hl:∀e∈evs,e.stops.length≤14) (hlo:∀e∈outs,e.stops.length≤1000)
  (hk:∀j (h:j<evs.length) (h2:j<outs.length),KepOk y outs[j].stops evs[j].stops) {r0 p6 e7 e9:Nat} (eps:Nat→Nat) {K:AE→List AV→Heap→Prop}
  (hK:∀fr h,fr.getD 4 .u= .optr (.s 3) r0 3 0 0→fr.getD 5 .u=lksA (losL y ti re outs 0 evs)→h[Id.s 3]? =some (.vec r0 [[crsA i.cs,intsA i.steps,.oslc (.s 9) e9 6 0 N false]])→h[Id.s 9]? =some (.vec e9 (rowsD memL 0 eps 0 outs))→h.dy=objsD memL eps 0 outs→K .ret fr h):
  WK (Cx [] [80]) res42c (frOf 0 131 [(4,.optr (.s 3) r0 3 0 0),(6,.optr (.s 4) p6 3 0 0),(7,.oslc (.s 7) e7 3 0 N false)]) ⟨[.hole,.hole,.hole,.vec r0 [[.nils,.nils,.nils]],.vec p6 [[crsA i.cs,intsA i.steps,.oslc (.s 9) e9 6 0 N false]],.hole,.hole,.vec e7 (evs.map (oneR y ti re)),.hole,.vec e9 (rowsD memL 0 eps 0 outs),.hole],objsD memL eps 0 outs⟩ K:=by
 refine wkA (okx [] [80]) mixed (A:=A42b) ?_
 (repeat' (first|exact hK _ _ rfl rfl rfl rfl rfl|exact rfl|((conv=>whnf);first|(refine c80 y ti re hN hol hn hl hlo hk (by exact rfl) (by exact rfl) (by exact rfl) ?_)|exact rfl|exact ⟨rfl,rfl⟩|refine go1 ?_|(intro ep)|(refine ⟨?_,?_⟩)|fail)))

theorem wk_cx {a b a' b':List Nat} {c:Code} {fr:List AV} {h:Heap} {K:AE→List AV→Heap→Prop} (x:WK (Cx a b) c fr h K):WK (Cx a' b') c fr h K:=⟨x.use⟩
theorem wk_xc {a b:List Nat} {c:Code} {fr:List AV} {h:Heap} {K:AE→List AV→Heap→Prop} (x:WK (Cx a b) c fr h K):WK C c fr h K:=⟨x.use⟩
theorem outS_get (y:Sy) (ti re:Bool):∀(l:List Evt) (b:Bool) (j:Nat) (h:j<l.length) (h2:j<(outS y ti re b l).length),(outS y ti re b l)[j]=oneE y ti re (b&&j==0) l[j]
 |e::r,b,0,h,h2=>by simp [outS]
 |e::r,b,j+1,h,h2=>by
  have:=outS_get y ti re r false j (by simpa using h) (by simpa [outS] using h2);simp only [outS,List.getElem_cons_succ];rw [this];simp
theorem oneE_stops (y:Sy) (ti re b:Bool) (e:Evt):(oneE y ti re b e).stops=kepS y e.stops:=by
 unfold oneE
 split
 ·rename_i h;dsimp only;rw [h];rfl
 ·rfl
theorem cap0_crs (evs:List Evt) (i k:Nat) (s:Stp):crsE (cap0 evs i k s)=crsE evs:=by
 unfold cap0;split
 ·exact setH_crs _ _ _ _
 ·rfl
theorem capW_crs (evs:List Evt) (i k:Nat):crsE (capW evs i k)=crsE evs:=by
 unfold capW;split
 ·rfl
 ·rw [setH_crs,cap0_crs]
theorem capN_crs:∀(n:Nat) (evs:List Evt) (i k:Nat),crsE (capN n evs i k)=crsE evs
 |0,_,_,_=>rfl
 |n+1,evs,i,k=>by rw [capN,capN_crs n,capW_crs]
theorem capL_crs:∀(n:Nat) (evs:List Evt) (i:Nat),crsE (capL n evs i)=crsE evs
 |0,_,_=>rfl
 |n+1,evs,i=>by rw [capL,capL_crs n,capN_crs]
def carE (y:Sy) (ti re:Bool) (q:Pc):List Evt:=chkdS y ⟨q.ins,capL q.evs.length (outS y ti re true q.evs) 0⟩
theorem chkdS_crs (y:Sy) (p:Pc):crsE (chkdS y p)=crsE p.evs:=by
 unfold chkdS;split
 ·exact unhS_crs _ _
 ·rfl
theorem carE_crs (y:Sy) (ti re:Bool) (q:Pc):crsE (carE y ti re q)=crsE (outS y ti re true q.evs):=by
 unfold carE;rw [chkdS_crs];exact capL_crs _ _ _
theorem crsE_len {l m:List Evt} (h:crsE l=crsE m):l.length=m.length:=by
 have:=congrArg List.length h;simpa [crsE] using this
theorem carE_len (y:Sy) (ti re:Bool) (q:Pc):(carE y ti re q).length=q.evs.length:=by
 rw [crsE_len (carE_crs y ti re q),outS_len]
theorem crsE_get {l m:List Evt} (h:crsE l=crsE m) {j:Nat} (h1:j<l.length) (h2:j<m.length):l[j].stops.map Stp.c=m[j].stops.map Stp.c:=by
 have:=congrArg (fun l=>l[j]?) h;simp only [crsE,List.getElem?_map,List.getElem?_eq_getElem h1,List.getElem?_eq_getElem h2,Option.map_some,Option.some.injEq] at this;exact this
theorem carE_cs (y:Sy) (ti re:Bool) (q:Pc) {j:Nat} (h1:j<(carE y ti re q).length) (h2:j<q.evs.length):(carE y ti re q)[j].stops.map Stp.c=(kepS y q.evs[j].stops).map Stp.c:=by
 have h3:j<(outS y ti re true q.evs).length:=by rw [outS_len];exact h2
 rw [crsE_get (carE_crs y ti re q) h1 h3,outS_get y ti re q.evs true j h2 h3,oneE_stops]
theorem carE_kep (y:Sy) (ti re:Bool) (q:Pc) (j:Nat) (h:j<q.evs.length) (h2:j<(carE y ti re q).length):KepOk y (carE y ti re q)[j].stops q.evs[j].stops:=by
 intro s hs hl;have hc:s.c∈(carE y ti re q)[j].stops.map Stp.c:=by
  rw [carE_cs y ti re q h2 h,kepS,List.map_map];exact List.mem_map.2 ⟨s,List.mem_filter.2 ⟨hs,by rw [hl];rfl⟩,rfl⟩
 obtain ⟨k,st,h1,h2,_⟩:=idxC_some (k:=0) hc;rw [Nat.zero_add] at h1;exact ⟨k,st,h1,h2⟩
theorem shp_mem {l:List Evt} {m:Nat} (h:∀e∈l,e.stops.length≤m):∀x∈shpE l,x≤m:=fun x hx=>by
 obtain ⟨e,he,rfl⟩:=List.mem_map.1 hx;exact h e he
theorem shp_of {l l':List Evt} (h:crsE l=crsE l'):shpE l=shpE l':=by
 have:=congrArg (fun x=>x.map List.length) h;simpa [crsE,shpE,Function.comp_def] using this
theorem outS_sl {y:Sy} {ti re:Bool} {m:Nat}:∀{l:List Evt} {b:Bool},(∀e∈l,e.stops.length≤m)→∀e∈outS y ti re b l,e.stops.length≤m
 | [],_,_,e,h=>by simp [outS] at h
 |x::r,b,h,e,he=>by
  rw [outS,List.mem_cons] at he
  rcases he with rfl|he
  ·rw [oneE_stops];have h1:=kep_len y x.stops;have h2:=h x (by simp);omega
  ·exact outS_sl (fun e he=>h e (by simp [he])) e he
theorem res42_ok {r0 e9 N:Nat} {i:Ins} {L:AV} {fr:List AV} {h:Heap} {K:AV→Heap→Prop} (h4:fr.getD 4 .u= .optr (.s 3) r0 3 0 0) (h5:fr.getD 5 .u=L) (h3:h[Id.s 3]? =some (.vec r0 [[crsA i.cs,intsA i.steps,.oslc (.s 9) e9 6 0 N false]]))
  (hk:K (.tup [.agg [crsA i.cs,intsA i.steps,.oslc (.s 9) e9 6 0 N false],L]) h):resR C.ti Tryz.f42.results.toList fr h fun vs=>retV vs fun v=>K v h:=by
 rw [resR_eq];show readK C.ti (evl fr) h (.load 30 (.tmp 4)) fun v0=>K (.tup [v0,fr.getD 5 .u]) h;unfold readK;simp only [evl,h4,h3,h5];exact ⟨trivial,hk⟩
theorem carry42 (y:Sy) (ti re:Bool) (q:Pc) (hc:chk q=0) {K:AV→Heap→Prop}
  (hK:∀e9 eps h,h[Id.s 9]? =some (.vec e9 (rowsD memL 0 eps 0 (carE y ti re q)))→h.dy=objsD memL eps 0 (carE y ti re q)→
   K (.tup [.agg [crsA q.ins.cs,intsA q.ins.steps,.oslc (.s 9) e9 6 0 q.evs.length false],lksA (losL y ti re (carE y ti re q) 0 q.evs)]) h):
  ACalls C.P 42 [.agg (chgC y ti re q.ins),pcA q] Heap.nil K:=by
 have v:=vp hc;have hvl:=v.len;have hci:=v.cs;have hst:=v.steps;have hsl:∀e∈q.evs,e.stops.length≤14:=fun e he=>by
  obtain ⟨j,hj,rfl⟩:=List.mem_iff_getElem.1 he;exact v.sl j hj
 have hso:∀e∈outS y ti re true q.evs,e.stops.length≤14:=outS_sl hsl;have s1:shpE (capL q.evs.length (outS y ti re true q.evs) 0)=shpE (outS y ti re true q.evs):=capL_shp _ _ _;have s2:shpE (carE y ti re q)=shpE (outS y ti re true q.evs):=shp_of (carE_crs y ti re q);have hsc:∀e∈carE y ti re q,e.stops.length≤14:=fun e he=>by
  have:e.stops.length∈shpE (carE y ti re q):=List.mem_map.2 ⟨e,he,rfl⟩;rw [s2] at this;exact shp_mem hso _ this
 have hpc:(⟨q.ins,capL q.evs.length (outS y ti re true q.evs) 0⟩:Pc).Ok:=⟨by dsimp only;omega,by dsimp only;omega,by dsimp only;rw [shp_len s1,outS_len];omega,fun e he=>by
  have:e.stops.length∈shpE (capL q.evs.length (outS y ti re true q.evs) 0):=List.mem_map.2 ⟨e,he,rfl⟩;rw [s1] at this;have:=shp_mem hso _ this;omega⟩
 refine ofP (fnPW_of ok 11 Tryz.func42 rfl ?_);refine wk_seq (wkA ok mixed (A:=A42) ?_)
 (repeat' (first|exact rfl|((conv=>whnf);first|exact rfl|exact ⟨rfl,rfl⟩|refine go1 ?_|(intro ep)|fail)))
 (conv=>whnf);rename_i e1 e2;obtain ⟨e3,he⟩:∃e,e=ep:=⟨_,rfl⟩;subst he;refine wk_seq (wkA ok mixed (A:=A42) ?_)
 (repeat' (first|exact rfl|((conv=>whnf);first|exact rfl|exact ⟨rfl,rfl⟩|refine go1 ?_|(intro ep)|fail)))
 (conv=>whnf);obtain ⟨e4,he⟩:∃e,e=ep:=⟨_,rfl⟩;subst he;refine wk_seq (wkA ok mixed (A:=A42) ?_)
 (repeat' (first|exact rfl|((conv=>whnf);first|exact rfl|exact ⟨rfl,rfl⟩|refine go1 ?_|(intro ep)|fail)))
 (conv=>whnf);refine wk_mask [2,3,4,6,7] [1,2,3,4] (fr':=frOf 0 131 [(2,.optr (.s 1) e1 7 0 0),(3,.optr (.s 2) e2 3 0 0),(4,.optr (.s 3) e3 3 0 0),(6,.optr (.s 4) e4 3 0 0),(7,.nils)])
  (h':=⟨[.hole,.vec e1 [chgC y ti re q.ins],.vec e2 [[crsA q.ins.cs,intsA q.ins.steps,evsA q.evs]],.vec e3 [[.nils,.nils,.nils]],.vec e4 [[crsA q.ins.cs,intsA q.ins.steps,.nils]],.hole,.hole,.hole,.hole,.hole,.hole],[]⟩) rfl rfl ?_
 refine carA y ti re q hc fun e7 e9 eps=>?_;refine wk_xc (carB q.ins (outS y ti re true q.evs) (chgC y ti re q.ins) _ (outS_len _ _ _ _ _) (by omega) (by omega) (by omega) (fun m hm=>by have:=shp_mem hso m hm;omega) eps ?_);refine wk_cx (carC y ti re q.ins q.ins (capL q.evs.length (outS y ti re true q.evs) 0) _ (by rw [shp_len s1,outS_len]) (by omega) hpc (fun m hm=>by rw [s1] at hm;have:=shp_mem hso m hm;omega) eps ?_);refine wk_cx (carD y ti re q.ins q.evs (carE y ti re q) rfl (carE_len _ _ _ _) (by omega) hsl (fun e he=>by have:=hsc e he;omega) (carE_kep y ti re q) eps ?_);intro fr h h4 h5 h3 h9 hd;exact res42_ok h4 h5 h3 (hK e9 eps h h9 hd)
theorem carry_spec (y:Sy) (ti re:Bool) (q:Pc) (hc:chk q=0):PRet C.P 42 [.agg (chgC y ti re q.ins),pcA q] (.tup [pcA ⟨q.ins,carE y ti re q⟩,lksA (losL y ti re (carE y ti re q) 0 q.evs)]):=by
 refine PRet.of_freeze rfl (fun h=>rfl) (carry42 y ti re q hc fun e9 eps h h9 hd=>?_);intro σ σ' x fz hv;rw [←carE_len y ti re q] at hv;cases hv with
 | @tup _ _ vs l hh2=>
  refine .tup l fun k c v hc hv=>?_
  match k,hc,hv with
  |0,hc,hv=>cases hc;exact pc_frz fz (X:=[]) h9 (by rw [List.append_nil];exact hd) (hh2 0 _ v rfl hv)
  |1,hc,hv=>cases hc;exact up0 fz rfl (hh2 1 _ v rfl hv)

def sgE (a b:Sgn):Bool:=sgB a.v a.d a.t b.v b.d b.t
theorem sgE_iff {a b:Sgn}:sgE a b=true↔a=b:=by
 cases a;cases b;unfold sgE;rw [sgB_iff];simp
theorem right_rng {v:Int} {d t:Bool} (h:right v d t=true):0≤v∧v≤7∧(v=0→d=false∧t=false):=by
 unfold right at h;by_cases h0:v=0
 ·subst h0;rw [if_pos rfl] at h;simp at h;exact ⟨by omega,by omega,fun _=>h⟩
 ·rw [if_neg h0] at h;simp only [Bool.and_eq_true,decide_eq_true_eq] at h;exact ⟨by omega,by omega,fun e=>absurd e h0⟩
def body (e:Evt):Bool×List Stp:=(e.tie,e.stops)
theorem longL_body (c:Int):∀(n:Nat) (l m:List Evt),l.map body=m.map body→longL c n l=longL c n m
 |0,_,_,_=>by simp [longL]
 |n+1,[],[],_=>rfl
 |n+1,[],_::_,h=>by simp at h
 |n+1,_::_,[],h=>by simp at h
 |n+1,a::l,b::m,h=>by
  simp only [List.map_cons,List.cons.injEq,body,Prod.mk.injEq] at h;obtain ⟨⟨h1,h2⟩,h3⟩:=h;have ih:=longL_body c n l m h3;have hr:restE a=restE b:=by unfold restE;rw [h1,h2]
  simp only [longL,hr,h2,ih]
theorem longest_body {l m:List Evt} (h:l.map body=m.map body) (k c:Int):longest l k c=longest m k c:=by
 have hl:l.length=m.length:=by have:=congrArg List.length h;simpa using this
 unfold longest;rw [hl,longL_body c 15 (l.drop (k+1).toNat) (m.drop (k+1).toNat) (by rw [List.map_drop,List.map_drop,h])]
theorem chkStops_body {p q:Pc} (hi:p.ins=q.ins) (h:p.evs.map body=q.evs.map body) (k:Nat):∀(l:List Stp) (last:Int),chkStops p k last l=chkStops q k last l
 | [],_=>rfl
 |s::r,last=>by
  simp only [chkStops,hi,longest_body h,chkStops_body hi h k r]
theorem chkEvs_body {p q:Pc} (hi:p.ins=q.ins) (h:p.evs.map body=q.evs.map body):∀(l m:List Evt) (k:Nat),l.map body=m.map body→(∀e∈m,right e.v e.d e.t=true)→(k=0→∀e∈m.head?,e.v≠0)→chkEvs p k l=0→chkEvs q k m=0
 | [],[],_,_,_,_,_=>rfl
 | [],_::_,_,h,_,_,_=>by simp at h
 |_::_,[],_,h,_,_,_=>by simp at h
 |a::l,b::m,k,hm,hr,h0,hc=>by
  simp only [List.map_cons,List.cons.injEq,body,Prod.mk.injEq] at hm;obtain ⟨⟨h1,h2⟩,h3⟩:=hm;unfold chkEvs at hc ⊢
  split at hc
  ·rename_i ha;have hb:chkEv q k b=0:=by
    unfold chkEv at ha ⊢
    split at ha
    ·cases ha
    ·rw [if_neg]
     ·split at ha
      ·cases ha
      ·rename_i ht;rw [h1,h2] at ht;rw [if_neg ht,←chkStops_body hi h,←h2];exact ha
     ·rintro (h5|⟨h5,h6⟩)
      ·rw [hr b (List.mem_cons_self ..)] at h5;cases h5
      ·exact h0 h5 b (by simp) h6
   rw [if_pos hb];exact chkEvs_body hi h l m (k+1) h3 (fun e he=>hr e (List.mem_cons_of_mem _ he)) (fun h=>by omega) hc
  ·rename_i ha;exact absurd hc ha
theorem chk_body {p q:Pc} (hi:p.ins=q.ins) (h:p.evs.map body=q.evs.map body) (hr:∀e∈q.evs,right e.v e.d e.t=true) (h0:∀e∈q.evs.head?,e.v≠0) (hc:chk p=0):chk q=0:=by
 have hl:p.evs.length=q.evs.length:=by have:=congrArg List.length h;simpa using this
 unfold chk at hc ⊢;rw [←hi,←hl]
 split at hc
 ·rename_i e;rw [if_pos e]
  split at hc
  ·cases hc
  ·rename_i e2;rw [if_neg e2];exact chkEvs_body hi h p.evs q.evs 0 h hr (fun _=>h0) hc
 ·rename_i e;exact absurd hc e
theorem chk_first {p:Pc} (hc:chk p=0):∀e∈p.evs.head?,e.v≠0:=by
 unfold chk at hc
 split at hc
 ·split at hc
  ·cases hc
  ·intro e he hv;cases hp:p.evs with
   |nil=>rw [hp] at he;cases he
   |cons a r=>
    rw [hp] at he hc;simp at he;subst he;unfold chkEvs at hc
    split at hc
    ·rename_i h0;unfold chkEv at h0;rw [if_pos (.inr ⟨rfl,hv⟩)] at h0;cases h0
    ·rename_i h0;exact h0 hc
 ·rename_i e;exact absurd hc e
abbrev sz:Sgn:=⟨0,false,false⟩
def Evt.sg (e:Evt):Sgn:=⟨e.v,e.d,e.t⟩
def nx (s:Sgn) (e:Evt):Sgn:=if sgE e.sg sz=true then s else e.sg
def nfs (s:Sgn):List Evt→List Sgn
 | []=>[]
 |e::r=>nx s e::nfs (nx s e) r
theorem nfs_len:∀(l:List Evt) (s:Sgn),(nfs s l).length=l.length
 | [],_=>rfl
 |e::r,s=>by simp [nfs,nfs_len r]
theorem sg_with (e:Evt) (s:Sgn):(withS e s).sg=s:=rfl
theorem plnS_eq (s:Sgn) (e:Evt):plnS s e=(nx s e,withS e (nx s e)):=by
 unfold plnS nx;show (if sgE e.sg sz=true then _ else _)=_;by_cases h:sgE e.sg sz=true
 ·rw [if_pos h,if_pos h]
 ·rw [if_neg h,if_neg h];rfl
theorem outE_pln:∀(l:List Evt) (s:Sgn),outE plnS s l=List.zipWith withS l (nfs s l)
 | [],_=>rfl
 |e::r,s=>by simp only [outE,nfs,List.zipWith_cons_cons,plnS_eq,outE_pln r]
theorem nx_sz {s:Sgn} {e:Evt} (h:nx s e=sz):s=sz:=by
 unfold nx at h
 split at h
 ·exact h
 ·rename_i h1;exact absurd (sgE_iff.2 h) h1
theorem nx_pln (s:Sgn) (e:Evt):nx s (withS e (nx s e))=nx s e:=by
 obtain ⟨n,hn⟩:∃n,n=nx s e:=⟨_,rfl⟩;rw [←hn];unfold nx;rw [sg_with]
 split
 ·rename_i h;have:=sgE_iff.1 h;rw [this] at hn;rw [this,nx_sz hn.symm]
 ·rfl
theorem nfs_pln:∀(l:List Evt) (s:Sgn),nfs s (List.zipWith withS l (nfs s l))=nfs s l
 | [],_=>rfl
 |e::r,s=>by simp only [nfs,List.zipWith_cons_cons,nx_pln,nfs_pln r]
theorem right_z:right 0 false false=true:=rfl
theorem nx_next {s:Sgn} {e:Evt} (h:right e.v e.d e.t=true):nx s e=nextS s e:=by
 unfold nx nextS;by_cases hz:e.v=0
 ·rw [if_pos hz];have:=(right_rng h).2.2 hz;rw [if_pos (sgE_iff.2 (by unfold Evt.sg;rw [hz,this.1,this.2]))]
 ·rw [if_neg hz,if_neg (fun h=>hz (congrArg Sgn.v (sgE_iff.1 h)))];rfl
theorem nfs_fcs:∀(l:List Evt) (s:Sgn),(∀e∈l,right e.v e.d e.t=true)→nfs s l=fcs s l
 | [],_,_=>rfl
 |e::r,s,h=>by
  simp only [nfs,fcs,nx_next (h e (List.mem_cons_self ..))];rw [nfs_fcs r _ fun x hx=>h x (List.mem_cons_of_mem _ hx)]
theorem nx_right {s:Sgn} {e:Evt} (hs:right s.v s.d s.t=true) (h:right e.v e.d e.t=true):right (nx s e).v (nx s e).d (nx s e).t=true:=by
 unfold nx;split
 ·exact hs
 ·exact h
theorem nfs_right:∀(l:List Evt) (s:Sgn),right s.v s.d s.t=true→(∀e∈l,right e.v e.d e.t=true)→∀n∈nfs s l,right n.v n.d n.t=true
 | [],_,_,_,_,h=>by cases h
 |e::r,s,hs,h,n,hn=>by
  have h1:=nx_right hs (h e (List.mem_cons_self ..))
  rcases List.mem_cons.1 hn with rfl|hn
  ·exact h1
  ·exact nfs_right r _ h1 (fun x hx=>h x (List.mem_cons_of_mem _ hx)) n hn
theorem zip_right:∀(l:List Evt) (ss:List Sgn),(∀n∈ss,right n.v n.d n.t=true)→∀e∈List.zipWith withS l ss,right e.v e.d e.t=true
 | [],_,_,_,h=>by simp at h
 |e::r,[],_,_,h=>by simp at h
 |e::r,s::ss,hs,x,h=>by
  rw [List.zipWith_cons_cons] at h
  rcases List.mem_cons.1 h with rfl|h
  ·exact hs s (List.mem_cons_self ..)
  ·exact zip_right r ss (fun n hn=>hs n (List.mem_cons_of_mem _ hn)) x h
theorem zip_body:∀(l:List Evt) (ss:List Sgn),ss.length=l.length→(List.zipWith withS l ss).map body=l.map body
 | [],_,_=>by simp
 |e::r,[],h=>by simp at h
 |e::r,s::ss,h=>by rw [List.zipWith_cons_cons,List.map_cons,List.map_cons,zip_body r ss (by simpa using h)];rfl
theorem pln_right {p:Pc} (hc:chk p=0):∀e∈outE plnS sz p.evs,right e.v e.d e.t=true:=by
 rw [outE_pln];exact zip_right _ _ (nfs_right p.evs sz right_z (chk_right hc))
theorem pln_body (l:List Evt):(outE plnS sz l).map body=l.map body:=by rw [outE_pln];exact zip_body _ _ (nfs_len _ _)
theorem first_pln {p:Pc} (hc:chk p=0):∀e∈(outE plnS sz p.evs).head?,e.v≠0:=by
 intro e he;cases hp:p.evs with
 |nil=>rw [hp] at he;cases he
 |cons a r=>
  have h0:=chk_first hc a (by rw [hp];rfl);rw [hp] at he;simp only [outE,List.head?_cons,Option.mem_def,Option.some.injEq,plnS_eq] at he;subst he;unfold nx;rw [if_neg (fun h=>h0 (congrArg Sgn.v (sgE_iff.1 h)))];exact h0
theorem pln_chk {p:Pc} (hc:chk p=0):chk ⟨p.ins,outE plnS sz p.evs⟩=0:=chk_body (p:=p) rfl (pln_body p.evs).symm (pln_right hc) (first_pln hc) hc
theorem pln_times {p:Pc} (hc:chk p=0):times ⟨p.ins,outE plnS sz p.evs⟩=times p:=by
 have h1:=nfs_fcs (outE plnS sz p.evs) sz (pln_right hc);have h2:=nfs_fcs p.evs sz (chk_right hc);show 0::tmsT 0 (fcs sz (outE plnS sz p.evs))=0::tmsT 0 (fcs sz p.evs);rw [←h1,←h2,outE_pln,nfs_pln]

def redQ (y:Sy) (p:Pc):Pc:=if y= .ge then ⟨p.ins,outE plnS sz p.evs⟩ else p
def tiB (y:Sy):Bool:=saysS y true 7
def reB (y:Sy):Bool:=saysS y false 8
def redX (y:Sy) (p:Pc):Pc:=⟨(redQ y p).ins,carE y (tiB y) (reB y) (redQ y p)⟩
def redL (y:Sy) (p:Pc):List Lck:=losL y (tiB y) (reB y) (carE y (tiB y) (reB y) (redQ y p)) 0 (redQ y p).evs
def redN (y:Sy) (p:Pc):Bool:=!(reB y)&&decide (0<(redX y p).evs.length)&&decide (((redX y p).evs.getD 0 ⟨false,0,false,false,false,[]⟩).stops.length=0)
def errA3 (e:Int):AV:=.tup [zeroA,.nils,.int .i64 e]
def redR (y:Sy) (p:Pc):AV:=if redN y p=true then errA3 31 else .tup [pcA (redX y p),lksA (redL y p),.int .i64 0]
def A17:Ann:=fun r=>match r with
 |0=>{ slots:=[(0,0),(1,1),(2,2)] }
 |10=>{ slots:=[(5,3)] }
 |13=>{ slots:=[(1,4)] }
 |14=>{ slots:=[(4,5)] }
 |15=>{ slots:=[(4,6)] }
 |16=>{ slots:=[(3,7)] }
 |22=>{ slots:=[(6,8)] }
 |_=>{}
theorem syOf_n (y:Sy):syOf y.n=some y:=by cases y<;>rfl
theorem sys16 (y:Sy):PRet C.P 16 [.int .u8 y.n] (nsA (nmS y) 0):=by
 have h16:=sysName_spec y.n;unfold sysName at h16;rw [syOf_n] at h16;exact h16
theorem red17b (y:Sy) (p:Pc) (hp:p.Ok) (h:¬chk p=0):PRet C.P 17 [.int .u8 y.n,pcA p] (errA3 (chk p)):=by
 have h16:=sys16 y;have h30:=check_spec p hp;refine pret_of ok mixed (A:=A17) 9 Tryz.func17 rfl ?_
 (repeat' (first|exact rfl|((conv=>whnf);first|(refine ⟨_,h16,?_⟩)|(refine ⟨_,h30,?_⟩)|(exact absurd hb h)|exact rfl|exact ⟨rfl,rfl⟩|refine go1 ?_|(intro ep)|(refine ifB ?_ ?_<;>intro hb<;>(try simp only [qs] at hb)<;>(try simp (disch:=omega) only [wrapI] at hb)<;>(try (exfalso;omega)))|fail)))
theorem red17c (y:Sy) (p:Pc) (hp:p.Ok) (h:chk p=0) (h5:hasL (lacksP y p) 5=true):PRet C.P 17 [.int .u8 y.n,pcA p] (errA3 31):=by
 have h16:=sys16 y;have h30:=check_spec p hp;rw [h] at h30;have h31:=Lacks_spec y p hp;unfold lksE at h31;rw [if_neg (fun x=>x h)] at h31;have v:=vp h;have hev:=v.len;have hll:(lacksP y p).length≤45 * p.evs.length:=lackAll_len y p.evs p.evs 0 (fun e he=>by
  obtain ⟨j,hj,rfl⟩:=List.mem_iff_getElem.1 he;exact v.sl j hj)
 have h32:=has32_spec (lacksP y p) 5 (by omega);rw [h5] at h32;refine pret_of ok mixed (A:=A17) 9 Tryz.func17 rfl ?_
 (repeat' (first|exact rfl|((conv=>whnf);first|(refine ⟨_,h16,?_⟩)|(refine ⟨_,h30,?_⟩)|(refine ⟨_,h31,?_⟩)|(refine ⟨_,h32,?_⟩)|exact rfl|exact ⟨rfl,rfl⟩|refine go1 ?_|(intro ep)|(refine ifB ?_ ?_<;>intro hb<;>(try simp only [qs] at hb)<;>(try simp (disch:=omega) only [wrapI] at hb)<;>(try (exfalso;omega)))|fail)))

theorem redQ_chk {y:Sy} {p:Pc} (h:chk p=0):chk (redQ y p)=0:=by
 unfold redQ;split
 ·exact pln_chk h
 ·exact h
theorem redQ_ins (y:Sy) (p:Pc):(redQ y p).ins=p.ins:=by unfold redQ;split<;>rfl
theorem pc_ok {p:Pc} (h:chk p=0):p.Ok∧p.Sm:=by
 have v:=vp h;have h1:=v.len;have h2:=v.cs;have h3:=v.steps;have h4:∀e∈p.evs,e.stops.length≤14:=fun e he=>by
  obtain ⟨j,hj,rfl⟩:=List.mem_iff_getElem.1 he;exact v.sl j hj
 exact ⟨⟨by omega,by omega,by omega,fun e he=>by have:=h4 e he;omega⟩,⟨by omega,by omega,by omega,fun e he=>by have:=h4 e he;omega⟩⟩
theorem app_nil {p:Pc} (h:chk p=0):PRet C.P 34 [pcA p,.agg [crsA p.ins.cs,intsA p.ins.steps,.nils]] (.tup [pcA p,.int .i64 0]):=by
 obtain ⟨h1,h2⟩:=pc_ok h;have hc0:chk ⟨p.ins,[]⟩=0:=by
  have:=(chk_iff.1 h).1;unfold chk;rw [if_pos this];rfl
 have h3:=append_spec p ⟨p.ins,[]⟩ h1 ⟨h1.cs,h1.st,by simp,by simp⟩ h2 ⟨h2.cs,h2.st,by simp,by simp⟩;unfold appP at h3;rw [if_neg (fun x=>x h),if_neg (fun x=>x hc0),if_neg (fun x=>x rfl),if_neg (by have:=(vp h).len;simp;omega),List.append_nil] at h3;exact PRet.args (.cons (Sub.refl _) (.cons (Sub.agg (.cons (Sub.refl _) (.cons (Sub.refl _) (.cons Sub.nils .nil)))) .nil)) h3
theorem says_len (y:Sy) (tie:Bool):(lacksP y (pc0 tie)).length≤9223372036854775807:=by
 have:(lacksP y (pc0 tie)).length≤45 * 2:=lackAll_len y _ _ 0 (fun e he=>by
  simp only [pc0,List.mem_cons,List.not_mem_nil,or_false] at he
  rcases he with rfl|rfl<;>simp [ev0,ev1])
 omega
theorem red17d (y:Sy) (p:Pc) (h:chk p=0) (h5:hasL (lacksP y p) 5=false) {K:AV→Heap→Prop} (hK:∀h,K (redR y p) h):ACalls C.P 17 [.int .u8 y.n,pcA p] Heap.nil K:=by
 obtain ⟨hp,hsm⟩:=pc_ok h;have h16:=sys16 y;have h30:=check_spec p hp;rw [h] at h30;have h31:=Lacks_spec y p hp;unfold lksE at h31;rw [if_neg (fun x=>x h)] at h31;have v:=vp h;have hev:=v.len;have hll:(lacksP y p).length≤45 * p.evs.length:=lackAll_len y p.evs p.evs 0 (fun e he=>by
  obtain ⟨j,hj,rfl⟩:=List.mem_iff_getElem.1 he;exact v.sl j hj)
 have h32:=has32_spec (lacksP y p) 5 (by omega);rw [h5] at h32;have h33:=plain_spec p hp hsm;unfold plnP at h33;rw [if_neg (fun x=>x h)] at h33;have h34:=app_nil h;have h35:=says_spec y true 7 (says_len y true);have h36:=says_spec y false 8 (says_len y false);have hq:=redQ_chk (y:=y) h;have h42:=carry_spec y (tiB y) (reB y) (redQ y p) hq;have hqi:=redQ_ins y p;refine ofP (fnPW_of ok 9 Tryz.func17 rfl ?_);refine wk_seq (wkA ok mixed (A:=A17) ?_)
 (repeat' (first|exact rfl|((conv=>whnf);first|exact rfl|exact ⟨rfl,rfl⟩|refine go1 ?_|(intro ep)|fail)));(conv=>whnf)
 rename_i e0 e1;obtain ⟨e2,he⟩:∃e,e=ep:=⟨_,rfl⟩;subst he;refine wk_seq (wkA ok mixed (A:=A17) ?_)
 (repeat' (first|exact rfl|((conv=>whnf);first|(refine ⟨_,h16,?_⟩)|exact rfl|exact ⟨rfl,rfl⟩|refine go1 ?_|(intro ep)|fail)))
 (conv=>whnf);refine wk_seq (wkA ok mixed (A:=A17) ?_)
 (repeat' (first|exact rfl|((conv=>whnf);first|(refine ⟨_,h30,?_⟩)|exact rfl|exact ⟨rfl,rfl⟩|refine go1 ?_|(intro ep)|fail)))
 (conv=>whnf);refine wk_seq (wkA ok mixed (A:=A17) ?_)
 (repeat' (first|exact rfl|((conv=>whnf);first|(refine ⟨_,h31,?_⟩)|exact rfl|exact ⟨rfl,rfl⟩|refine go1 ?_|(intro ep)|fail)))
 (conv=>whnf);refine wk_seq (wkA ok mixed (A:=A17) ?_)
 (repeat' (first|exact rfl|((conv=>whnf);first|(refine ⟨_,h32,?_⟩)|exact rfl|exact ⟨rfl,rfl⟩|refine go1 ?_|(intro ep)|fail)))
 (conv=>whnf);refine wk_seq (wkA ok mixed (A:=A17) ?_)
 (repeat' (first|exact rfl|((conv=>whnf);first|(refine ⟨_,h33,?_⟩)|exact rfl|exact ⟨rfl,rfl⟩|refine go1 ?_|(intro ep)|fail)))
 (conv=>whnf);obtain ⟨e3,he⟩:∃e,e=ep:=⟨_,rfl⟩;subst he;obtain ⟨Q,hQ⟩:∃Q,Q=redQ y p:=⟨_,rfl⟩;unfold redR redN redX redL at hK;rw [←hQ] at h42 hqi hK;obtain ⟨qi,E⟩:=Q;dsimp only at hqi hK;subst hqi;refine wk_cut [2,4,12] [0,2,3] (S:=Unit) (fun _=>frOf 0 108 [(2,.optr (.s 0) e0 1 0 0),(4,.optr (.s 2) e2 3 0 0),(12,.optr (.s 3) e3 3 0 0)])
  (fun _=>⟨[.vec e0 [[.int .u8 y.n]],.hole,.vec e2 [[.nils,.nils,.nils]],.vec e3 [[crsA p.ins.cs,intsA p.ins.steps,evsA E]],.hole,.hole,.hole,.hole,.hole],[]⟩) (wkA ok mixed (A:=A17) ?_) fun _=>?_
 ·unfold redQ at hQ;by_cases hy:y= .ge
  ·rw [if_pos hy] at hQ;cases hQ;subst hy
   (repeat' (first|exact back_of () ⟨rfl,rfl⟩|exact rfl|((conv=>whnf);first|exact rfl|exact ⟨rfl,rfl⟩|refine go1 ?_|(intro ep)|(refine ifB ?_ ?_<;>intro hb<;>(try simp only [qs] at hb)<;>(try simp (disch:=omega) only [wrapI] at hb)<;>(try (exfalso;omega)))|fail)))
  ·rw [if_neg hy] at hQ;have hE:E=p.evs:=congrArg Pc.evs hQ;subst hE;have hy4:y.n≠4:=by cases y<;>first|decide|exact absurd rfl hy
   (repeat' (first|exact back_of () ⟨rfl,rfl⟩|exact rfl|((conv=>whnf);first|(refine ⟨_,h34,?_⟩)|(exact absurd hb hy4)|exact rfl|exact ⟨rfl,rfl⟩|refine go1 ?_|(intro ep)|(refine ifB ?_ ?_<;>intro hb<;>(try simp only [qs] at hb)<;>(try simp (disch:=omega) only [wrapI] at hb)<;>(try (exfalso;omega)))|fail)))
 refine wk_seq (wkA ok mixed (A:=A17) ?_)
 (repeat' (first|exact rfl|((conv=>whnf);first|exact rfl|exact ⟨rfl,rfl⟩|refine go1 ?_|(intro ep)|fail)));(conv=>whnf)
 refine wk_seq (wkA ok mixed (A:=A17) ?_)
 (repeat' (first|exact rfl|((conv=>whnf);first|(refine ⟨_,h35,?_⟩)|exact rfl|exact ⟨rfl,rfl⟩|refine go1 ?_|(intro ep)|fail)))
 (conv=>whnf);obtain ⟨e5,he⟩:∃e,e=ep:=⟨_,rfl⟩;subst he;refine wk_seq (wkA ok mixed (A:=A17) ?_)
 (repeat' (first|exact rfl|((conv=>whnf);first|(refine ⟨_,h36,?_⟩)|exact rfl|exact ⟨rfl,rfl⟩|refine go1 ?_|(intro ep)|fail)))
 (conv=>whnf);obtain ⟨e6,he⟩:∃e,e=ep:=⟨_,rfl⟩;subst he;refine wk_seq (wkA ok mixed (A:=A17) ?_)
 (repeat' (first|exact rfl|((conv=>whnf);first|exact rfl|exact ⟨rfl,rfl⟩|refine go1 ?_|(intro ep)|fail)));(conv=>whnf)
 obtain ⟨e7,he⟩:∃e,e=ep:=⟨_,rfl⟩;subst he;change ∀h,K (if (!(reB y)&&_&&_)=true then _ else _) h at hK;obtain ⟨ti,hti⟩:∃b,b=tiB y:=⟨_,rfl⟩;obtain ⟨re,hre⟩:∃b,b=reB y:=⟨_,rfl⟩;rw [←hti,←hre] at h42 hK;refine wk_mask [2,4,12,15,16,17] [0,2,3,5,6,7] (fr':=frOf 0 108 [(2,.optr (.s 0) e0 1 0 0),(4,.optr (.s 2) e2 3 0 0),(12,.optr (.s 3) e3 3 0 0),(15,.optr (.s 5) e5 1 0 0),(16,.optr (.s 6) e6 1 0 0),(17,.optr (.s 7) e7 7 0 0)])
  (h':=⟨[.vec e0 [[.int .u8 y.n]],.hole,.vec e2 [[.nils,.nils,.nils]],.vec e3 [[crsA p.ins.cs,intsA p.ins.steps,evsA E]],.hole,.vec e5 [[.bool ti]],.vec e6 [[.bool re]],.vec e7 [[crsA p.ins.cs,intsA p.ins.steps,.bool false,.nilf,.nilf,.nilf,.nilf]],.hole],[]⟩) (by subst hti hre;rfl) (by subst hti hre;rfl) ?_
 refine wk_tr (tr_fp 0 e0 (row:=[.int .u8 y.n]) (fr':=frOf 0 108 [(2,ptY y),(4,.optr (.s 2) e2 3 0 0),(12,.optr (.s 3) e3 3 0 0),(15,.optr (.s 5) e5 1 0 0),(16,.optr (.s 6) e6 1 0 0),(17,.optr (.s 7) e7 7 0 0)])
  (st':=[.hole,.hole,.vec e2 [[.nils,.nils,.nils]],.vec e3 [[crsA p.ins.cs,intsA p.ins.steps,evsA E]],.hole,.vec e5 [[.bool ti]],.vec e6 [[.bool re]],.vec e7 [[crsA p.ins.cs,intsA p.ins.steps,.bool false,.nilf,.nilf,.nilf,.nilf]],.hole]) (dy':=[]) (by exact rfl) (pureRows_of (by exact rfl)) (by (repeat' (first|exact trivial|exact rfl|((conv=>whnf);first|exact trivial|exact rfl|refine ⟨?_,?_⟩|fail)))) (by (repeat' (first|exact trivial|exact rfl|((conv=>whnf);first|exact trivial|exact rfl|refine ⟨?_,?_⟩|fail)))) (by (repeat' (first|exact trivial|exact rfl|((conv=>whnf);first|exact trivial|exact rfl|refine ⟨?_,?_⟩|fail)))) (by exact rfl) (by exact rfl) (by exact rfl) ?_)
 refine tr_fp 5 e5 (row:=[.bool ti]) (fr':=frOf 0 108 [(2,ptY y),(4,.optr (.s 2) e2 3 0 0),(12,.optr (.s 3) e3 3 0 0),(15,ptB ti),(16,.optr (.s 6) e6 1 0 0),(17,.optr (.s 7) e7 7 0 0)])
  (st':=[.hole,.hole,.vec e2 [[.nils,.nils,.nils]],.vec e3 [[crsA p.ins.cs,intsA p.ins.steps,evsA E]],.hole,.hole,.vec e6 [[.bool re]],.vec e7 [[crsA p.ins.cs,intsA p.ins.steps,.bool false,.nilf,.nilf,.nilf,.nilf]],.hole]) (dy':=[]) (by exact rfl) (pureRows_of (by exact rfl)) (by (repeat' (first|exact trivial|exact rfl|((conv=>whnf);first|exact trivial|exact rfl|refine ⟨?_,?_⟩|fail)))) (by (repeat' (first|exact trivial|exact rfl|((conv=>whnf);first|exact trivial|exact rfl|refine ⟨?_,?_⟩|fail)))) (by (repeat' (first|exact trivial|exact rfl|((conv=>whnf);first|exact trivial|exact rfl|refine ⟨?_,?_⟩|fail)))) (by exact rfl) (by exact rfl) (by exact rfl) ?_
 refine tr_fp 6 e6 (row:=[.bool re]) (fr':=frOf 0 108 [(2,ptY y),(4,.optr (.s 2) e2 3 0 0),(12,.optr (.s 3) e3 3 0 0),(15,ptB ti),(16,ptB re),(17,.optr (.s 7) e7 7 0 0)])
  (st':=[.hole,.hole,.vec e2 [[.nils,.nils,.nils]],.vec e3 [[crsA p.ins.cs,intsA p.ins.steps,evsA E]],.hole,.hole,.hole,.vec e7 [[crsA p.ins.cs,intsA p.ins.steps,.bool false,.nilf,.nilf,.nilf,.nilf]],.hole]) (dy':=[]) (by exact rfl) (pureRows_of (by exact rfl)) (by (repeat' (first|exact trivial|exact rfl|((conv=>whnf);first|exact trivial|exact rfl|refine ⟨?_,?_⟩|fail)))) (by (repeat' (first|exact trivial|exact rfl|((conv=>whnf);first|exact trivial|exact rfl|refine ⟨?_,?_⟩|fail)))) (by (repeat' (first|exact trivial|exact rfl|((conv=>whnf);first|exact trivial|exact rfl|refine ⟨?_,?_⟩|fail)))) (by exact rfl) (by exact rfl) (by exact rfl) (tr_done ?_)
 refine wk_seq (wkA ok mixed (A:=A17) ?_)
 (repeat' (first|exact rfl|((conv=>whnf);first|exact rfl|exact ⟨rfl,rfl⟩|refine go1 ?_|(intro ep)|fail)));(conv=>whnf)
 refine wk_seq (wkA ok mixed (A:=A17) ?_)
 (repeat' (first|exact rfl|((conv=>whnf);first|exact rfl|exact ⟨rfl,rfl⟩|refine go1 ?_|(intro ep)|fail)));(conv=>whnf)
 refine wk_seq (wkA ok mixed (A:=A17) ?_)
 (repeat' (first|exact rfl|((conv=>whnf);first|exact rfl|exact ⟨rfl,rfl⟩|refine go1 ?_|(intro ep)|fail)));(conv=>whnf)
 refine wk_seq (wkA ok mixed (A:=A17) ?_)
 (repeat' (first|exact rfl|((conv=>whnf);first|exact rfl|exact ⟨rfl,rfl⟩|refine go1 ?_|(intro ep)|fail)));(conv=>whnf)
 refine wk_seq (wkA ok mixed (A:=A17) ?_)
 (repeat' (first|exact rfl|((conv=>whnf);first|exact rfl|exact ⟨rfl,rfl⟩|refine go1 ?_|(intro ep)|fail)));(conv=>whnf)
 refine wk_seq (wkA ok mixed (A:=A17) ?_)
 (repeat' (first|exact rfl|((conv=>whnf);first|(refine PRet.calls h42 ?_)|exact rfl|exact ⟨rfl,rfl⟩|refine go1 ?_|(intro ep)|fail)))
 (conv=>whnf);generalize losL y ti re (carE y ti re ⟨p.ins,E⟩) 0 E=L at hK ⊢;generalize carE y ti re ⟨p.ins,E⟩=X at hK ⊢;refine wkA ok mixed (A:=A17) ?_;cases re with
 |true=>
  simp only [Bool.not_true,Bool.false_and,Bool.false_eq_true,if_false] at hK
  (repeat' (first|exact hK _|exact rfl|((conv=>whnf);first|exact rfl|exact ⟨rfl,rfl⟩|refine go1 ?_|(intro ep)|(refine ifB ?_ ?_<;>intro hb<;>(try simp only [qs] at hb)<;>(try simp (disch:=omega) only [wrapI] at hb)<;>(try (exfalso;omega)))|fail)))
 |false=>
  cases X with
  |nil=>
   simp only [List.length_nil,Nat.lt_irrefl,decide_false,Bool.and_false,Bool.false_and,Bool.false_eq_true,if_false] at hK
   (repeat' (first|exact hK _|exact rfl|((conv=>whnf);first|exact rfl|exact ⟨rfl,rfl⟩|refine go1 ?_|(intro ep)|(refine ifB ?_ ?_<;>intro hb<;>(try simp only [qs] at hb)<;>(try simp (disch:=omega) only [wrapI] at hb)<;>(try (exfalso;omega)))|fail)))
  |cons e r=>
   have hk0:(!false&&decide (0<(e::r).length)&&decide (((e::r).getD 0 ⟨false,0,false,false,false,[]⟩).stops.length=0))=decide (e.stops.length=0):=by simp
   rw [hk0] at hK;by_cases hz:e.stops.length=0
   ·rw [if_pos (decide_eq_true hz)] at hK
    (repeat' (first|exact hK _|exact rfl|((conv=>whnf);first|(exact absurd hb (by rw [List.length_cons];omega))|(exact absurd hb (by omega))|exact rfl|exact ⟨rfl,rfl⟩|refine go1 ?_|(intro ep)|(refine ifB ?_ ?_<;>intro hb<;>(try simp only [qs] at hb)<;>(try simp (disch:=omega) only [wrapI] at hb)<;>(try (exfalso;omega)))|fail)))
   ·rw [if_neg (by rw [decide_eq_false hz];decide)] at hK
    (repeat' (first|exact hK _|exact rfl|((conv=>whnf);first|(exact absurd hb (by rw [List.length_cons];omega))|(exact absurd hb (by omega))|exact rfl|exact ⟨rfl,rfl⟩|refine go1 ?_|(intro ep)|(refine ifB ?_ ?_<;>intro hb<;>(try simp only [qs] at hb)<;>(try simp (disch:=omega) only [wrapI] at hb)<;>(try (exfalso;omega)))|fail)))
theorem red17_spec (y:Sy) (p:Pc) (h:chk p=0) (h5:hasL (lacksP y p) 5=false):PRet C.P 17 [.int .u8 y.n,pcA p] (redR y p):=by
 have hd:=red17d y p h h5 (K:=fun v h'=>∀σ σ' x,FzS σ σ' h'→VRel σ v x→VRel σ' (redR y p) x) fun hh σ σ' x fz hv=>?_
 ·refine PRet.of_freeze ?_ (fun h=>?_) hd
  ·unfold redR;split<;>rfl
  ·unfold redR;split<;>rfl
 ·unfold redR at hv ⊢
  split at hv
  ·rename_i hn;rw [if_pos hn];cases hv with
   | @tup _ _ vs l hh2=>
    refine .tup l fun k c v hc hv=>?_
    match k,hc,hv with
    |0,hc,hv=>cases hc;exact vp0 (fz.pure rfl (hh2 0 _ v rfl hv))
    |1,hc,hv=>cases hc;exact up0 fz rfl (hh2 1 _ v rfl hv)
    |2,hc,hv=>cases hc;exact up0 fz rfl (hh2 2 _ v rfl hv)
  ·rename_i hn;rw [if_neg hn];cases hv with
   | @tup _ _ vs l hh2=>
    refine .tup l fun k c v hc hv=>?_
    match k,hc,hv with
    |0,hc,hv=>cases hc;exact vp0 (fz.pure rfl (hh2 0 _ v rfl hv))
    |1,hc,hv=>cases hc;exact up0 fz rfl (hh2 1 _ v rfl hv)
    |2,hc,hv=>cases hc;exact up0 fz rfl (hh2 2 _ v rfl hv)
end Go.Ab.V
