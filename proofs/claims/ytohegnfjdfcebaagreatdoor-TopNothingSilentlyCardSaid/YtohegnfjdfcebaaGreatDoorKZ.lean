/-
  What is proved here serves the law's text: each part says its own claim and its conditions. No condition is left open.
-/
import Derived.Test.YtohegnfjdfcebaaGreatDoorKY
set_option maxHeartbeats 32000000
set_option maxRecDepth 100000
set_option linter.unusedSimpArgs false
set_option linter.unusedVariables false

namespace Go.Ab.V
open Go.Proofs
section
variable {T:Type}
def outE (st:T→Evt→T×Evt):T→List Evt→List Evt
 |_,[]=>[]
 |s,e::r=>(st s e).2::outE st (st s e).1 r
def endS (st:T→Evt→T×Evt):T→List Evt→T
 |s,[]=>s
 |s,e::r=>endS st (st s e).1 r
theorem outE_len (st:T→Evt→T×Evt):∀(l:List Evt) (s:T),(outE st s l).length=l.length
 | [],_=>rfl
 |e::r,s=>by simp [outE,outE_len st r]
theorem endS_snoc (st:T→Evt→T×Evt) (e:Evt):∀(l:List Evt) (s:T),endS st s (l++[e])=(st (endS st s l) e).1
 | [],_=>rfl
 |x::r,s=>endS_snoc st e r (st s x).1
theorem outE_snoc (st:T→Evt→T×Evt) (e:Evt):∀(l:List Evt) (s:T),outE st s (l++[e])=outE st s l++[(st (endS st s l) e).2]
 | [],_=>rfl
 |x::r,s=>by simp only [List.cons_append,outE,endS,outE_snoc st e r]
end
def evX (e:Evt) (x:AV):List AV:=[.bool e.bar,.int .i64 e.v,.bool e.d,.bool e.t,.bool e.tie,x]
structure Lay where
 stp:Nat→Nat→Evt→AV
 obj:Nat→Evt→List AObj
 c:Nat
 len:∀ep e,(obj ep e).length=c
def litL:Lay:=⟨fun _ _ e=>stsA e.stops,fun _ _=>[],0,fun _ _=>rfl⟩
def memL:Lay:=⟨fun B ep e=>.oslc (.d B) ep 5 0 e.stops.length false,fun ep e=>[.vec ep (e.stops.map stR)],1,fun _ _=>rfl⟩
def rowsD (L:Lay) (B:Nat) (eps:Nat→Nat):Nat→List Evt→List (List AV)
 |_,[]=>[]
 |i,e::r=>evX e (L.stp (B+L.c * i) (eps i) e)::rowsD L B eps (i+1) r
def objsD (L:Lay) (eps:Nat→Nat):Nat→List Evt→List AObj
 |_,[]=>[]
 |i,e::r=>L.obj (eps i) e++objsD L eps (i+1) r
theorem rowsD_len (L:Lay) (B:Nat) (eps:Nat→Nat):∀(l:List Evt) (i:Nat),(rowsD L B eps i l).length=l.length
 | [],_=>rfl
 |e::r,i=>by simp [rowsD,rowsD_len L B eps r]
theorem objsD_len (L:Lay) (eps:Nat→Nat):∀(l:List Evt) (i:Nat),(objsD L eps i l).length=L.c * l.length
 | [],_=>rfl
 |e::r,i=>by simp only [objsD,List.length_append,L.len,objsD_len L eps r,List.length_cons];rw [Nat.mul_add];omega
theorem rowsD_snoc (L:Lay) (B:Nat) (eps:Nat→Nat) (e:Evt):∀(l:List Evt) (i:Nat),rowsD L B eps i (l++[e])=rowsD L B eps i l++[evX e (L.stp (B+L.c * (i+l.length)) (eps (i+l.length)) e)]
 | [],_=>rfl
 |x::r,i=>by
  simp only [List.cons_append,rowsD,rowsD_snoc L B eps e r,List.length_cons];rw [show i+1+r.length=i+(r.length+1) by omega]
theorem objsD_snoc (L:Lay) (eps:Nat→Nat) (e:Evt):∀(l:List Evt) (i:Nat),objsD L eps i (l++[e])=objsD L eps i l++L.obj (eps (i+l.length)) e
 | [],_=>by simp [objsD]
 |x::r,i=>by
  simp only [List.cons_append,objsD,objsD_snoc L eps e r,List.length_cons,List.append_assoc];rw [show i+1+r.length=i+(r.length+1) by omega]
theorem rowsD_congr (L:Lay) (B:Nat) {f g:Nat→Nat}:∀(l:List Evt) (i:Nat),(∀j,i≤j→j<i+l.length→f j=g j)→rowsD L B f i l=rowsD L B g i l
 | [],_,_=>rfl
 |e::r,i,h=>by
  simp only [rowsD,h i (Nat.le_refl _) (by simp),rowsD_congr L B r (i+1) fun j a b=>h j (by omega) (by simp only [List.length_cons];omega)]
theorem objsD_congr (L:Lay) {f g:Nat→Nat}:∀(l:List Evt) (i:Nat),(∀j,i≤j→j<i+l.length→f j=g j)→objsD L f i l=objsD L g i l
 | [],_,_=>rfl
 |e::r,i,h=>by
  simp only [objsD,h i (Nat.le_refl _) (by simp),objsD_congr L r (i+1) fun j a b=>h j (by omega) (by simp only [List.length_cons];omega)]
theorem layS (L:Lay) (B:Nat) (eps:Nat→Nat) (ep:Nat) (l:List Evt) (e:Evt):∃eps',rowsD L B eps' 0 (l++[e])=rowsD L B eps 0 l++[evX e (L.stp (B+L.c * l.length) ep e)]∧objsD L eps' 0 (l++[e])=objsD L eps 0 l++L.obj ep e:=by
 refine ⟨fun j=>if j=l.length then ep else eps j,?_,?_⟩
 ·rw [rowsD_snoc,rowsD_congr (g:=eps) L B l 0 fun j _ h=>if_neg (by omega),Nat.zero_add,if_pos rfl]
 ·rw [objsD_snoc,objsD_congr (g:=eps) L l 0 fun j _ h=>if_neg (by omega),Nat.zero_add,if_pos rfl]
def A73:Ann:=fun r=>match r with
 |4=>{ slots:=[(2,2)] }
 |5=>{ slots:=[(4,3),(5,4)] }
 |7=>{ mv:=[4] }
 |_=>{}
theorem mapped_spec {T:Type} (L:Lay) (o:T→AObj) (st:T→Evt→T×Evt) (ob:AObj) (ec:Nat) (l:List Evt) (hl:l.length≤100000)
  (hF:∀s,∀e∈l,∀dy,ACalls C.P 103 [.agg (evR e),.optr (.s 1) ec 1 0 0] ⟨[o s,ob],dy⟩ fun r h'=>∃ep,r= .agg (evX (st s e).2 (L.stp dy.length ep (st s e).2))∧padTo 2 h'.st=[o (st s e).1,ob]∧h'.dy=dy++L.obj ep (st s e).2)
  (s0:T) (dy:List AObj):
  ACalls C.P 73 [evsA l,.fn (.func 103) [] [.optr (.s 1) ec 1 0 0]] ⟨[o s0,ob],dy⟩ fun r h'=>∃eps epo,r= .oslc (.d (dy++objsD L eps 0 (outE st s0 l)).length) epo 6 0 l.length false∧padTo 2 h'.st=[o (endS st s0 l),ob]∧
   h'.dy=dy++objsD L eps 0 (outE st s0 l)++[.vec epo (rowsD L dy.length eps 0 (outE st s0 l))]:=by
 refine fn_of ok mixed (A:=A73) 3 Tryz.func73 rfl ?_
 (repeat' (first|exact rfl|((conv=>whnf);first|exact rfl|refine ⟨by kernel_rfl,?_⟩|exact ⟨rfl,rfl⟩|refine ⟨rfl,?_⟩|refine ⟨by (first|omega|(simp (disch:=omega) only [wrapI];first|omega|(simp;omega))|(simp;omega)),?_⟩|(intro ep)|fail)))
 (conv=>whnf);refine wk_lift 5 4 6 rfl ?_;intro e1;refine loopM ok mixed (A:=A73) [1,5,8,9,10] [0,1,4] (S:={ x:Nat×(Nat→Nat)×Nat // x.1≤l.length })
  (fr:=fun s=>frOf 0 22 [(1,.fn (.func 103) [] [.optr (.s 1) ec 1 0 0]),(5,.oslc (.s 4) s.1.2.2 6 0 s.1.1 false),(8,evsA l),(9,.int .i64 l.length),(10,.int .i64 (s.1.1:Int))])
  (h:=fun s=>⟨[o (endS st s0 (l.take s.1.1)),ob,.hole,.hole,.vec s.1.2.2 (rowsD L dy.length s.1.2.1 0 (outE st s0 (l.take s.1.1)))],dy++objsD L s.1.2.1 0 (outE st s0 (l.take s.1.1))⟩) (μ:=fun s=>l.length-s.1.1) ⟨(0,(fun _=>0),e1),by simp⟩ ?_ ?_ ?_
 ·exact rfl
 ·refine Eq.trans (b:=⟨[o s0,ob,.hole,.hole,.vec e1 []],dy⟩) rfl ?_;simp [outE,endS,rowsD,objsD]
 rintro ⟨⟨k,eps,ep⟩,hk⟩;simp only at hk;show aexR _ _ _ (frOf 0 22 [(1,.fn (.func 103) [] [.optr (.s 1) ec 1 0 0]),(5,.oslc (.s 4) ep 6 0 k false),(8,evsA l),(9,.int .i64 l.length),(10,.int .i64 (k:Int))]) ⟨[o (endS st s0 (l.take k)),ob,.hole,.hole,.vec ep (rowsD L dy.length eps 0 (outE st s0 (l.take k)))],dy++objsD L eps 0 (outE st s0 (l.take k))⟩ _;(conv=>whnf);refine ifB (fun h1=>?_) (fun h1=>?_)
 ·simp only [decide_eq_true_eq] at h1;have hlt:k<l.length:=by omega
  have key:=hF (endS st s0 (l.take k)) l[k] (List.getElem_mem hlt) (dy++objsD L eps 0 (outE st s0 (l.take k)))
  (repeat' (first|exact rfl|((conv=>whnf);first|exact rfl|refine ⟨by kernel_rfl,?_⟩|exact ⟨rfl,rfl⟩|refine ⟨rfl,?_⟩|refine ⟨by (first|omega|(simp (disch:=omega) only [wrapI];first|omega|(simp;omega))|(simp;omega)),?_⟩|(intro ep)|refine optS (mapR hlt) ?_|fail)))
  (conv=>whnf);refine ACalls.part (dy:=dy++objsD L eps 0 (outE st s0 (l.take k))) 2 (by exact rfl) (by exact rfl) (by exact rfl) key ?_;rintro r h2 ⟨epn,rfl,hp,hd⟩;rw [hp,hd];have e1:l.take (k+1)=l.take k++[l[k]]:=by rw [List.take_add_one,List.getElem?_eq_getElem hlt];rfl
  have hol:(outE st s0 (l.take k)).length=k:=by rw [outE_len,List.length_take];omega
  have hB:(dy++objsD L eps 0 (outE st s0 (l.take k))).length=dy.length+L.c * (outE st s0 (l.take k)).length:=by rw [List.length_append,objsD_len]
  obtain ⟨eps',y1,y2⟩:=layS L dy.length eps epn (outE st s0 (l.take k)) (st (endS st s0 (l.take k)) l[k]).2;rw [←outE_snoc,←e1] at y1 y2;rw [hB];have hrl:=rowsD_len L dy.length eps (outE st s0 (l.take k)) 0
  (repeat' (first|exact rfl|((conv=>whnf);first|exact rfl|refine ⟨by kernel_rfl,?_⟩|exact ⟨rfl,rfl⟩|refine ⟨rfl,?_⟩|refine ⟨by (first|omega|(simp (disch:=omega) only [wrapI];first|omega|(simp;omega))|(simp;omega)),?_⟩|(intro ep)|fail)))
  (conv=>whnf);have hT:List.take k (rowsD L dy.length eps 0 (outE st s0 (l.take k)))=rowsD L dy.length eps 0 (outE st s0 (l.take k)):=List.take_of_length_le (by rw [hrl,hol];exact Nat.le_refl _);refine back_of ⟨(k+1,eps',ep),by simp only;omega⟩ ⟨by (first|exact rfl|(simp (disch:=omega) only [wrapI];exact rfl)),?_,by simp only;omega⟩;simp only;rw [y1,y2,e1,endS_snoc,←List.append_assoc dy];refine Eq.trans (b:=⟨[o (st (endS st s0 (l.take k)) l[k]).1,ob,.hole,.hole,.vec ep (List.take k (List.drop 0 (rowsD L dy.length eps 0 (outE st s0 (l.take k))))++
   [evX (st (endS st s0 (l.take k)) l[k]).2 (L.stp (dy.length+L.c * (outE st s0 (l.take k)).length) epn (st (endS st s0 (l.take k)) l[k]).2)])],
   dy++objsD L eps 0 (outE st s0 (l.take k))++L.obj epn (st (endS st s0 (l.take k)) l[k]).2⟩) rfl ?_
  rw [List.drop_zero,hT]
 ·simp only [decide_eq_false_iff_not] at h1;obtain rfl:k=l.length:=by omega
  rw [List.take_length]
  (repeat' (first|exact rfl|((conv=>whnf);first|exact rfl|refine ⟨by kernel_rfl,?_⟩|exact ⟨rfl,rfl⟩|refine ⟨rfl,?_⟩|refine ⟨by (first|omega|(simp (disch:=omega) only [wrapI];first|omega|(simp;omega))|(simp;omega)),?_⟩|(intro ep)|fail)))
end Go.Ab.V

namespace Go.Ab.V
open Go.Proofs
def A69:Ann:=fun r=>match r with
 |0=>{ slots:=[(0,2),(1,1),(2,3)] }
 |4=>{ slots:=[(4,4)] }
 |_=>{}
def Chg {T:Type} (L:Lay) (o:T→AObj) (st:T→Evt→T×Evt) (F:Nat) (cap:List AV) (Good:Evt→Prop):Prop:=
 ∀ec s e dy,Good e→ACalls C.P 103 [.agg (evR e),.optr (.s 1) ec 1 0 0] ⟨[o s,.vec ec [[.fn (.func F) [] cap]]],dy⟩ fun r h'=>∃ep,r= .agg (evX (st s e).2 (L.stp dy.length ep (st s e).2))∧
  padTo 2 h'.st=[o (st s e).1,.vec ec [[.fn (.func F) [] cap]]]∧h'.dy=dy++L.obj ep (st s e).2
def pcD (L:Lay) (i:Ins) (B:Nat) (epo:Nat) (eps:Nat→Nat) (l:List Evt):AV:=.agg [crsA i.cs,intsA i.steps,.oslc (.d (B+L.c * l.length)) epo 6 0 l.length false]
def pcO (L:Lay) (B:Nat) (epo:Nat) (eps:Nat→Nat) (l:List Evt):List AObj:=objsD L eps 0 l++[.vec epo (rowsD L B eps 0 l)]
theorem rewritten_spec {T:Type} {L:Lay} {o:T→AObj} {st:T→Evt→T×Evt} {F:Nat} {cap:List AV} {Good:Evt→Prop} (hF:Chg L o st F cap Good) (p:Pc) (hp:p.Ok) (hs:p.Sm) (hc:chk p=0) (hg:∀e∈p.evs,Good e) (s0:T) (dy:List AObj):
  ACalls C.P 69 [pcA p,.fn (.func F) [] cap] ⟨[o s0],dy⟩ fun r h'=>∃eps epo,r= .tup [pcD L p.ins dy.length epo eps (outE st s0 p.evs),.int .i64 0]∧padTo 1 h'.st=[o (endS st s0 p.evs)]∧h'.dy=dy++pcO L dy.length epo eps (outE st s0 p.evs):=by
 have h1:=check_spec p hp;rw [hc] at h1;have h2:=copiedIn_spec p.ins (by have:=hs.cs;omega) (by have:=hs.st;omega);refine fn_of ok mixed (A:=A69) 4 Tryz.func69 rfl ?_
 (repeat' (first|exact rfl|((conv=>whnf);first|exact rfl|refine ⟨by kernel_rfl,?_⟩|exact ⟨rfl,rfl⟩|refine go0 ?_|(intro ep)|refine ⟨_,h1,?_⟩|refine ⟨_,h2,?_⟩|fail)))
 rename_i e1 e2 e3;(conv=>whnf);have key:=mapped_spec L o st (.vec e2 [[.fn (.func F) [] cap]]) e2 p.evs (by have:=hs.ev;omega) (fun s e he dy=>hF e2 s e dy (hg e he)) s0 dy;refine ACalls.part (dy:=dy) 2 (by exact rfl) (by exact rfl) (by exact rfl) key ?_;rintro r h3 ⟨eps,epo,rfl,hq,hd⟩;rw [hq,hd];have hB:(dy++objsD L eps 0 (outE st s0 p.evs)).length=dy.length+L.c * (outE st s0 p.evs).length:=by rw [List.length_append,objsD_len]
 rw [hB,←outE_len st p.evs s0]
 (repeat' ((conv=>whnf);first|refine ⟨rfl,?_⟩|fail))
 refine ⟨eps,epo,?_,rfl,by rw [pcO,←List.append_assoc]⟩;rfl
theorem rewritten_bad {F:Nat} {cap:List AV} (p:Pc) (hp:p.Ok) (hc:chk p≠0) (ob:AObj) (dy:List AObj):
  ACalls C.P 69 [pcA p,.fn (.func F) [] cap] ⟨[ob],dy⟩ fun r h'=>r= .tup [.agg [.nils,.nils,.nils],.int .i64 (chk p)]∧padTo 1 h'.st=[ob]∧h'.dy=dy:=by
 have h1:=check_spec p hp;refine fn_of ok mixed (A:=A69) 4 Tryz.func69 rfl ?_
 (repeat' (first|exact rfl|((conv=>whnf);first|exact rfl|refine ⟨by kernel_rfl,?_⟩|exact ⟨rfl,rfl⟩|refine go0 ?_|(intro ep)|refine ⟨_,h1,?_⟩|(refine ifB ?_ ?_<;>intro hb<;>(try simp only [qs] at hb)<;>(try simp (disch:=omega) only [wrapI] at hb)<;>(try (exfalso;omega)))|fail)))

def eqBy {α:Type} (f:α→α→Bool):List α→List α→Bool
 | [],[]=>true
 |a::l,b::m=>f a b&&eqBy f l m
 |_,_=>false
theorem eqBy_len {α:Type} {f:α→α→Bool}:∀{l m:List α},l.length≠m.length→eqBy f l m=false
 | [],[],h=>absurd rfl h
 | [],_::_,_=>rfl
 |_::_,[],_=>rfl
 |a::l,b::m,h=>by
  have:=eqBy_len (f:=f) (l:=l) (m:=m) (by simp only [List.length_cons] at h;omega);simp [eqBy,this]
theorem eqBy_drop {α:Type} {f:α→α→Bool} {l m:List α} {k:Nat} (h1:k<l.length) (h2:k<m.length):
  eqBy f (l.drop k) (m.drop k)=(f l[k] m[k]&&eqBy f (l.drop (k+1)) (m.drop (k+1))):=by
 rw [List.drop_eq_getElem_cons h1,List.drop_eq_getElem_cons h2];rfl
theorem eqBy_end {α:Type} {f:α→α→Bool} {l m:List α} {k:Nat} (h:l.length=m.length) (hk:l.length≤k) {R:Bool} (e:R=eqBy f (l.drop k) (m.drop k)):R=true:=by
 rw [e,List.drop_eq_nil_of_le hk,List.drop_eq_nil_of_le (h ▸ hk)];rfl
theorem eqBy_step {α:Type} {f:α→α→Bool} {l m:List α} {k:Nat} (h1:k<l.length) (h2:k<m.length) (hf:f l[k] m[k]=true) {R:Bool} (e:R=eqBy f (l.drop k) (m.drop k)):R=eqBy f (l.drop (k+1)) (m.drop (k+1)):=by
 rw [e,eqBy_drop h1 h2,hf,Bool.true_and]
theorem eqBy_not {α:Type} {f:α→α→Bool} {l m:List α} {k:Nat} (h1:k<l.length) (h2:k<m.length) (hf:f l[k] m[k]=false) {R:Bool} (e:R=eqBy f (l.drop k) (m.drop k)):R=false:=by
 rw [e,eqBy_drop h1 h2,hf,Bool.false_and]
theorem eqBy_decide {α:Type} [DecidableEq α]:∀(l m:List α),eqBy (fun a b=>decide (a=b)) l m=decide (l=m)
 | [],[]=>by simp [eqBy]
 | [],_::_=>by simp [eqBy]
 |_::_,[]=>by simp [eqBy]
 |a::l,b::m=>by
  rw [eqBy,eqBy_decide l m];by_cases h:a=b<;>by_cases h2:l=m<;>simp [h,h2]
abbrev EqS {α:Type} (f:α→α→Bool) (l m:List α) (R:Bool):Type:={ k:Nat // k≤l.length∧R=eqBy f (l.drop k) (m.drop k) }
theorem crs_dec (s t:Crs):(decide (s.pitch=t.pitch)&&(decide (s.frets=t.frets)&&((s.oct==t.oct)&&true)))=decide (s=t):=by
 cases s;cases t;simp;rename_i a b c d e f;cases c<;>cases f<;>rfl
theorem bT {x:Bool} (h:(!x)=true):x=false:=by cases x<;>first|rfl|cases h
theorem bF {x:Bool} (h:(!x)=false):x=true:=by cases x<;>first|rfl|cases h

def Chs {T:Type} (o:T→AObj) (st:T→Evt→T×Evt) (F:Nat) (cap:List AV) (Good:Evt→Prop):Prop:=
 ∀s e x dy,Good e→ACalls C.P F (.agg (evX e x)::cap) ⟨[o s],dy⟩ fun r h'=>r= .agg (evX (st s e).2 x)∧padTo 1 h'.st=[o (st s e).1]∧h'.dy=dy
def sgB (v:Int) (d t:Bool) (v':Int) (d' t':Bool):Bool:=decide (v=v')&&((d==d')&&((t==t')&&true))
theorem sgB_iff {v v':Int} {d t d' t':Bool}:sgB v d t v' d' t'=true↔v=v'∧d=d'∧t=t':=by
 unfold sgB;simp
def sgO (e0:Nat) (s:Sgn):AObj:=.vec e0 [[.int .i64 s.v,.bool s.d,.bool s.t]]
def withS (e:Evt) (s:Sgn):Evt:={ e with v:=s.v,d:=s.d,t:=s.t }
def plnS (s:Sgn) (e:Evt):Sgn×Evt:=if sgB e.v e.d e.t 0 false false=true then (s,withS e s) else (⟨e.v,e.d,e.t⟩,e)
def A70:Ann:=fun r=>match r with
 |0=>{ slots:=[(0,1),(1,2)] }
 |_=>{}
theorem pln_chs (e0:Nat):Chs (sgO e0) plnS 70 [.optr (.s 0) e0 3 0 0] (fun _=>True):=by
 intro s e x dy hg;unfold plnS;have hz2:True:=trivial;by_cases hz:sgB e.v e.d e.t 0 false false=true
 ·rw [if_pos hz];refine fn_of ok mixed (A:=A70) 2 Tryz.func70 rfl ?_
  (repeat' (first|exact rfl|((conv=>whnf);first|exact rfl|refine ⟨by kernel_rfl,?_⟩|exact ⟨rfl,rfl⟩|refine go0 ?_|(intro ep)|(refine ifB (fun hb=>?_) (fun hb=>?_)<;>(try (exfalso;first|exact absurd hb hz|exact absurd (bF hb) hz|exact Bool.noConfusion (hb.symm.trans hz)|exact Bool.noConfusion ((bT hb).symm.trans hz)|exact absurd hb hz2|exact absurd (bF hb) hz2|exact Bool.noConfusion (hb.symm.trans hz2)|exact Bool.noConfusion ((bT hb).symm.trans hz2))))|fail)))
 ·rw [if_neg hz];refine fn_of ok mixed (A:=A70) 2 Tryz.func70 rfl ?_
  (repeat' (first|exact rfl|((conv=>whnf);first|exact rfl|refine ⟨by kernel_rfl,?_⟩|exact ⟨rfl,rfl⟩|refine go0 ?_|(intro ep)|(refine ifB (fun hb=>?_) (fun hb=>?_)<;>(try (exfalso;first|exact absurd hb hz|exact absurd (bF hb) hz|exact Bool.noConfusion (hb.symm.trans hz)|exact Bool.noConfusion ((bT hb).symm.trans hz)|exact absurd hb hz2|exact absurd (bF hb) hz2|exact Bool.noConfusion (hb.symm.trans hz2)|exact Bool.noConfusion ((bT hb).symm.trans hz2))))|fail)))
def A103:Ann:=fun r=>match r with
 |0=>{ slots:=[(0,2),(1,3)] }
 |_=>{}
theorem c95_lit {T:Type} {o:T→AObj} {st:T→Evt→T×Evt} {e0 sz:Nat} {Good:Evt→Prop} (h:Chs o st 70 [.optr (.s 0) e0 sz 0 0] Good) (hst:∀s e,(st s e).2.stops=e.stops):Chg litL o st 70 [.optr (.s 0) e0 sz 0 0] (fun e=>Good e∧e.stops.length≤100000):=by
 intro ec s e dy hg;have c1:PRet C.P 74 [.agg (evR e)] (.agg (evX e (stsA (st s e).2.stops))):=by rw [hst];exact copied_spec e hg.2
 have key:=h s e (stsA (st s e).2.stops) dy hg.1;refine fn_of ok mixed (A:=A103) 2 Tryz.func103 rfl ?_
 (repeat' (first|exact rfl|((conv=>whnf);first|exact rfl|refine ⟨by kernel_rfl,?_⟩|exact ⟨rfl,rfl⟩|refine go0 ?_|(intro ep)|refine ⟨_,c1,?_⟩|fail)))
 (conv=>whnf);refine ACalls.part (dy:=dy) 1 (by exact rfl) (by exact rfl) (by exact rfl) key ?_;rintro r h3 ⟨rfl,hq,hd⟩;rw [hq,hd]
 (repeat' ((conv=>whnf);first|refine ⟨rfl,?_⟩|fail))
 exact ⟨0,rfl,rfl,(List.append_nil _).symm⟩

theorem rowsD_lit (B:Nat) (eps:Nat→Nat):∀(l:List Evt) (i:Nat),rowsD litL B eps i l=l.map evR
 | [],_=>rfl
 |e::r,i=>by simp only [rowsD,rowsD_lit B eps r];rfl
theorem objsD_lit (eps:Nat→Nat):∀(l:List Evt) (i:Nat),objsD litL eps i l=[]
 | [],_=>rfl
 |e::r,i=>by simp only [objsD,objsD_lit eps r];rfl
def litP (i:Ins) (B ep:Nat) (l:List Evt):AV:=.agg [crsA i.cs,intsA i.steps,.oslc (.d B) ep 6 0 l.length false]
theorem rewritten_lit {T:Type} {o:T→AObj} {st:T→Evt→T×Evt} {F:Nat} {cap:List AV} {Good:Evt→Prop} (hF:Chg litL o st F cap Good) (p:Pc) (hp:p.Ok) (hs:p.Sm) (hc:chk p=0) (hg:∀e∈p.evs,Good e) (s0:T) (dy:List AObj):
  ACalls C.P 69 [pcA p,.fn (.func F) [] cap] ⟨[o s0],dy⟩ fun r h'=>∃ep,r= .tup [litP p.ins dy.length ep (outE st s0 p.evs),.int .i64 0]∧padTo 1 h'.st=[o (endS st s0 p.evs)]∧h'.dy=dy++[.vec ep ((outE st s0 p.evs).map evR)]:=by
 refine (rewritten_spec hF p hp hs hc hg s0 dy).mono fun r h' ⟨eps,epo,h1,h2,h3⟩=>⟨epo,?_,h2,?_⟩
 ·rw [h1,pcD,show litL.c=0 from rfl,Nat.zero_mul];rfl
 ·rw [h3,pcO,objsD_lit,rowsD_lit];rfl
def zeroA:AV:=.agg [.nils,.nils,.nils]
def pcE (x:Except Int Pc):AV:=match x with
 | .ok p=>.tup [pcA p,.int .i64 0]
 | .error e=>.tup [zeroA,.int .i64 e]
theorem fz_litP (i:Ins) (ep:Nat) (l:List Evt):fzV [.vec ep (l.map evR)] (.tup [litP i 0 ep l,.int .i64 0])= .tup [pcA ⟨i,l⟩,.int .i64 0]:=by
 simp [fzV,litP,fzC,pcA,crsA,intsA,evsA]
theorem end_lit {i:Ins} {ep:Nat} {l:List Evt} {h:Heap}:(∀o∈[AObj.vec ep (l.map evR)],pureObj o)∧frzK h (fzV [.vec ep (l.map evR)] (.tup [litP i 0 ep l,.int .i64 0])) fun r' _=>r'.isPure2=true∧r'= .tup [pcA ⟨i,l⟩,.int .i64 0]:=by
 refine ⟨fun o ho=>?_,?_⟩
 ·obtain rfl:=List.mem_singleton.1 ho;exact pure_map l fun x=>rfl
 ·rw [fz_litP];exact frzK_pure rfl ⟨rfl,rfl⟩
def plnP (p:Pc):Except Int Pc:=if chk p≠0 then .error (chk p) else .ok ⟨p.ins,outE plnS ⟨0,false,false⟩ p.evs⟩
def A33:Ann:=fun r=>match r with
 |0=>{ slots:=[(0,1),(1,2)] }
 |1=>{ slots:=[(1,0)] }
 |_=>{}
theorem plain_spec (p:Pc) (hp:p.Ok) (hs:p.Sm):PRet C.P 33 [pcA p] (pcE (plnP p)):=by
 unfold plnP;by_cases hc:chk p=0
 ·rw [if_neg (fun h=>h hc)];refine pretD_of ok mixed (A:=A33) 3 Tryz.func33 rfl ?_
  (repeat' (first|exact rfl|((conv=>whnf);first|exact rfl|refine ⟨by kernel_rfl,?_⟩|exact ⟨rfl,rfl⟩|refine go0 ?_|(intro ep)|fail)))
  obtain ⟨e0,he0⟩:∃e0,e0=ep:=⟨_,rfl⟩;subst he0;(conv=>whnf);obtain ⟨l,hl⟩:∃l,l=outE plnS ⟨0,false,false⟩ p.evs:=⟨_,rfl⟩;have key:=rewritten_lit (c95_lit (pln_chs e0) (fun s e=>by unfold plnS;split<;>(try split)<;>rfl)) p hp hs hc (fun e he=>⟨trivial,by have:=hs.sp e he;omega⟩) ⟨0,false,false⟩ [];rw [←hl] at key;rw [←hl];refine ACalls.part (dy:=[]) 1 (by exact rfl) (by exact rfl) (by exact rfl) key ?_;rintro r h3 ⟨ep,rfl,hq,hd⟩;rw [hq,hd]
  (repeat' ((conv=>whnf);first|refine ⟨rfl,?_⟩|fail))
  exact end_lit
 ·rw [if_pos hc];refine pretD_of ok mixed (A:=A33) 3 Tryz.func33 rfl ?_
  (repeat' (first|exact rfl|((conv=>whnf);first|exact rfl|refine ⟨by kernel_rfl,?_⟩|exact ⟨rfl,rfl⟩|refine go0 ?_|(intro ep)|fail)))
  obtain ⟨e0,he0⟩:∃e0,e0=ep:=⟨_,rfl⟩;subst he0;(conv=>whnf);have key:=rewritten_bad (F:=70) (cap:=[.optr (.s 0) e0 3 0 0]) p hp hc (sgO e0 ⟨0,false,false⟩) [];refine ACalls.part (dy:=[]) 1 (by exact rfl) (by exact rfl) (by exact rfl) key ?_;rintro r h3 ⟨rfl,hq,hd⟩;rw [hq,hd]
  (repeat' (first|exact rfl|((conv=>whnf);first|exact rfl|refine ⟨by kernel_rfl,?_⟩|exact ⟨rfl,rfl⟩|refine go0 ?_|(intro ep)|refine ⟨fun o ho=>(List.not_mem_nil (a:=o) ho).elim,?_⟩|fail)))

def A71:Ann:=fun r=>match r with
 |0=>{ slots:=[(0,0),(1,1)] }
 |_=>{}
theorem sameIn83_spec (a b:Ins) (ha:a.cs.length≤100000) (ha2:a.steps.length≤100000):PRet C.P 71 [inA a,inA b] (.bool (decide (a=b))):=by
 obtain ⟨R,hR⟩:∃R,R=decide (a=b):=⟨_,rfl⟩;obtain ⟨R1,hR1⟩:∃R,R=eqBy (fun a b=>decide (a=b)) a.cs b.cs:=⟨_,rfl⟩;obtain ⟨R2,hR2⟩:∃R,R=eqBy (fun a b=>decide (a=b)) a.steps b.steps:=⟨_,rfl⟩;rw [←hR];have hRR:R=(R1&&R2):=by rw [hR,hR1,hR2,eqBy_decide,eqBy_decide];cases a;cases b;simp
 refine pret_of ok mixed (A:=A71) 2 Tryz.func71 rfl ?_;(conv=>whnf);intro e0;(conv=>whnf);intro e1
 (repeat' (first|exact rfl|((conv=>whnf);first|exact rfl|refine ⟨by kernel_rfl,?_⟩|exact ⟨rfl,rfl⟩|refine go0 ?_|(intro ep)|refine ifB (fun hb=>?_) (fun hb=>?_)|fail)))
 ·refine congrArg AV.bool ?_;rw [hRR,hR1,eqBy_len (by intro e;simp [e] at hb)];rfl
 ·refine congrArg AV.bool ?_;rw [hRR,hR2,eqBy_len (l:=a.steps) (by intro e;simp [e] at hb),Bool.and_false]
 rename_i hb1;have hlenR1:a.cs.length=b.cs.length:=by simp at hb1;omega
 have hlenR2:a.steps.length=b.steps.length:=by simp at hb;omega
 (repeat' (first|exact rfl|((conv=>whnf);first|exact rfl|refine ⟨by kernel_rfl,?_⟩|exact ⟨rfl,rfl⟩|refine go0 ?_|(intro ep)|fail)))
 (conv=>whnf);refine loopM ok mixed (A:=A71) [2,3,25,26] [0,1] (S:=EqS (fun a b=>decide (a=b)) (a.cs) (b.cs) R1)
  (fr:=fun s=>frOf 0 59 [(2,.optr (.s 0) e0 2 0 0),(3,.optr (.s 1) e1 2 0 0),(25,.int .i64 a.cs.length),(26,.int .i64 (s.1:Int))])
  (h:=fun s=>⟨[.vec e0 [[crsA a.cs,intsA a.steps]],.vec e1 [[crsA b.cs,intsA b.steps]]],[]⟩) (μ:=fun s=>(a.cs).length-s.1) ⟨0,by omega,hR1⟩ rfl rfl ?_
 rintro ⟨k,hk,he⟩;show aexR _ _ _ (frOf 0 59 [(2,.optr (.s 0) e0 2 0 0),(3,.optr (.s 1) e1 2 0 0),(25,.int .i64 a.cs.length),(26,.int .i64 (k:Int))]) ⟨[.vec e0 [[crsA a.cs,intsA a.steps]],.vec e1 [[crsA b.cs,intsA b.steps]]],[]⟩ _
 (repeat' (first|exact rfl|((conv=>whnf);first|exact rfl|refine ⟨by kernel_rfl,?_⟩|exact ⟨rfl,rfl⟩|refine go0 ?_|(intro ep)|fail)))
 (conv=>whnf);refine ifB (fun h1=>?_) (fun h1=>?_)
 ·simp only [decide_eq_true_eq] at h1;have h2:k<(a.cs).length:=by omega
  have h3:k<(b.cs).length:=by omega
  (repeat' (first|exact rfl|((conv=>whnf);first|exact rfl|refine ⟨by kernel_rfl,?_⟩|exact ⟨rfl,rfl⟩|refine go0 ?_|(intro ep)|refine optS (mapR h2) ?_|refine optS (mapR h3) ?_|fail)))
  (conv=>whnf);refine ifB (fun g=>?_) (fun g=>?_)
  ·obtain e:=eqBy_not h2 h3 ((crs_dec _ _).symm.trans (bT g)) he;rw [e,Bool.false_and] at hRR;subst hRR
   (repeat' (first|exact rfl|((conv=>whnf);first|exact rfl|refine ⟨by kernel_rfl,?_⟩|exact ⟨rfl,rfl⟩|refine go0 ?_|(intro ep)|fail)))
  ·(repeat' (first|exact rfl|((conv=>whnf);first|exact rfl|refine ⟨by kernel_rfl,?_⟩|exact ⟨rfl,rfl⟩|refine go0 ?_|(intro ep)|fail)))
   (conv=>whnf);refine back_of ⟨k+1,by omega,eqBy_step h2 h3 ((crs_dec _ _).symm.trans (bF g)) he⟩ ⟨by (first|exact rfl|(simp (disch:=omega) only [wrapI];exact rfl)),rfl,by simp only;omega⟩
 simp only [decide_eq_false_iff_not] at h1;have e:=eqBy_end (f:=(fun a b=>decide (a=b))) hlenR1 (by omega) he;rw [e,Bool.true_and] at hRR
 (repeat' (first|exact rfl|((conv=>whnf);first|exact rfl|refine ⟨by kernel_rfl,?_⟩|exact ⟨rfl,rfl⟩|refine go0 ?_|(intro ep)|fail)))
 (conv=>whnf);refine loopM ok mixed (A:=A71) [2,3,43,44] [0,1] (S:=EqS (fun a b=>decide (a=b)) (a.steps) (b.steps) R2)
  (fr:=fun s=>frOf 0 59 [(2,.optr (.s 0) e0 2 0 0),(3,.optr (.s 1) e1 2 0 0),(43,.int .i64 a.steps.length),(44,.int .i64 (s.1:Int))])
  (h:=fun s=>⟨[.vec e0 [[crsA a.cs,intsA a.steps]],.vec e1 [[crsA b.cs,intsA b.steps]]],[]⟩) (μ:=fun s=>(a.steps).length-s.1) ⟨0,by omega,hR2⟩ rfl rfl ?_
 rintro ⟨k,hk,he⟩;show aexR _ _ _ (frOf 0 59 [(2,.optr (.s 0) e0 2 0 0),(3,.optr (.s 1) e1 2 0 0),(43,.int .i64 a.steps.length),(44,.int .i64 (k:Int))]) ⟨[.vec e0 [[crsA a.cs,intsA a.steps]],.vec e1 [[crsA b.cs,intsA b.steps]]],[]⟩ _
 (repeat' (first|exact rfl|((conv=>whnf);first|exact rfl|refine ⟨by kernel_rfl,?_⟩|exact ⟨rfl,rfl⟩|refine go0 ?_|(intro ep)|fail)))
 (conv=>whnf);refine ifB (fun h1=>?_) (fun h1=>?_)
 ·simp only [decide_eq_true_eq] at h1;have h2:k<(a.steps).length:=by omega
  have h3:k<(b.steps).length:=by omega
  (repeat' (first|exact rfl|((conv=>whnf);first|exact rfl|refine ⟨by kernel_rfl,?_⟩|exact ⟨rfl,rfl⟩|refine go0 ?_|(intro ep)|refine optS (intsR h2) ?_|refine optS (intsR h3) ?_|fail)))
  (conv=>whnf);refine ifB (fun g=>?_) (fun g=>?_)
  ·obtain e:=eqBy_not h2 h3 (by simpa using g) he;rw [e] at hRR;subst hRR
   (repeat' (first|exact rfl|((conv=>whnf);first|exact rfl|refine ⟨by kernel_rfl,?_⟩|exact ⟨rfl,rfl⟩|refine go0 ?_|(intro ep)|fail)))
  ·(repeat' (first|exact rfl|((conv=>whnf);first|exact rfl|refine ⟨by kernel_rfl,?_⟩|exact ⟨rfl,rfl⟩|refine go0 ?_|(intro ep)|fail)))
   (conv=>whnf);refine back_of ⟨k+1,by omega,eqBy_step h2 h3 (by simpa using g) he⟩ ⟨by (first|exact rfl|(simp (disch:=omega) only [wrapI];exact rfl)),rfl,by simp only;omega⟩
 simp only [decide_eq_false_iff_not] at h1;have e:=eqBy_end (f:=(fun a b=>decide (a=b))) hlenR2 (by omega) he;rw [e] at hRR;subst hRR
 (repeat' (first|exact rfl|((conv=>whnf);first|exact rfl|refine ⟨by kernel_rfl,?_⟩|exact ⟨rfl,rfl⟩|refine go0 ?_|(intro ep)|fail)))

theorem sh_rows {B E:Nat}:∀(l:List Evt),((l.map evR).map fun r=>r.map (AV.sh1 B E))=l.map evR
 | []=>rfl
 |e::r=>by rw [List.map_cons,List.map_cons,sh_rows r];rfl
structure Pc.Sm2 (p:Pc):Prop where
 cs:p.ins.cs.length≤100000
 st:p.ins.steps.length≤100000
 ev:p.evs.length≤100000
 sp:∀e∈p.evs,e.stops.length≤100000
theorem Pc.Sm.two {p:Pc} (h:p.Sm):p.Sm2:=⟨by have:=h.cs;omega,by have:=h.st;omega,by have:=h.ev;omega,fun e he=>by have:=h.sp e he;omega⟩
end Go.Ab.V
