/-
  What is proved here serves the law's text: each part says its own claim and its conditions. No condition is left open.
-/
import Derived.Stop.IfaceNil
import Derived.Test.YtohegnfjdfcebaaGreatDoorJM
import Derived.Test.YtohegnfjdfcebaaGreatDoorJJ
import Derived.Test.YtohegnfjdfcebaaGreatDoorKV
import Derived.Lib.AppendStr
import Derived.Test.YtohegnfjdfcebaaGreatDoorJA
import Derived.Shelf.Strings.Builder1
set_option maxHeartbeats 32000000
set_option maxRecDepth 100000
set_option linter.unusedSimpArgs false
set_option linter.unusedVariables false

namespace Go.Ab.V
open Go.Proofs
def colsS (y:Sy) (i:Ins) (L:List (List UInt8)) (n:Nat) (cl:Bool):Nat→Nat→List Evt→List (List Wr)→Option (List Evt×List (List Wr))
 |0,_,evs,nts=>some (evs,nts)
 |k+1,ln,evs,nts=>if nxO ln n cl=true then match colR y i (decide (evs.length=0)) (L.getD ln []) with
   |none=>none
   |some z=>colsS y i L n cl k (ln+1) (evs++[z.1]) (nts++[z.2])
  else none
def linN (S:List (List UInt8)):Nat:=if S.getD (S.length-1) []=[] then S.length-1 else S.length
def linC (S:List (List UInt8)):Bool:=decide (S.getD (S.length-1) []=[])
def readL (S:List (List UInt8)) (n:Nat) (cl:Bool):Option (Sy×Pc):=
 match hdS S n cl with
 |none=>none
 |some z=>if 402<n then none else match colsS z.1 z.2 S n cl (n-2) 2 [] [] with
  |none=>none
  |some x=>match hldL x.1 0 x.2 with
   |none=>none
   |some ev=>some (z.1,⟨z.2,ev⟩)
def readS (t:List UInt8):Option (Sy×Pc):=
 if 65536<t.length then none else readL (splitC 10 t) (linN (splitC 10 t)) (linC (splitC 10 t))
theorem colR_len {y:Sy} {i:Ins} {first:Bool} {t:List UInt8} {ev:Evt} {nt:List Wr} (h:colR y i first t=some (ev,nt)):ev.stops.length=nt.length∧nt.length≤2 * (splitC 32 t).length:=by
 have F:∀{bar:Bool} {v:Int} {d th tie:Bool} {ns:List Wr},colF i first bar v d th tie ns=some (ev,nt)→ev.stops.length=nt.length∧nt=ns:=by
  intro bar v d th tie ns h;unfold colF at h
  split at h
  ·cases h
  ·split at h
   ·cases h
   ·split at h
    ·cases h;exact ⟨by simp,rfl⟩
    ·cases h
 have B:∀{bar:Bool} {ws:List (List UInt8)},colB y i first bar ws=some (ev,nt)→ev.stops.length=nt.length∧nt.length≤2 * ws.length:=by
  intro bar ws h;unfold colB at h
  split at h
  ·cases h
  ·split at h
   ·cases h
   ·split at h
    ·cases h
    ·rename_i z hz;have h1:=colK_len hz;obtain ⟨h2,h3⟩:=F h;rw [List.length_drop] at h1;exact ⟨h2,by rw [h3];omega⟩
 unfold colR at h
 split at h
 ·obtain ⟨h1,h2⟩:=B h;rw [List.length_drop] at h2;exact ⟨h1,by omega⟩
 ·exact B h
def A9:Ann:=fun r=>match r with
 |6=>{ slots:=[(0,4)] }
 |7=>{ plan:=some (.one 0 (.one 1 (.one 3 (.br3 2 4 5 (.br 4 5 (.one 5 (.one 6 (.one 7 (.one 8 (.done))))) (.br 4 6 (.one 6 (.one 7 (.one 8 (.done)))) (.br 4 7 (.one 7 (.one 8 (.done))) (.one 4 (.one 8 (.done)))))) (.br 2 5 (.one 5 (.one 6 (.one 7 (.one 8 (.done))))) (.br 2 6 (.one 6 (.one 7 (.one 8 (.done)))) (.one 2 (.one 7 (.one 8 (.done)))))) (.br3 2 4 6 (.br 4 6 (.one 6 (.one 7 (.one 8 (.done)))) (.br 4 7 (.one 7 (.one 8 (.done))) (.one 4 (.one 8 (.done))))) (.br 2 6 (.one 6 (.one 7 (.one 8 (.done)))) (.one 2 (.one 7 (.one 8 (.done))))) (.one 2 (.br 4 7 (.one 7 (.one 8 (.done))) (.one 4 (.one 8 (.done)))))))))) }
 |_=>{}
theorem und50:∃fs,C.P.underlying 50=some (.struct fs):=by
 obtain ⟨fs,h,_⟩:=ok.tok 50 _ rfl |>.struct rfl;exact ⟨fs,h⟩
theorem ifc20:C.P.isIface 20=true:=by kernel_rfl
theorem run_isnil {σ:Sg} {ρ:Operand→Value} {ev:Operand→AV} (hr:OpRel σ ev ρ) (hc:ev (.const .nilIface)= .nili) {o:Oper} {x:Operand} {t2:TypeId} {b:Bool} (hop:o.op= .binOp .eql 20 x (.const .nilIface) t2) (he:if b=true then ev x= .nili else ∃T V,ev x= .ifc T V) (w:World):
  ∃v,(execOp ρ o).run C.P w= .ok (.value v) w∧VRel σ (.bool b) v:=by
 have hv:=hr x;have hcr:=hr (.const .nilIface);rw [hc] at hcr;generalize hx2:ρ (.const .nilIface)=u2 at hcr;cases hcr;refine ⟨.bool b,?_,.bool⟩;obtain ⟨dst,op,type,pos,after,guard⟩:=o;simp only at hop;subst hop;cases b with
 |true=>
  rw [if_pos rfl] at he;rw [he] at hv;generalize hx:ρ x=u at hv;cases hv;simp only [execOp,hx,hx2,eqGuard,Sem.run_bind,run_eql_nil_nil_at (P:=C.P) (t:=20) (h:=ifc20),run_eql_iface_nil (P:=C.P) (t:=20) (h:=ifc20)];simp
 |false=>
  rw [if_neg (by simp)] at he;obtain ⟨T,V,he⟩:=he;rw [he] at hv;generalize hx:ρ x=u at hv;cases hv;simp only [execOp,hx,hx2,eqGuard,Sem.run_bind,run_eql_nil_nil_at (P:=C.P) (t:=20) (h:=ifc20),run_eql_iface_nil (P:=C.P) (t:=20) (h:=ifc20)];simp
theorem rcv_nil (e0 e1 e2 e3:Nat) (h:Heap):Rcv C.P 9 [.optr (.s 0) e0 1 0 0,.optr (.s 1) e1 3 0 0,.optr (.s 2) e2 1 0 0,.optr (.s 3) e3 1 0 0] h .returning .returning (fun h'=>h'=heap0 h 0):=by
 refine rcv_of ok 0 (t:=7) (x:=.nili) Tryz.func9 rfl rfl rfl rfl rfl rfl rfl rfl rfl (fun c₀ cs hm=>?_) ?_
 ·simp only [recoverD,hm];exact ⟨trivial,trivial⟩
 ·refine wd_block (wd_seq (wd_head ok (slot:=fun _=>.s 0) (rest:=[]) (a:=.bool true) rfl rfl rfl (by simp) (fun σ ρ hr w=>run_isnil (b:=true) hr rfl rfl (by rw [if_pos rfl];rfl) w) ?_));refine ⟨rfl,wd_cond (b:=true) rfl (wd_text ok (slot:=fun _=>.s 0) ?_)⟩;exact ⟨rfl,.inl rfl,rfl⟩
theorem rcv_flt (e0 e1 e2 e3:Nat) {a0 a1 a2 a3 a4 a5:AV} {l e:Int}:Rcv C.P 9 [.optr (.s 0) e0 1 0 0,.optr (.s 1) e1 3 0 0,.optr (.s 2) e2 1 0 0,.optr (.s 3) e3 1 0 0] ⟨[.vec e0 [[a0]],.vec e1 [[a1,a2,a3]],.vec e2 [[a4]],.vec e3 [[a5]]],[]⟩
  (.panicking [{ v:=.iface 50 (.agg #[.int .i64 l,.int .i64 e]),recovered:=false }]) (.panicking [{ v:=.iface 50 (.agg #[.int .i64 l,.int .i64 e]),recovered:=true }])
  (fun h'=>∃o,h'=⟨[.vec e0 [[.int .u8 0]],.vec e1 [[.nils,.nils,.nils]],.vec e2 [[.int .i64 l]],.vec e3 [[.int .i64 e]],o],[]⟩):=by
 refine rcv_of ok 1 (t:=7) (x:=.ifc 50 (.agg #[.int .i64 l,.int .i64 e])) Tryz.func9 rfl rfl rfl rfl rfl rfl rfl rfl rfl (fun c₀ cs hm=>?_) ?_
 ·simp only [recoverD,hm];exact ⟨trivial,fun σ=>.ifc⟩
 ·obtain ⟨fs,hfs⟩:=und50;refine wd_block (wd_seq (wd_head ok (slot:=fun _=>.s 0) (rest:=[]) (a:=.bool false) rfl rfl rfl (by simp) (fun σ ρ hr w=>run_isnil (b:=false) hr rfl rfl (by rw [if_neg (by simp)];exact ⟨_,_,rfl⟩) w) ?_));refine ⟨rfl,wd_cond (b:=false) rfl (wd_seq (wd_head ok (rest:=[1,2]) (slot:=fun _=>.s 0) (a:=.tup [.agg [.int .i64 l,.int .i64 e],.bool true]) rfl rfl rfl (by simp) (fun σ ρ hr w=>run_assert hr rfl rfl hfs ?_ w) ?_))⟩
  ·exact .agg (vs:=#[.int .i64 l,.int .i64 e]) (by rfl) (by simp [Value.oneCell']) fun i c v x y=>by
    match i,x,y with
    |0,x,y=>cases x;cases y;exact .int
    |1,x,y=>cases x;cases y;exact .int
  refine ⟨rfl,wd_cond (b:=true) rfl (wd_seq ((wd_regR ok mixed (A:=A9 6) (K:=fun fr h=>WD C _ fr h _) ?_).mono fun e fr h k=>k))⟩
  (repeat' (first|exact rfl|((conv=>whnf);first|exact rfl|exact ⟨rfl,rfl⟩|refine go1 ?_|(intro ep)|(refine ifB ?_ ?_<;>intro hb<;>(try simp only [qs] at hb)<;>(try simp (disch:=omega) only [wrapI] at hb)<;>(try (exfalso;omega)))|fail)))
  refine (wd_regR ok mixed (A:=A9 7) (K:=fun fr h'=>∃o,h'=⟨[.vec e0 [[.int .u8 0]],.vec e1 [[.nils,.nils,.nils]],.vec e2 [[.int .i64 l]],.vec e3 [[.int .i64 e]],o],[]⟩) ?_).mono fun e fr h k=>⟨k.1,.inl rfl,k.2⟩
  (repeat' (first|exact rfl|exact ⟨_,rfl⟩|((conv=>whnf);first|exact rfl|exact ⟨rfl,rfl⟩|refine go1 ?_|(intro ep)|refine ⟨?_,?_⟩|(refine ifB ?_ ?_<;>intro hb<;>(try simp only [qs] at hb)<;>(try simp (disch:=omega) only [wrapI] at hb)<;>(try (exfalso;omega)))|fail)))

def A5:Ann:=fun r=>match r with
 |0=>{ slots:=[(0,0),(1,1),(2,2),(3,3)] }
 |4=>{ slots:=[(3,4)] }
 |8=>{ pan:=[1] }
 |11=>{ pan:=[1] }
 |13=>{ pan:=[2,3] }
 |14=>{ pan:=[1] }
 |15=>{ plan:=some (.one 0 (.one 1 (.one 2 (.one 3 (.one 4 (.one 5 (.one 6 (.br 7 8 (.one 8 (.one 9 (.one 10 (.one 11 .done)))) (.one 7 (.one 9 (.one 10 (.one 11 .done)))))))))))) }
 |_=>{}
noncomputable def bod5:Code:=Tryz.f5.body.getD .skip
noncomputable def rest5:Code:=sndC (sndC (sndC bod5))
structure Bx (e0 e1 e2 e3:Nat) (fr:List AV):Prop where
 a:fr.getD 2 .u= .optr (.s 0) e0 1 0 0
 b:fr.getD 3 .u= .optr (.s 1) e1 3 0 0
 c:fr.getD 4 .u= .optr (.s 2) e2 1 0 0
 d:fr.getD 5 .u= .optr (.s 3) e3 1 0 0
theorem readL_ln {S:List (List UInt8)} {n:Nat} {cl:Bool} {z:Sy×Ins} (h:hdS S n cl=some z):2≤n:=by
 unfold hdS at h
 split at h
 ·split at h
  ·cases h
  ·split at h
   ·split at h
    ·rename_i h1;unfold nxO at h1;simp only [Bool.and_eq_true,decide_eq_true_eq] at h1;omega
    ·cases h
   ·cases h
 ·cases h
theorem splitC_tot (c:UInt8) (t:List UInt8) (h:t.length≤65536):1≤(splitC c t).length∧(splitC c t).length≤65537∧∀x∈splitC c t,x.length≤65536:=by
 have h1:=splitC_len c t;have h2:=List.count_le_length (a:=c) (l:=t);exact ⟨by omega,by omega,fun x hx=>Nat.le_trans (splitC_sum c t x hx) h⟩
theorem chkIn_len {i:Ins} (h:chkIn i=0):i.cs.length≤14∧i.steps.length≤18:=by
 unfold chkIn at h
 split at h
 ·cases h
 ·omega
theorem prsI_len {t:List UInt8} {i:Ins} (h:prsI t= .inl i):chkIn i=0:=by
 unfold prsI at h
 split at h
 ·cases h
 ·unfold prsW at h
  split at h
  ·cases h
  ·split at h
   ·cases h
   ·split at h
    ·rename_i hc;cases h;exact hc
    ·cases h
theorem hdS_len {S:List (List UInt8)} {n:Nat} {cl:Bool} {y:Sy} {i:Ins} (h:hdS S n cl=some (y,i)):chkIn i=0:=by
 unfold hdS at h
 split at h
 ·split at h
  ·cases h
  ·split at h
   ·split at h
    ·split at h
     ·rename_i hp;cases h;exact prsI_len hp
     ·cases h
    ·cases h
   ·cases h
 ·cases h
theorem shpE_snoc (l:List Evt) (e:Evt):shpE (l++[e])=shpE l++[e.stops.length]:=by simp [shpE]
theorem hldN_shp:∀{ws:List Wr} {ev ev':List Evt} {i k:Nat},hldN ev i k ws=some ev'→shpE ev'=shpE ev
 | [],ev,ev',i,k,h=>by cases h;rfl
 |w::r,ev,ev',i,k,h=>by
  rw [hldN] at h
  split at h
  ·cases h
  ·rename_i e1 h1;rw [hldN_shp h,hldW_shp h1]
theorem hldL_shp:∀{ns:List (List Wr)} {ev ev':List Evt} {i:Nat},hldL ev i ns=some ev'→shpE ev'=shpE ev
 | [],ev,ev',i,h=>by cases h;rfl
 |w::r,ev,ev',i,h=>by
  rw [hldL] at h
  split at h
  ·cases h
  ·rename_i e1 h1;rw [hldL_shp h,hldN_shp h1]
structure RdI (y:Sy) (i:Ins) (S:List (List UInt8)) (n:Nat) (cl:Bool) (R:Option (List Evt×List (List Wr))) (ln:Nat) (evs:List Evt) (nts:List (List Wr)):Prop where
 lo:2≤ln
 hi:ln≤n
 le:evs.length=ln-2
 nl:nts.length=ln-2
 sh:shpE evs=nts.map List.length
 sm:∀l∈nts,l.length≤200000
 eq:R=colsS y i S n cl (n-ln) ln evs nts
theorem rest5_wk {e0 e1 e2 e3:Nat} (t:List UInt8) (ht:t.length≤65536) {K:AE→List AV→Heap→Prop}
  (hK:∀y i ev,readS t=some (y,⟨i,ev⟩)→∀fr e5 eps q tl,Bx e0 e1 e2 e3 fr→K .ret fr ⟨[.vec e0 [[.int .u8 y.n]],.vec e1 [[crsA i.cs,intsA i.steps,.oslc (.s 5) e5 6 0 ev.length false]],.vec e2 [[.int .i64 0]],.vec e3 [[.int .i64 0]],q,.vec e5 (rowsD memL 0 eps 0 ev)]++tl,objsD memL eps 0 ev⟩)
  (hP:readS t=none→∀T V fr h',Bx e0 e1 e2 e3 fr→PanOk (.vec e0 [[.int .u8 0]]) (.vec e1 [[.nils,.nils,.nils]]) (.vec e2 [[.int .i64 0]]) (.vec e3 [[.int .i64 0]]) T V h'→K (.pan T V) fr h'):
  WK C rest5 (frOf 0 80 [(0,.str t),(2,.optr (.s 0) e0 1 0 0),(3,.optr (.s 1) e1 3 0 0),(4,.optr (.s 2) e2 1 0 0),(5,.optr (.s 3) e3 1 0 0)]) ⟨[.vec e0 [[.int .u8 0]],.vec e1 [[.nils,.nils,.nils]],.vec e2 [[.int .i64 0]],.vec e3 [[.int .i64 0]],.hole,.hole,.hole],[]⟩ K:=by
 have hsp:=split_spec t 10 (by omega);obtain ⟨hS1,hS2,hS3⟩:=splitC_tot 10 t ht;unfold readS at hK hP;rw [if_neg (by omega)] at hK hP;generalize splitC 10 t=S at hsp hS1 hS2 hS3 hK hP;refine wk_seq (wkA ok mixed (A:=A5) ?_)
 (repeat' (first|exact rfl|((conv=>whnf);first|(refine ⟨_,hsp,?_⟩)|exact rfl|exact ⟨rfl,rfl⟩|refine go1 ?_|(intro ep)|(refine ifB ?_ ?_<;>intro hb<;>(try simp only [qs] at hb)<;>(try simp (disch:=omega) only [wrapI] at hb)<;>(try (exfalso;omega)))|fail)))
 obtain ⟨e,he⟩:∃e,e=ep:=⟨_,rfl⟩;subst he;(conv=>whnf);obtain ⟨L0,hL0⟩:∃L,L=S.getD (S.length-1) []:=⟨_,rfl⟩;obtain ⟨n,hn⟩:∃n,n=linN S:=⟨_,rfl⟩;obtain ⟨cl,hcl⟩:∃cl,cl=linC S:=⟨_,rfl⟩;rw [←hn,←hcl] at hK hP;unfold linN at hn;unfold linC at hcl;rw [←hL0] at hn hcl;have hnS:n≤S.length:=by rw [hn];split<;>omega
 refine wk_cut [2,3,4,5,6] [0,1,2,3,4,5,6] (S:=Unit)
  (fun _=>frOf 0 80 [(2,.optr (.s 0) e0 1 0 0),(3,.optr (.s 1) e1 3 0 0),(4,.optr (.s 2) e2 1 0 0),(5,.optr (.s 3) e3 1 0 0),(6,.optr (.s 4) e 9 0 0)])
  (fun _=>⟨[.vec e0 [[.int .u8 0]],.vec e1 [[.nils,.nils,.nils]],.vec e2 [[.int .i64 0]],.vec e3 [[.int .i64 0]],.vec e [[.int .u8 0,.nili,.nils,.nils,.nils,.nils,.int .i64 0,.lslc 1 (strR S) 0 n false,.bool cl]],.hole,.hole],[]⟩) (wkA ok mixed (A:=A5) ?_) fun _=>?_
 ·have hw1:IntKind.i64.wrap ((S.length:Int)-1)=((S.length-1:Nat):Int):=by simp (disch:=omega) only [wrapI];omega
  have hm:(strR S)[0+((S.length-1:Nat):Int).toNat]? =some [.str L0]:=by
   rw [Nat.zero_add,Int.toNat_natCast];unfold strR;rw [List.getElem?_map,hL0,List.getD_eq_getElem?_getD,List.getElem?_eq_getElem (show S.length-1<S.length by omega)];rfl
  by_cases hl:L0=[]
  ·rw [if_pos hl] at hn;rw [decide_eq_true hl] at hcl;subst hn hcl
   (repeat' (first|exact rfl|((conv=>whnf);first|(refine optS hm ?_)|(rw [hw1])|(exact absurd hl hb)|(exact back_of () ⟨rfl,rfl⟩)|exact rfl|exact ⟨rfl,rfl⟩|refine go1 ?_|(intro ep)|(refine ifB ?_ ?_<;>intro hb<;>(try simp only [qs] at hb)<;>(try simp (disch:=omega) only [wrapI] at hb)<;>(try (exfalso;omega)))|fail)))
  ·rw [if_neg hl] at hn;rw [decide_eq_false hl] at hcl;subst hn hcl
   (repeat' (first|exact rfl|((conv=>whnf);first|(refine optS hm ?_)|(rw [hw1])|(exact absurd hb hl)|(exact back_of () ⟨rfl,rfl⟩)|exact rfl|exact ⟨rfl,rfl⟩|refine go1 ?_|(intro ep)|(refine ifB ?_ ?_<;>intro hb<;>(try simp only [qs] at hb)<;>(try simp (disch:=omega) only [wrapI] at hb)<;>(try (exfalso;omega)))|fail)))
 ·obtain ⟨R0,hR⟩:∃R,R=readL S n cl:=⟨_,rfl⟩;rw [←hR] at hK hP;unfold readL at hR;have hx6:∀x∈S,x.length≤1000000:=fun x hx=>Nat.le_trans (hS3 x hx) (by omega);cases hhd:hdS S n cl with
  |none=>
   rw [hhd] at hR;dsimp only at hR;have hp:=hP hR;refine wk_seq (wkA ok mixed (A:=A5) ?_)
   (repeat' (first|exact rfl|((conv=>whnf);first|(exact ACallsP.part 5 (by exact rfl) (by exact rfl) (by exact rfl) (head11b hnS (by omega) hx6 (K:=fun _ _=>False) (KP:=PanOk (.vec e0 [[.int .u8 0]]) (.vec e1 [[.nils,.nils,.nils]]) (.vec e2 [[.int .i64 0]]) (.vec e3 [[.int .i64 0]])) (fun y i rest h=>by rw [hhd] at h;cases h) fun _ _ _ _ x=>x) (fun _ _ h=>h.elim) fun t v h1 h=>hp t v _ _ ⟨rfl,rfl,rfl,rfl⟩ ((h.part (Nat.le_of_ble_eq_true rfl)).trunc (Nat.le_of_ble_eq_true rfl)))|exact rfl|exact ⟨rfl,rfl⟩|refine go1 ?_|(intro ep)|(refine ifB ?_ ?_<;>intro hb<;>(try simp only [qs] at hb)<;>(try simp (disch:=omega) only [wrapI] at hb)<;>(try (exfalso;omega)))|fail)))
  |some z=>
   have hn2:=readL_ln hhd;obtain ⟨y,i⟩:=z;rw [hhd] at hR;dsimp only at hR;refine wk_seq (wkA ok mixed (A:=A5) ?_)
   (repeat' (first|exact rfl|((conv=>whnf);first|(refine ACallsP.part 5 (by exact rfl) (by exact rfl) (by exact rfl) (head11b hnS (by omega) hx6 (K:=fun r h=>∃rest,r= .tup []∧h=⟨[.vec e0 [[.int .u8 0]],.vec e1 [[.nils,.nils,.nils]],.vec e2 [[.int .i64 0]],.vec e3 [[.int .i64 0]],.vec e [[.int .u8 y.n,y.a,crsA i.cs,intsA i.steps,.nils,.nils,.int .i64 2,.lslc 1 (strR S) 0 n false,.bool cl]]]++rest,[]⟩) (KP:=fun _ _ _=>False) (fun y' i' rest h=>by rw [hhd] at h;cases h;exact ⟨rest,rfl,rfl⟩) (fun h=>by rw [hhd] at h;cases h)) ?_ (fun _ _ _ h=>h.elim))|(rintro r h1 ⟨rest,rfl,rfl⟩)|exact rfl|exact ⟨rfl,rfl⟩|refine go1 ?_|(intro ep)|(refine ifB ?_ ?_<;>intro hb<;>(try simp only [qs] at hb)<;>(try simp (disch:=omega) only [wrapI] at hb)<;>(try (exfalso;omega)))|fail)))
   (conv=>whnf);by_cases hbig:402<n
   ·rw [if_pos hbig] at hR;have hp:=hP hR;refine wk_seq (wkA ok mixed (A:=A5) ?_)
    (repeat' (first|exact rfl|((conv=>whnf);first|(exact fail12 2 (by decide) fun t v h' hx=>hp t v _ _ ⟨rfl,rfl,rfl,rfl⟩ (hx.trunc (Nat.le_of_ble_eq_true rfl)))|exact rfl|exact ⟨rfl,rfl⟩|refine go1 ?_|(intro ep)|(refine ifB ?_ ?_<;>intro hb<;>(try simp only [qs] at hb)<;>(try simp (disch:=omega) only [wrapI] at hb)<;>(try (exfalso;omega)))|fail)))
   ·rw [if_neg hbig] at hR;refine wk_seq (wkA ok mixed (A:=A5) ?_)
    (repeat' (first|exact rfl|((conv=>whnf);first|exact rfl|exact ⟨rfl,rfl⟩|refine go1 ?_|(intro ep)|(refine ifB ?_ ?_<;>intro hb<;>(try simp only [qs] at hb)<;>(try simp (disch:=omega) only [wrapI] at hb)<;>(try (exfalso;omega)))|fail)))
    (conv=>whnf);refine wk_seq (wkA ok mixed (A:=A5) ?_)
    (repeat' (first|exact rfl|((conv=>whnf);first|exact rfl|exact ⟨rfl,rfl⟩|refine go1 ?_|(intro ep)|fail)))
    (conv=>whnf);obtain ⟨hi14,hi18⟩:=chkIn_len (hdS_len hhd);obtain ⟨R1,hR1⟩:∃R,R=colsS y i S n cl (n-2) 2 [] []:=⟨_,rfl⟩;rw [←hR1] at hR;refine wk_liftC 4 5 e 6 0 4 (by decide) rfl rfl rfl fun e5=>?_;(conv=>whnf);refine wk_liftC 4 6 e 1 0 5 (by decide) rfl rfl rfl fun e6=>?_;(conv=>whnf);have hq:∀o∈[.vec e0 [[.int .u8 0]],.vec e1 [[.nils,.nils,.nils]],.vec e2 [[.int .i64 0]],.vec e3 [[.int .i64 0]]],noO o:=by
     intro o ho;simp only [List.mem_cons,List.not_mem_nil,or_false] at ho
     rcases ho with rfl|rfl|rfl|rfl<;>(intro a ha;simp only [celO,List.flatten_cons,List.flatten_nil,List.append_nil,List.mem_cons,List.not_mem_nil,or_false] at ha;rcases ha with rfl|rfl|rfl<;>rfl)
    refine loopYP ok mixed (A:=A5) [2,3,4,5,6] [0,1,2,3,4,5,6] (S:={ z:(Nat×List Evt×List (List Wr))×Nat×Nat×(Nat→Nat) // RdI y i S n cl R1 z.1.1 z.1.2.1 z.1.2.2 })
     (fr:=fun s=>frOf 0 80 [(2,.optr (.s 0) e0 1 0 0),(3,.optr (.s 1) e1 3 0 0),(4,.optr (.s 2) e2 1 0 0),(5,.optr (.s 3) e3 1 0 0),(6,.optr (.s 4) e 9 0 0)])
     (h:=fun s=>⟨[.vec e0 [[.int .u8 0]],.vec e1 [[.nils,.nils,.nils]],.vec e2 [[.int .i64 0]],.vec e3 [[.int .i64 0]],.vec e [[.int .u8 y.n,y.a,crsA i.cs,intsA i.steps,.oslc (.s 5) s.1.2.1 6 0 s.1.1.2.1.length false,.oslc (.s 6) s.1.2.2.1 1 0 s.1.1.2.2.length false,.int .i64 (s.1.1.1:Int),.lslc 1 (strR S) 0 n false,.bool cl]],.vec s.1.2.1 (rowsD memL 0 s.1.2.2.2 0 s.1.1.2.1),.vec s.1.2.2.1 (s.1.1.2.2.map ntR)],objsD memL s.1.2.2.2 0 s.1.1.2.1⟩) (μ:=fun s=>n-s.1.1.1) ⟨((2,[],[]),e5,e6,fun _=>0),⟨Nat.le_refl _,hn2,rfl,rfl,rfl,(by intro l hl;cases hl),hR1⟩⟩ ?_ ?_
     [2,3,4,5,6] [0,1,2,3,4,5,6] (S':={ z:(List Evt×List (List Wr))×Nat×Nat×(Nat→Nat) // R1=some z.1∧RdI y i S n cl R1 n z.1.1 z.1.2 }) (X:=fun _=>0) (frX:=fun s=>frOf 0 80 [(2,.optr (.s 0) e0 1 0 0),(3,.optr (.s 1) e1 3 0 0),(4,.optr (.s 2) e2 1 0 0),(5,.optr (.s 3) e3 1 0 0),(6,.optr (.s 4) e 9 0 0)])
     (hX:=fun s=>⟨[.vec e0 [[.int .u8 0]],.vec e1 [[.nils,.nils,.nils]],.vec e2 [[.int .i64 0]],.vec e3 [[.int .i64 0]],.vec e [[.int .u8 y.n,y.a,crsA i.cs,intsA i.steps,.oslc (.s 5) s.1.2.1 6 0 s.1.1.1.length false,.oslc (.s 6) s.1.2.2.1 1 0 s.1.1.2.length false,.int .i64 (n:Int),.lslc 1 (strR S) 0 n false,.bool cl]],.vec s.1.2.1 (rowsD memL 0 s.1.2.2.2 0 s.1.1.1),.vec s.1.2.2.1 (s.1.1.2.map ntR)],objsD memL s.1.2.2.2 0 s.1.1.1⟩)
     [] [] (S2:={ x:Nat // False }) (frR:=fun s=>frOf 0 80 []) (hR:=fun s=>⟨[],[]⟩) (fun T V fr h=>R1=none∧Bx e0 e1 e2 e3 fr∧PanOk (.vec e0 [[.int .u8 0]]) (.vec e1 [[.nils,.nils,.nils]]) (.vec e2 [[.int .i64 0]]) (.vec e3 [[.int .i64 0]]) T V h) ?_ ?_ ?_ ?_
    ·exact rfl
    ·exact rfl
    ·rintro ⟨⟨⟨ln,evs,nts⟩,e5,e6,eps⟩,hI⟩;dsimp only at hI;show aexR _ _ _ (frOf 0 80 [(2,.optr (.s 0) e0 1 0 0),(3,.optr (.s 1) e1 3 0 0),(4,.optr (.s 2) e2 1 0 0),(5,.optr (.s 3) e3 1 0 0),(6,.optr (.s 4) e 9 0 0)]) ⟨[.vec e0 [[.int .u8 0]],.vec e1 [[.nils,.nils,.nils]],.vec e2 [[.int .i64 0]],.vec e3 [[.int .i64 0]],.vec e [[.int .u8 y.n,y.a,crsA i.cs,intsA i.steps,.oslc (.s 5) e5 6 0 evs.length false,.oslc (.s 6) e6 1 0 nts.length false,.int .i64 (ln:Int),.lslc 1 (strR S) 0 n false,.bool cl]],.vec e5 (rowsD memL 0 eps 0 evs),.vec e6 (nts.map ntR)],objsD memL eps 0 evs⟩ _;have hR2:=hI.eq;have hhi:=hI.hi;have hlo:=hI.lo;have hle:=hI.le;have hnl:=hI.nl
     (repeat' (first|exact rfl|((conv=>whnf);first|exact rfl|exact ⟨rfl,rfl⟩|refine go1 ?_|(intro ep)|fail)))
     refine ifB (fun g1=>?_) (fun g1=>?_)
     ·simp only [decide_eq_true_eq] at g1;have hln:ln<n:=by omega
      rw [show n-ln=(n-(ln+1))+1 by omega,colsS] at hR2;have hlt:(S.getD ln []).length≤65536:=by
       rw [List.getD_eq_getElem?_getD];cases hq:S[ln]? with
       |none=>simp
       |some x=>exact hS3 x (List.mem_of_getElem? hq)
      by_cases hnx:nxO ln n cl=true
      ·rw [if_pos hnx] at hR2;obtain ⟨RC,hRC⟩:∃R,R=colR y i (decide (evs.length=0)) (S.getD ln []):=⟨_,rfl⟩;rw [←hRC] at hR2;cases RC with
       |none=>
        dsimp only at hR2
        (repeat' (first|exact rfl|((conv=>whnf);first|(refine next14 (ln:=ln) hnS (by omega) (by omega) (fun _=>?_) (fun h=>by rw [hnx] at h;cases h))|(exact column13 y i evs nts eps _ (by omega) (by omega) (by omega) (by omega) hq (fun ev nt h=>by rw [←hRC] at h;cases h) fun _ T V h' hx=>⟨hR2,⟨rfl,rfl,rfl,rfl⟩,hx.trunc (Nat.le_of_ble_eq_true rfl)⟩)|exact rfl|exact ⟨rfl,rfl⟩|refine go1 ?_|(intro ep)|(refine ifB ?_ ?_<;>intro hb<;>(try simp only [qs] at hb)<;>(try simp (disch:=omega) only [wrapI] at hb)<;>(try (exfalso;omega)))|fail)))
       |some z=>
        obtain ⟨ev,nt⟩:=z;dsimp only at hR2;obtain ⟨hc1,hc2⟩:=colR_len hRC.symm;have hc3:=(splitC_tot 32 _ hlt).2.1
        (repeat' (first|exact rfl|((conv=>whnf);first|(refine next14 (ln:=ln) hnS (by omega) (by omega) (fun _=>?_) (fun h=>by rw [hnx] at h;cases h))|(refine column13 y i evs nts eps _ (by omega) (by omega) (by omega) (by omega) hq (fun ev' nt' h e5 e6 eps rest=>?_) (fun h=>by rw [←hRC] at h;cases h))|exact rfl|exact ⟨rfl,rfl⟩|refine go1 ?_|(intro ep)|fail)))
        rw [←hRC] at h;cases h
        (repeat' (first|exact rfl|((conv=>whnf);first|exact rfl|exact ⟨rfl,rfl⟩|refine go1 ?_|(intro ep)|fail)))
        (conv=>whnf);refine back_of ⟨((ln+1,evs++[ev],nts++[nt]),e5,e6,eps),⟨by dsimp only;omega,by dsimp only;omega,by dsimp only;rw [List.length_append,List.length_singleton];omega,by dsimp only;rw [List.length_append,List.length_singleton];omega,?_,?_,hR2⟩⟩ ⟨rfl,?_,by dsimp only;omega⟩
        ·dsimp only;rw [shpE_snoc,List.map_append,hI.sh,hc1];rfl
        ·dsimp only;intro l hl
         rcases List.mem_append.1 hl with hl|hl
         ·exact hI.sm l hl
         ·rw [List.mem_singleton.1 hl];omega
        ·dsimp only;rw [List.length_append,List.length_append];rfl
      ·rw [if_neg hnx] at hR2;have hnx2:nxO ln n cl=false:=by simpa using hnx
       (repeat' (first|exact rfl|((conv=>whnf);first|(exact next14 (ln:=ln) hnS (by omega) (by omega) (fun h=>absurd h hnx) fun _ T V h' hx=>⟨hR2,⟨rfl,rfl,rfl,rfl⟩,hx.trunc (Nat.le_of_ble_eq_true rfl)⟩)|exact rfl|exact ⟨rfl,rfl⟩|refine go1 ?_|(intro ep)|(refine ifB ?_ ?_<;>intro hb<;>(try simp only [qs] at hb)<;>(try simp (disch:=omega) only [wrapI] at hb)<;>(try (exfalso;omega)))|fail)))
     ·simp only [decide_eq_false_iff_not] at g1;have hln:ln=n:=by omega
      subst hln;rw [Nat.sub_self,colsS] at hR2
      (repeat' (first|exact rfl|((conv=>whnf);first|exact rfl|exact ⟨rfl,rfl⟩|refine go1 ?_|(intro ep)|fail)))
      (conv=>whnf);exact back_of ⟨((evs,nts),e5,e6,eps),hR2,hI⟩ ⟨rfl,rfl,rfl⟩
    ·rintro T V fr h ⟨h1,h2,h3⟩;rw [h1] at hR;exact hP hR T V fr h h2 h3
    ·rintro ⟨_,h⟩;exact h.elim
    ·rintro ⟨⟨⟨evs,nts⟩,e5,e6,eps⟩,h1,hI⟩;dsimp only at h1 hI;rw [h1] at hR;dsimp only at hR;have hle:=hI.le;have hnl:=hI.nl;obtain ⟨N,hN⟩:∃N,N=n-2:=⟨_,rfl⟩;rw [←hN] at hle hnl;dsimp only;rw [hle,hnl];obtain ⟨RH,hRH⟩:∃R,R=hldL evs 0 nts:=⟨_,rfl⟩;rw [←hRH] at hR;refine wk_seq (wkA ok mixed (A:=A5) ?_);cases RH with
     |none=>
      dsimp only at hR;have hp:=hP hR
      (repeat' (first|exact rfl|((conv=>whnf);first|(exact holds15b y i evs nts eps (by omega) (by omega) hle hnl (by omega) hI.sh hI.sm (fun ev h=>by rw [←hRH] at h;cases h) fun _ T V h' hx=>hp T V _ _ ⟨rfl,rfl,rfl,rfl⟩ (hx.trunc (Nat.le_of_ble_eq_true rfl)))|exact rfl|exact ⟨rfl,rfl⟩|refine go1 ?_|(intro ep)|(refine ifB ?_ ?_<;>intro hb<;>(try simp only [qs] at hb)<;>(try simp (disch:=omega) only [wrapI] at hb)<;>(try (exfalso;omega)))|fail)))
     |some ev=>
      dsimp only at hR;have hk:=hK y i ev hR;rw [show ev.length=N by rw [shp_len (hldL_shp hRH.symm),hle]] at hk
      (repeat' (first|exact rfl|((conv=>whnf);first|(refine holds15b y i evs nts eps (by omega) (by omega) hle hnl (by omega) hI.sh hI.sm (fun ev' h ln rest=>?_) (fun h=>by rw [←hRH] at h;cases h))|exact rfl|exact ⟨rfl,rfl⟩|refine go1 ?_|(intro ep)|fail)))
      rw [←hRH] at h;cases h
      (repeat' (first|exact rfl|((conv=>whnf);first|exact rfl|exact ⟨rfl,rfl⟩|refine go1 ?_|(intro ep)|fail)))
      (conv=>whnf);refine wk_seq (wkA ok mixed (A:=A5) ?_)
      (repeat' (first|exact rfl|((conv=>whnf);first|exact rfl|exact ⟨rfl,rfl⟩|refine go1 ?_|(intro ep)|refine ⟨?_,?_⟩|fail)))
      all_goals (conv=>whnf)
      all_goals refine wkA ok mixed (A:=A5) ?_
      all_goals (conv=>whnf)
      all_goals exact hk _ _ _ _ _ ⟨rfl,rfl,rfl,rfl⟩

theorem res5 {e0 e1 e2 e3:Nat} {fr:List AV} {h:Heap} {a b c d x z:AV} {K:AV→Heap→Prop} (hb:Bx e0 e1 e2 e3 fr) (h0:h[Id.s 0]? =some (.vec e0 [[a]])) (h1:h[Id.s 1]? =some (.vec e1 [[b,c,d]])) (h2:h[Id.s 2]? =some (.vec e2 [[x]])) (h3:h[Id.s 3]? =some (.vec e3 [[z]]))
  (hk:K (.tup [a,.agg [b,c,d],x,z]) h):resR C.ti Tryz.f5.results.toList fr h fun vs=>retV vs fun v=>K v h:=by
 rw [resR_eq];show readK C.ti (evl fr) h (.load 22 (.tmp 2)) fun v0=>readK C.ti (evl fr) h (.load 30 (.tmp 3)) fun v1=>readK C.ti (evl fr) h (.load 3 (.tmp 4)) fun v2=>readK C.ti (evl fr) h (.load 31 (.tmp 5)) fun v3=>K (.tup [v0,v1,v2,v3]) h;unfold readK;simp only [evl,hb.a,hb.b,hb.c,hb.d,h0,h1,h2,h3];exact ⟨trivial,trivial,trivial,trivial,hk⟩
theorem read5 (t:List UInt8) {K:AV→Heap→Prop}
  (hK:∀y i ev,readS t=some (y,⟨i,ev⟩)→∀(h:Heap) e5 eps,h[Id.s 5]? =some (.vec e5 (rowsD memL 0 eps 0 ev))→h.dy=objsD memL eps 0 ev→
   K (.tup [.int .u8 y.n,.agg [crsA i.cs,intsA i.steps,.oslc (.s 5) e5 6 0 ev.length false],.int .i64 0,.int .i64 0]) h)
  (hN:readS t=none→∀(l e:Int) (h:Heap),e≠0→K (.tup [.int .u8 0,.agg [.nils,.nils,.nils],.int .i64 l,.int .i64 e]) h):ACalls C.P 5 [.str t] Heap.nil K:=by
 refine fnDW_of ok (slot:=fun _=>.s 0) (g:=9) (t:=12) 7 Tryz.func5 rfl rfl rfl rfl rfl rfl rfl rfl rfl (wkA ok mixed (A:=A5) ?_)
 (repeat' (first|exact rfl|((conv=>whnf);first|exact rfl|exact ⟨rfl,rfl⟩|refine go1 ?_|(intro ep)|fail)))
 rename_i e0 e1 e2;obtain ⟨e3,he3⟩:∃e3,e3=ep:=⟨_,rfl⟩;subst he3;refine wkA ok mixed (A:=A5) ?_;by_cases hb0:65536<t.length
 ·have hr:readS t=none:=by unfold readS;rw [if_pos hb0]
  have hk:=hN hr
  (repeat' (first|exact hk _ _ _ (by decide)|exact rfl|((conv=>whnf);first|exact rfl|exact ⟨rfl,rfl⟩|refine go1 ?_|(intro ep)|(refine ifB ?_ ?_<;>intro hb<;>(try simp only [qs] at hb)<;>(try simp (disch:=omega) only [wrapI] at hb)<;>(try (exfalso;omega)))|fail)))
 ·(repeat' (first|exact rfl|((conv=>whnf);first|exact rfl|exact ⟨rfl,rfl⟩|refine go1 ?_|(intro ep)|(refine ifB ?_ ?_<;>intro hb<;>(try simp only [qs] at hb)<;>(try simp (disch:=omega) only [wrapI] at hb)<;>(try (exfalso;omega)))|fail)))
  all_goals (conv=>whnf)
  all_goals refine ⟨_,rfl,?_⟩
  all_goals refine wk_mask [0,2,3,4,5] [0,1,2,3,4,5,6] (fr':=frOf 0 80 [(0,.str t),(2,.optr (.s 0) e0 1 0 0),(3,.optr (.s 1) e1 3 0 0),(4,.optr (.s 2) e2 1 0 0),(5,.optr (.s 3) e3 1 0 0)]) (h':=⟨[.vec e0 [[.int .u8 0]],.vec e1 [[.nils,.nils,.nils]],.vec e2 [[.int .i64 0]],.vec e3 [[.int .i64 0]],.hole,.hole,.hole],[]⟩) rfl rfl ?_
  all_goals refine rest5_wk t (by omega) (fun y i ev hr fr e5 eps q tl hB=>?_) (fun hr T V fr h' hB hp=>?_)
  ·refine (rcv_nil e0 e1 e2 e3 _).mono fun h' e=>?_;subst e;exact res5 hB rfl rfl rfl rfl (hK y i ev hr _ e5 eps rfl rfl)
  ·obtain ⟨⟨l,er,hne,rfl,rfl⟩,hkp⟩:=hp;refine ((rcv_flt e0 e1 e2 e3 (a0:=.int .u8 0) (a1:=.nils) (a2:=.nils) (a3:=.nils) (a4:=.int .i64 0) (a5:=.int .i64 0) (l:=l) (e:=er)).part (h:=h') ?_).mono ?_
   ·intro i o ho
    right
    cases i with
    |d k=>
     have ho:([]:List AObj)[k]? =some o:=ho;simp at ho
    |s k=>
     have ho:([.vec e0 [[.int .u8 0]],.vec e1 [[.nils,.nils,.nils]],.vec e2 [[.int .i64 0]],.vec e3 [[.int .i64 0]]]:List AObj)[k]? =some o:=ho;rw [←hkp,List.getElem?_take] at ho
     split at ho
     ·exact ho
     ·cases ho
   ·rintro h2 ⟨o,rfl⟩;exact res5 hB rfl rfl rfl rfl (hN hr l er _ hne)
theorem read_some {t:List UInt8} {y:Sy} {p:Pc} (h:readS t=some (y,p)):PRet C.P 5 [.str t] (.tup [.int .u8 y.n,pcA p,.int .i64 0,.int .i64 0]):=by
 refine PRet.of_freeze rfl (fun h=>rfl) (read5 t (fun y' i ev hr hh e5 eps ho hd=>?_) (fun hr=>by rw [h] at hr;cases hr));rw [h] at hr;cases hr;intro σ σ' x fz hv;cases hv with
 | @tup _ _ vs l hh2=>
  refine .tup l fun k c v hc hv=>?_;have hlen:vs.size=4:=by simpa using l.symm
  match k,hc,hv with
  |0,hc,hv=>cases hc;have:=hh2 0 _ v rfl hv;cases this;exact .int
  |1,hc,hv=>cases hc;exact pc_frz fz (X:=[]) ho (by rw [List.append_nil];exact hd) (hh2 1 _ v rfl hv)
  |2,hc,hv=>cases hc;have:=hh2 2 _ v rfl hv;cases this;exact .int
  |3,hc,hv=>cases hc;have:=hh2 3 _ v rfl hv;cases this;exact .int
theorem read_none {t:List UInt8} (h:readS t=none):ACalls C.P 5 [.str t] Heap.nil fun r _=>∃l e:Int,e≠0∧r= .tup [.int .u8 0,zeroA,.int .i64 l,.int .i64 e]:=
 read5 t (fun y i ev hr=>by rw [h] at hr;cases hr) fun _ l e _ hne=>⟨l,e,hne,rfl⟩
end Go.Ab.V

namespace Go.Lib
open Go.Proofs
theorem run_append_str_block {P:Program} (w:World) (base:Nat) (t u ty e:TypeId) (i:TypeInfo) (ht:P.underlying t=some (.slice e)) (hu:P.underlying u=some .string) (hi:P.info? e=some i) (hz:i.zero=some (.int .u8 0))
  (hsize:i.size=1) (hby:i.bytes=1) (v:Value) (n:Nat) (xs:List Value) (hown:w.ownsRow base e 1 v n xs) (s:ByteArray)
  (h63:n+s.size≤maxLen) (hbytes:n+s.size≤140737488355328) (hbase:base≤w.heap.size):
  ∃v' w',(Builtin.append_ #[t,u] ty #[v,.string s]).run P w= .ok v' w'∧w'.ownsRow base e 1 v' (n+s.size) (xs++strCells s)∧w.grownBy w' v.ownBlock∧
   (v'= .slice none 0 0↔v= .slice none 0 0∧s.size=0)∧∀k,v'.ownBlock=some k→v.ownBlock=some k∨w.heap.size≤k:=by
 obtain ⟨v',w',hr,h1,h2,h3⟩:=run_append_own_string (P:=P) w base t u ty e i ht hu hi hz hsize hby v n xs hown s h63 hbytes hbase;refine ⟨v',w',hr,h1,h2,h3,?_⟩;have hxl:xs.length=n:=by simpa using hown.1
 rcases hown.2 with ⟨rfl,rfl⟩|⟨g,cap,cur,rfl,hbg,hg,hnc,hcm,hcs,htake⟩
 ·by_cases hm:s.size=0
  ·have:=h3.2 ⟨rfl,hm⟩;subst this;intro k hk;simp [Value.ownBlock] at hk
  ·have hr2:=run_append_nil_string (P:=P) w t u ty e i (.int .u8 0) ht hu hi hz s (by omega) (by omega) (by rw [hby];omega);rw [hr2] at hr;cases hr;intro k hk
   right
   simp [Value.ownBlock] at hk;omega
 ·by_cases hroom:n+s.size≤cap
  ·have hcs':cur.size=cap:=by simpa using hcs
   have hr2:=run_append_room_string (P:=P) w t u ty e i ht hu hi hsize g n cap cur hg s hroom (by omega);rw [hr2] at hr;cases hr;intro k hk;exact .inl (by simpa [Value.ownBlock] using hk)
  ·have holds:∀j u,xs[j]? =some u→w.cell? ((⟨g,0,none⟩:Addr).add j)=some u:=hown.cells (g:=g) rfl;have hr2:=run_append_grow_string (P:=P) w t u ty e i (.int .u8 0) ht hu hi hz ⟨g,0,none⟩ n cap xs (by rw [hsize];simpa using hxl) holds s (by omega) (by omega) (by rw [hby];exact growslice_fits (by omega) (by omega));rw [hr2] at hr;cases hr;intro k hk
   right
   simp [Value.ownBlock] at hk;omega
end Go.Lib

namespace Go.Proofs
open Go.Shelf Go.RowKit Go.Lib
theorem wpList_append_str2 {P:Program} {w:World} {ops:Array Oper} {rest:List Oper} {o:Oper} {a:Act} {Q:Exit→Act→World→Prop} (hgd:o.guard=none) (sl x:Operand) (t u:TypeId)
  (ho:o.op= .call { callee:=.builtin .append,args:=#[sl,x],argTypes:=#[t,u] })
  (base:Nat) (e:TypeId) (i:TypeInfo) (ht:P.underlying t=some (.slice e)) (hu:P.underlying u=some .string) (hi:P.info? e=some i) (hz:i.zero=some (.int .u8 0))
  (hsize:i.size=1) (hby:i.bytes=1)
  (v:Value) (n:Nat) (xs:List Value) (hs:a.eval sl=v) (hown:w.ownsRow base e 1 v n xs) (s:ByteArray) (hx:a.eval x= .string s)
  (h63:n+s.size≤maxLen) (hbytes:n+s.size≤140737488355328) (hbase:base≤w.heap.size)
  (h:∀v' w',w'.ownsRow base e 1 v' (n+s.size) (xs++strCells s)→w.grownBy w' v.ownBlock→(∀k,v'.ownBlock=some k→v.ownBlock=some k∨w.heap.size≤k)→wpList P ops Q rest (a.put o.dst v') w'):wpList P ops Q (o::rest) a w:=by
 refine wpList_plain hgd fun K hK=>?_;obtain ⟨v',w',hr,h2,h3,_,h4⟩:=run_append_str_block (P:=P) w base t u o.type e i ht hu hi hz hsize hby v n xs hown s h63 hbytes hbase;unfold Oper.wp execOp;simp only [ho,resolve,invoke,builtin,Sem.run_bind,Sem.run_pure,Result.andThen_ok,List.map_toArray,List.map_cons,List.map_nil,hs,hx,hr];exact hK _ _ (h v' w' h2 h3 h4)
theorem XW:Builder.Extra Tryz.prog Tryz.lays156_ren:={ sizeBuilder:=by kernel_rfl,liesBuilder:=by kernel_rfl,t5:=Tryz.underlying5,a5:=Tryz.isAgg5,z5:=Tryz.sizeOf5,v5:=Tryz.zeroValue5,infoByte:=by kernel_rfl,cellsByte:=by kernel_rfl,sizeByte:=by kernel_rfl,neB5:=by decide }
theorem LW:Lays.n166 Tryz.prog Tryz.lays156_ren:={ Tryz.lays156 with }
structure Bld (B b:Nat) (v:Value) (bs:List Value) (w:World):Prop where
 lo:B≤b
 cells:∃p,(p= .pointer none∨p= .pointer (some ⟨b,0,none⟩))∧w.heap[b]? =some (.cells #[p,v] 118 (0,0))
 own:w.ownsRow B 5 1 v bs.length bs
 ne:v.ownBlock≠some b
structure Kept (b:Nat) (v v':Value) (w w':World):Prop where
 os:w'.os=w.os
 tape:w'.tape=w.tape
 output:w'.output=w.output
 size:w.heap.size≤w'.heap.size
 block:∀k,k<w.heap.size→k≠b→v.ownBlock≠some k→w'.heap[k]? =w.heap[k]?
 new:∀k,v'.ownBlock=some k→v.ownBlock=some k∨w.heap.size≤k
theorem copyCheck84 (B b:Nat) (v:Value) (bs:List Value) (w:World) (h:Bld B b v bs w):
  Calls Tryz.prog 84 #[.pointer (some ⟨b,0,none⟩)] w fun e w'=>e= .returned (.tuple #[])∧w'.heap[b]? =some (.cells #[.pointer (some ⟨b,0,none⟩),v] 118 (0,0))∧w'.ownsRow B 5 1 v bs.length bs∧w'.os=w.os∧w'.tape=w.tape∧w'.output=w.output∧w'.heap.size=w.heap.size∧∀k,k≠b→w'.heap[k]? =w.heap[k]?:=by
 obtain ⟨hB,⟨p,hp,hb⟩,ho,hn⟩:=h;have hlt:b<w.heap.size:=(Array.getElem?_eq_some_iff.1 hb).1
 rcases hp with rfl|rfl
 ·have hA:BuilderAt 118 5 B b (.pointer none) bs w:=⟨hB,v,hb,ho,hn⟩;refine (Any.Builder_copyCheck_fresh (ρ:=Tryz.lays156_ren) { LW with } XW.toX72 b w hA.cell0 hA.shape hA.frozen0).mono ?_;rintro e w' ⟨rfl,rfl⟩;refine ⟨rfl,?_,?_,rfl,rfl,rfl,by simp [World.setCell],fun k hk=>Below.heap_setCell _ _ _ _ (fun e=>hk (by simp [e]))⟩
  ·simp [World.setCell,Array.getElem?_modify,hb]
  ·exact ho.kept (row:=some b) ⟨rfl,rfl,rfl,by simp [World.setCell],fun k _ hk=>Below.heap_setCell _ _ _ _ (fun e=>hk (by simp [e]))⟩ (Or.inr hn)
 ·have hA:BuilderAt 118 5 B b (.pointer (some ⟨b,0,none⟩)) bs w:=⟨hB,v,hb,ho,hn⟩;refine (Any.Builder_copyCheck_used (ρ:=Tryz.lays156_ren) { LW with } XW.toX72 b w hA.cell0).mono ?_;rintro e w' ⟨rfl,rfl⟩;exact ⟨rfl,hb,ho,rfl,rfl,rfl,rfl,fun _ _=>rfl⟩
end Go.Proofs

namespace Go.Proofs
open Go.Shelf Go.RowKit
theorem write45 (B b:Nat) (v:Value) (bs:List Value) (s:ByteArray) (w:World) (h:Bld B b v bs w) (hlen:bs.length+s.size≤140737488355328) (hBw:B≤w.heap.size):
  Calls Tryz.prog 45 #[.pointer (some ⟨b,0,none⟩),.string s] w fun e w'=>(∃r,e= .returned r)∧∃v',Bld B b v' (bs++Lib.strCells s) w'∧Kept b v v' w w':=by
 have L:=LW;have X:=XW;obtain ⟨i0,hi,hz0,hz1,hz2⟩:=info_parts X.infoByte
 go_enter Tryz.func45,Tryz.ntmps45
 go_wp2_with (go_at_call 84;refine (copyCheck84 B b v bs _ h).mono ?_)
 rintro e w1 ⟨rfl,hbk,hown,k1,k2,k3,k4,k5⟩;obtain ⟨hB,_,_,hne⟩:=h;have c0:w1.cell? ⟨b,0,none⟩=some (.pointer (some ⟨b,0,none⟩)):=by rw [Lib.cell_of_heap hbk];rfl
 have c1:w1.cell? ⟨b,1,none⟩=some v:=by rw [Lib.cell_of_heap hbk];rfl
 go_wp2_with (at_builtin;refine wpList_append_str2 rfl _ _ 116 9 rfl B 5 i0 L.t37 L.t9 hi hz0 hz1 hz2 _ _ _ rfl hown s rfl ?c3 ?c4 ?c5 ?_)
 case c3=>unfold maxLen;omega
 case c4=>omega
 case c5=>omega
 intro v' w2 hown' hgrow hnew;have hlt:b<w1.heap.size:=(Array.getElem?_eq_some_iff.1 hbk).1;have hb2:w2.heap[b]? =some (.cells #[.pointer (some ⟨b,0,none⟩),v] 118 (0,0)):=by
  rw [hgrow.block b hlt (fun e=>hne e.symm)];exact hbk
 have d0:w2.cell? ⟨b,0,none⟩=some (.pointer (some ⟨b,0,none⟩)):=by rw [Lib.cell_of_heap hb2];rfl
 have d1:w2.cell? ⟨b,1,none⟩=some v:=by rw [Lib.cell_of_heap hb2];rfl
 have f1:w2.frozen? ⟨b,1,none⟩=false:=Lib.frozen_of_heap hb2 1;have hne2:v'.ownBlock≠some b:=by
  intro hc
  rcases hnew b hc with h|h
  ·exact hne h
  ·omega
 obtain ⟨ao,n',cap,rfl⟩:∃ao n' cap,v'= .slice ao n' cap:=by
  rcases hown'.2 with ⟨hv,_⟩|⟨g,cap,cur,hv,_⟩
  ·exact ⟨_,_,_,hv⟩
  ·exact ⟨_,_,_,hv⟩
 go_wp2
 go_ret2
 refine ⟨⟨_,rfl⟩,.slice ao n' cap,⟨hB,⟨_,.inr rfl,?_⟩,?_,hne2⟩,⟨?_,?_,?_,?_,?_,?_⟩⟩
 ·simp [World.setCell,Array.getElem?_modify,hb2]
 ·have:=hown'.kept (w':=w2.setCell ⟨b,1,none⟩ (.slice ao n' cap)) (row:=some b) ⟨rfl,rfl,rfl,by simp [World.setCell],fun k _ hk=>Below.heap_setCell _ _ _ _ (fun e=>hk (by simp [e]))⟩ (Or.inr hne2);simpa [Lib.strCells_length] using this
 ·exact hgrow.os.trans k1
 ·exact hgrow.tape.trans k2
 ·exact hgrow.output.trans k3
 ·have:=hgrow.size;simp [World.setCell];omega
 ·intro k hk hkb hkv;rw [Below.heap_setCell _ _ _ _ (fun e=>hkb (by simp [e])),hgrow.block k (by omega) (fun e=>hkv e.symm),k5 k hkb]
 ·intro k hk
  rcases hnew k hk with h|h
  ·exact .inl h
  ·exact .inr (by omega)
end Go.Proofs

namespace Go.Proofs
open Go.Shelf Go.RowKit Go.Lib
theorem LS:Lays.n169 Tryz.prog Tryz.lays156_ren:={ Tryz.lays156 with }
end Go.Proofs

namespace Go.Ab
open Go.Proofs Go.RowKit
structure Gh (id:Id) (ep:Nat) (σ:Sg) (h:Heap) (n0:Nat) (w:World) (b:Nat) (v:Value) (l:List UInt8):Prop where
 bld:Bld n0 b v (Lib.byteCells l) w
 rho:σ.ρ id ep=some (.at b 0 2 1 2)
 liveb:¬Live σ h b
 fmb:σ.FM b=none
 liveg:∀g,v.ownBlock=some g→¬Live σ h g
 fmg:∀g,v.ownBlock=some g→σ.FM g=none
theorem Gh.lt {id:Id} {ep:Nat} {σ:Sg} {h:Heap} {n0:Nat} {w:World} {b:Nat} {v:Value} {l:List UInt8} (g:Gh id ep σ h n0 w b v l):b<w.heap.size:=by
 obtain ⟨p,_,hb⟩:=g.bld.cells;exact (Array.getElem?_eq_some_iff.1 hb).1
theorem Gh.move {id:Id} {ep:Nat} {σ:Sg} {h:Heap} {n0:Nat} {w:World} {b:Nat} {v:Value} {l:List UInt8} (g:Gh id ep σ h n0 w b v l) {σ':Sg} {h':Heap} {w':World} (m:Mv σ h w σ' h' w'):Gh id ep σ' h' n0 w' b v l:=by
 have hlt:=g.lt;have hg:=fun k hk=>g.bld.own.lt k hk;have keep:∀k,k<w.heap.size→¬Live σ h k→σ.FM k=none→¬Live σ' h' k∧σ'.FM k=none:=by
  intro k h1 h2 h3;refine ⟨fun x=>?_,?_⟩
  ·rcases m.live k x with y|y
   ·exact h2 y
   ·omega
  ·cases hf:σ'.FM k with
   |none=>rfl
   |some cs=>
    rcases m.new k (by rw [hf];simp) with y|y|y
    ·exact absurd h3 y
    ·exact absurd y h2
    ·omega
 have hb:=m.block b hlt g.liveb;refine ⟨⟨g.bld.lo,?_,?_,g.bld.ne⟩,m.le.ρ _ _ _ g.rho,(keep b hlt g.liveb g.fmb).1,(keep b hlt g.liveb g.fmb).2,fun k hk=>(keep k (hg k hk).2 (g.liveg k hk) (g.fmg k hk)).1,fun k hk=>(keep k (hg k hk).2 (g.liveg k hk) (g.fmg k hk)).2⟩
 ·obtain ⟨p,hp,hb2⟩:=g.bld.cells;exact ⟨p,hp,by rw [hb];exact hb2⟩
 ·have ho:=g.bld.own;refine ⟨ho.1,?_⟩
  rcases ho.2 with hn|⟨k,cap,cur,hv,hbk,hk,r⟩
  ·exact .inl hn
  ·subst hv;refine .inr ⟨k,cap,cur,rfl,hbk,?_,r⟩;rw [m.block k (Array.getElem?_eq_some_iff.1 hk).1 (g.liveg k rfl)];exact hk
structure WE (C:Ctx) (id:Id) (ep:Nat) (c:Code) (fr:List AV) (h:Heap) (l:List UInt8) (K:AE→List AV→Heap→List UInt8→Prop):Prop where
 use:∀(rd:Option Nat) (B:DB) (σ0:Sg) (w0:World) (σ:Sg) (w:World) (a:Act) (b:Nat) (v:Value) (Q:Exit→Act→World→Prop),(C.inR=false→rd=none)→YOk C σ→B.lo≤w.heap.size→Mv σ0 .nil w0 σ h w→VRels σ fr a.tmps.toList→DfOk B σ a.defers→Gh id ep σ h w0.heap.size w b v l→
  (∀e fr' h' l' σ' a' w' v',K e fr' h' l'→Mv σ0 .nil w0 σ' h' w'→YOk C σ'→B.lo≤w'.heap.size→VRels σ' fr' a'.tmps.toList→DfOk B σ' a'.defers→(e= .ret∨Gh id ep σ' h' w0.heap.size w' b v' l')→Q e.toExit a' w')→c.wpIn (FR rd) 0 C.P Q a w
theorem WE.frame {C:Ctx} {id:Id} {ep:Nat} {c:Code} {fr:List AV} {h:Heap} {l:List UInt8} {K:AE→List AV→Heap→List UInt8→Prop} (x:WK C c fr h fun e fr h=>K e fr h l):WE C id ep c fr h l K:=
 ⟨fun rd B σ0 w0 σ w a b v Q hrd hy hB m hf hd hg hQ=>x.use rd B σ w a Q hrd hy hB m.sim hf hd fun e fr' h' σ' a' w' k m2 v2 d2=>hQ e fr' h' l σ' a' w' v k (m.trans m2) (hy.mono m2.le) (Nat.le_trans hB m2.size) v2 d2 (.inr (hg.move m2))⟩
end Go.Ab
