/-
  What is proved here serves the law's text: each part says its own claim and its conditions. No condition is left open.
-/
import Derived.Test.YtohegnfjdfcebaaGreatDoorKU
import Derived.Test.YtohegnfjdfcebaaGreatDoorJF
import Derived.Test.YtohegnfjdfcebaaGreatDoorKV
set_option maxHeartbeats 32000000
set_option maxRecDepth 100000
set_option linter.unusedSimpArgs false
set_option linter.unusedVariables false

namespace Go.Ab.V
open Go.Proofs Go.RowKit
def A28:Ann:=fun r=>match r with
 |0=>{ slots:=[(0,5)] }
 |1=>{ slots:=[(5,6)] }
 |3=>{ pan:=[1] }
 |5=>{ pan:=[1] }
 |_=>{}
def chkW (i:Ins) (w:Wr):Bool:=decide (w.c≤i.cs.length)&&decide (w.f≤fretsOf i w.c)
theorem check28b {f g a b:AV} {q0 q1 q2 q3:AObj} {e:Nat} {dy:List AObj} (i:Ins) (w:Wr) (hi:i.cs.length≤100000) (hw:1≤w.c) {ln:Int} {L:List (List UInt8)} {n:Nat} {cl:Bool} {K:AV→Heap→Prop} {KP:Nat→Value→Heap→Prop}
  (hK:chkW i w=true→∀rest,K (.tup []) ⟨[q0,q1,q2,q3,.vec e [[a,b,crsA i.cs,intsA i.steps,f,g,.int .i64 ln,.lslc 1 (strR L) 0 n false,.bool cl]]]++rest,dy⟩)
  (hP:chkW i w=false→∀t v h',PanOk q0 q1 q2 q3 t v h'→KP t v h'):
  ACallsP C.P 28 [.optr (.s 4) e 9 0 0,.agg w.row] ⟨[q0,q1,q2,q3,.vec e [[a,b,crsA i.cs,intsA i.steps,f,g,.int .i64 ln,.lslc 1 (strR L) 0 n false,.bool cl]]],dy⟩ K KP:=by
 unfold chkW at hK hP;refine fnP_of ok mixed (A:=A28) 2 Tryz.func28 rfl ?_;by_cases h1:w.c≤i.cs.length
 ·obtain ⟨k,hk⟩:∃k:Nat,w.c-1=k:=⟨(w.c-1).toNat,by omega⟩;have hkl:k<i.cs.length:=by omega
  have hm:=mapR (f:=crR) hkl;have hcw:IntKind.i64.wrap (w.c-1)=(k:Int):=by simp (disch:=omega) only [wrapI];omega
  have hfr:fretsOf i w.c=(i.cs[k]).frets:=by
   unfold fretsOf;rw [hk,Int.toNat_natCast,List.getD_eq_getElem?_getD,List.getElem?_eq_getElem hkl];rfl
  rw [hfr] at hK hP;by_cases h2:w.f≤(i.cs[k]).frets
  ·have hk2:=hK (by simp [h1,h2]);generalize i.cs[k]=cr at hm h2
   (repeat' (first|exact hk2 _|((conv=>whnf);first|(refine optS hm ?_)|(rw [hcw])|exact rfl|exact ⟨rfl,rfl⟩|refine go1 ?_|(intro ep)|(refine ifB ?_ ?_<;>intro hb<;>(try simp only [qs] at hb)<;>(try simp (disch:=omega) only [wrapI] at hb)<;>(try (exfalso;omega)))|fail)))
  ·have hp:=hP (by simp [h1,h2]);generalize i.cs[k]=cr at hm h2
   (repeat' (first|exact rfl|((conv=>whnf);first|(exact fail12 13 (by decide) fun t v h' hx=>hp t v _ (hx.trunc (Nat.le_of_ble_eq_true rfl)))|(refine optS hm ?_)|(rw [hcw])|exact rfl|exact ⟨rfl,rfl⟩|refine go1 ?_|(intro ep)|(refine ifB ?_ ?_<;>intro hb<;>(try simp only [qs] at hb)<;>(try simp (disch:=omega) only [wrapI] at hb)<;>(try (exfalso;omega)))|fail)))
 ·have hp:=hP (by simp [h1])
  (repeat' (first|exact rfl|((conv=>whnf);first|(exact fail12 12 (by decide) fun t v h' hx=>hp t v _ (hx.trunc (Nat.le_of_ble_eq_true rfl)))|exact rfl|exact ⟨rfl,rfl⟩|refine go1 ?_|(intro ep)|(refine ifB ?_ ?_<;>intro hb<;>(try simp only [qs] at hb)<;>(try simp (disch:=omega) only [wrapI] at hb)<;>(try (exfalso;omega)))|fail)))
theorem check28 {f g a b:AV} {q0 q1 q2 q3:AObj} {e:Nat} {tl dy:List AObj} (i:Ins) (w:Wr) (hi:i.cs.length≤100000) (hw:1≤w.c) {ln:Int} {L:List (List UInt8)} {n:Nat} {cl:Bool} {K:AV→Heap→Prop} {KP:Nat→Value→Heap→Prop}
  (hK:chkW i w=true→K (.tup []) ⟨q0::q1::q2::q3:: .vec e [[a,b,crsA i.cs,intsA i.steps,f,g,.int .i64 ln,.lslc 1 (strR L) 0 n false,.bool cl]]::tl,dy⟩)
  (hP:chkW i w=false→∀t v h',PanOk q0 q1 q2 q3 t v h'→KP t v h'):
  ACallsP C.P 28 [.optr (.s 4) e 9 0 0,.agg w.row] ⟨q0::q1::q2::q3:: .vec e [[a,b,crsA i.cs,intsA i.steps,f,g,.int .i64 ln,.lslc 1 (strR L) 0 n false,.bool cl]]::tl,dy⟩ K KP:=
 ACallsP.tail (tl:=tl) (check28b (f:=f) (g:=g) (a:=a) (b:=b) (K:=fun r h'=>chkW i w=true∧r= .tup []∧∃rest,h'=⟨[q0,q1,q2,q3,.vec e [[a,b,crsA i.cs,intsA i.steps,f,g,.int .i64 ln,.lslc 1 (strR L) 0 n false,.bool cl]]]++rest,dy⟩) (KP:=fun t v h'=>chkW i w=false∧PanOk q0 q1 q2 q3 t v h') i w hi hw (fun h rest=>⟨h,rfl,rest,rfl⟩) fun h _ _ _ x=>⟨h,x⟩)
  (fun r h1 ⟨h,e1,rest,e2⟩=>by subst e1 e2;exact hK h) fun t v h1 ⟨h,x⟩=>hP h t v _ (x.part (Nat.le_of_ble_eq_true rfl))
theorem cell61t {c d f g:AV} {q0 q1 q2 q3:AObj} {e:Nat} {ln:Int} {L:List (List UInt8)} {n:Nat} {cl:Bool} {tl dy:List AObj} (y:Sy) (co:Int) (t:List UInt8) (ht:t.length≤100000) (hok:stdg y co= .ok y) {K:AV→Heap→Prop} {KP:Nat→Value→Heap→Prop}
  (hK:∀w,cellW y co t=some w→K (.agg w.row) ⟨q0::q1::q2::q3:: .vec e [[.int .u8 y.n,y.a,c,d,f,g,.int .i64 ln,.lslc 1 (strR L) 0 n false,.bool cl]]::tl,dy⟩)
  (hP:cellW y co t=none→∀t v h',PanOk q0 q1 q2 q3 t v h'→KP t v h'):
  ACallsP C.P 61 [.optr (.s 4) e 9 0 0,.int .i64 co,.str t] ⟨q0::q1::q2::q3:: .vec e [[.int .u8 y.n,y.a,c,d,f,g,.int .i64 ln,.lslc 1 (strR L) 0 n false,.bool cl]]::tl,dy⟩ K KP:=
 ACallsP.tail (tl:=tl) (cell61 (K:=fun r h'=>∃w,cellW y co t=some w∧r= .agg w.row∧∃rest,h'=⟨[q0,q1,q2,q3,.vec e [[.int .u8 y.n,y.a,c,d,f,g,.int .i64 ln,.lslc 1 (strR L) 0 n false,.bool cl]]]++rest,dy⟩) (KP:=fun t' v h'=>cellW y co t=none∧PanOk q0 q1 q2 q3 t' v h') y co t ht hok (fun w rest h=>⟨w,h,rfl,rest,rfl⟩) fun h _ _ _ x=>⟨h,x⟩)
  (fun r h1 ⟨w,h,e1,rest,e2⟩=>by subst e1 e2;exact hK w h) fun t v h1 ⟨h,x⟩=>hP h t v _ (x.part (Nat.le_of_ble_eq_true rfl))
def A59:Ann:=fun r=>match r with
 |3=>{ slots:=[(0,0),(2,1)] }
 |_=>{}
theorem sh_strR {B E:Nat}:∀(l:List (List UInt8)),((strR l).map fun r=>r.map (AV.sh1 B E))=strR l
 | []=>rfl
 |e::r=>by unfold strR;rw [List.map_cons,List.map_cons];exact congrArg _ (sh_strR r)
theorem clone59 (l:List (List UInt8)) (k:Nat) (hk:k≤l.length) (hl:l.length≤100000):HRet C.P 59 [.lslc 1 (strR l) 0 k false] (fun B eps=>.oslc (.d B) (eps 0) 1 0 k false) (fun B eps=>[.vec (eps 0) (strR (l.take k))]):=by
 have t1:List.take k (List.drop 0 (strR l))=strR (l.take k):=by unfold strR;rw [List.drop_zero,List.map_take]
 refine hretN_of ok mixed (A:=A59) 2 Tryz.func59 rfl (N:=k=0) (sz:=1) (fun h eps=>?_) ?_ (fun B E eps=>⟨fun k=>eps k+E,rfl,by rw [List.map_cons,AObj.sh,sh_strR];rfl⟩)
 ·subst h;exact ⟨rfl,rfl⟩
 (repeat' (first|exact rfl|((conv=>whnf);first|exact rfl|exact ⟨rfl,rfl⟩|refine go1 ?_|(intro ep)|refine ⟨fun hn0=>?_,?_⟩|fail)))
 ·exact .inl ⟨rfl,rfl,hn0⟩
 ·refine .inr ?_;(conv=>whnf);refine ⟨rfl,fun ep2=>?_⟩;refine ⟨fun _=>ep2,?_,?_⟩
  ·show AV.oslc (.d 0) ep2 1 0 (0+(List.take k (List.drop 0 (strR l))).length) false=_;rw [t1];have:(strR (l.take k)).length=k:=by unfold strR;simp;omega
   rw [this,Nat.zero_add]
  ·show [AObj.vec ep2 (List.take k (List.drop 0 (strR l)))]=_;rw [t1]
def turned (l:List (List UInt8)) (i:Nat):List (List UInt8):=(List.range l.length).map fun k=>if k<i∨l.length≤k+i then l.getD (l.length-1-k) [] else l.getD k []
theorem turned_zero (l:List (List UInt8)):turned l 0=l:=by
 refine List.ext_getElem (by simp [turned]) fun k h1 h2=>?_;simp only [turned,List.getElem_map,List.getElem_range];rw [if_neg (by omega),List.getD_eq_getElem?_getD,List.getElem?_eq_getElem h2];rfl
theorem turned_len (l:List (List UInt8)) (i:Nat):(turned l i).length=l.length:=by simp [turned]
theorem turned_get (l:List (List UInt8)) (i k:Nat) (h:k<l.length):(turned l i)[k]? =some (if k<i∨l.length≤k+i then l.getD (l.length-1-k) [] else l.getD k []):=by
 unfold turned;rw [List.getElem?_map,List.getElem?_range h];rfl
theorem turned_end (l:List (List UInt8)) (i:Nat) (h:l.length≤2 * i+1):turned l i=l.reverse:=by
 refine List.ext_getElem (by simp [turned]) fun k h1 h2=>?_;simp only [turned,List.getElem_map,List.getElem_range];rw [turned_len] at h1;have hr:l.reverse[k]=l.getD (l.length-1-k) []:=by
  rw [List.getElem_reverse,List.getD_eq_getElem?_getD,List.getElem?_eq_getElem (by omega)];rfl
 rw [hr];by_cases c:k<i∨l.length≤k+i
 ·rw [if_pos c]
 ·rw [if_neg c];have:l.length-1-k=k:=by omega
  rw [this]
theorem turned_step (l:List (List UInt8)) (i:Nat) (h:2 * i+1<l.length):
  ((strR (turned l i)).set i [.str (l.getD (l.length-1-i) [])]).set (l.length-1-i) [.str (l.getD i [])]=strR (turned l (i+1)):=by
 unfold strR;refine List.ext_getElem? fun k=>?_;by_cases hk:k<l.length
 ·have g1:=turned_get l i k hk;have g2:=turned_get l (i+1) k hk;rw [List.getElem?_set];by_cases c1:l.length-1-i=k
  ·rw [if_pos c1,if_pos (by simp [turned_len];omega),List.getElem?_map,g2,if_pos (by omega)];have:l.length-1-k=i:=by omega
   rw [this];rfl
  ·rw [if_neg c1,List.getElem?_set];by_cases c2:i=k
   ·subst c2;rw [if_pos rfl,if_pos (by simp [turned_len];omega),List.getElem?_map,g2,if_pos (by omega)];rfl
   ·rw [if_neg c2,List.getElem?_map,List.getElem?_map,g1,g2];by_cases c3:k<i∨l.length≤k+i
    ·rw [if_pos c3,if_pos (by omega)]
    ·rw [if_neg c3,if_neg (by omega)]
 ·rw [List.getElem?_eq_none (by simp [turned_len];omega),List.getElem?_eq_none (by simp [turned_len];omega)]
def A60:Ann:=fun _=>{}
theorem reverse60 (l:List (List UInt8)) (ep:Nat) (hl:l.length≤100000) {st:List AObj} {K:AV→Heap→Prop} (hK:K (.tup []) ⟨st,[.vec ep (strR l.reverse)]⟩):
  ACalls C.P 60 [.oslc (.d 0) ep 1 0 l.length false] ⟨st,[.vec ep (strR l)]⟩ K:=by
 refine ACalls.part (K0:=fun r h'=>r= .tup []∧h'.dy=[.vec ep (strR l.reverse)]) (st1:=[]) (dy:=[.vec ep (strR l)]) 0 rfl rfl rfl ?_ (fun r h1 ⟨e1,e2⟩=>by
  subst e1;obtain ⟨s1,d1⟩:=h1;simp only at e2;subst e2;exact hK)
 refine fn_of ok mixed (A:=A60) 0 Tryz.func60 rfl ?_;have hw0:IntKind.i64.wrap ((l.length:Int)-1)=(l.length:Int)-1:=by simp (disch:=omega) only [wrapI]
 (repeat' (first|exact rfl|((conv=>whnf);first|(rw [hw0])|exact rfl|exact ⟨rfl,rfl⟩|refine go1 ?_|(intro ep)|(refine ifB ?_ ?_<;>intro hb<;>(try simp only [qs] at hb)<;>(try simp (disch:=omega) only [wrapI] at hb)<;>(try (exfalso;omega)))|fail)))
 (conv=>whnf);refine loopY ok mixed (A:=A60) [0,2,3] [] (S:={ i:Nat // 2 * i≤l.length+1 }) (fr:=fun s=>frOf 0 28 [(0,.oslc (.d 0) ep 1 0 l.length false),(2,.int .i64 (s.1:Int)),(3,.int .i64 ((l.length:Int)-1-s.1))])
  (h:=fun s=>⟨[],[.vec ep (strR (turned l s.1))]⟩) (μ:=fun s=>l.length-s.1) ⟨0,by omega⟩ ?_ ?_
  [] [] (S':={ z:Unit // True }) (X:=fun _=>0) (frX:=fun s=>frOf 0 28 []) (hX:=fun s=>⟨[],[.vec ep (strR l.reverse)]⟩)
  [] [] (S2:={ x:Nat // False }) (frR:=fun s=>frOf 0 28 []) (hR:=fun s=>⟨[],[]⟩) ?_ ?_ ?_
 ·show maskF 0 [0,2,3] [.oslc (.d 0) ep 1 0 l.length false,.u,.int .i64 0,.int .i64 ((l.length:Int)-1),_,_,_,_,_,_,_,_,_,_,_,_,_,_,_,_,_,_,_,_,_,_,_,_]=frOf 0 28 [(0,.oslc (.d 0) ep 1 0 l.length false),(2,.int .i64 (0:Int)),(3,.int .i64 ((l.length:Int)-1-((0:Nat):Int)))];rw [show (l.length:Int)-1-((0:Nat):Int)=(l.length:Int)-1 by omega];rfl
 ·show (⟨[],[.vec ep (strR l)]⟩:Heap)=⟨[],[.vec ep (strR (turned l 0))]⟩;rw [turned_zero]
 ·rintro ⟨i,hi⟩;show aexR _ _ _ (frOf 0 28 [(0,.oslc (.d 0) ep 1 0 l.length false),(2,.int .i64 (i:Int)),(3,.int .i64 ((l.length:Int)-1-i))]) ⟨[],[.vec ep (strR (turned l i))]⟩ _;(conv=>whnf);refine ifB (fun g1=>?_) (fun g1=>?_)
  ·simp only [decide_eq_true_eq] at g1;have hj:((l.length:Int)-1-i)=((l.length-1-i:Nat):Int):=by omega
   rw [hj];have hjl:l.length-1-i<l.length:=by omega
   have hmj:(strR (turned l i))[0+(((l.length-1-i:Nat):Int)).toNat]? =some [.str (l.getD (l.length-1-i) [])]:=by
    rw [Nat.zero_add,Int.toNat_natCast];unfold strR;rw [List.getElem?_map,turned_get l i _ hjl,if_neg (by omega)];rfl
   have hmi:(strR (turned l i))[0+((i:Nat):Int).toNat]? =some [.str (l.getD i [])]:=by
    rw [Nat.zero_add,Int.toNat_natCast];unfold strR;rw [List.getElem?_map,turned_get l i _ (by omega),if_neg (by omega)];rfl
   have hmj2:((strR (turned l i)).set (0+((i:Nat):Int).toNat) [.str (l.getD (l.length-1-i) [])])[0+(((l.length-1-i:Nat):Int)).toNat]? =some [.str (l.getD (l.length-1-i) [])]:=by
    rw [List.getElem?_set_ne (by simp;omega)];exact hmj
   have hts:=turned_step l i (by omega);have hlen:=turned_len l i;have hw1:IntKind.i64.wrap ((i:Int)+1)=((i+1:Nat):Int):=by simp (disch:=omega) only [wrapI];omega
   have hw2:IntKind.i64.wrap (((l.length-1-i:Nat):Int)-1)=(l.length:Int)-1-((i+1:Nat):Int):=by simp (disch:=omega) only [wrapI];omega
   (repeat' (first|exact rfl|((conv=>whnf);first|(refine optS hmj ?_)|(refine optS hmi ?_)|(refine optS hmj2 ?_)|exact rfl|exact ⟨rfl,rfl⟩|refine go1 ?_|(intro ep)|(rw [hw1])|(rw [hw2])|(refine ifB ?_ ?_<;>intro hb<;>(try simp only [qs] at hb)<;>(try simp (disch:=omega) only [wrapI] at hb)<;>(try (exfalso;omega)))|fail)))
   all_goals (conv=>whnf)
   all_goals (have hts':((strR (turned l i)).set (0+((i:Nat):Int).toNat) [.str (l.getD (l.length-1-i) [])]).set (0+(((l.length-1-i:Nat):Int)).toNat) [.str (l.getD i [])]=strR (turned l (i+1)):=by rw [Nat.zero_add,Nat.zero_add,Int.toNat_natCast,Int.toNat_natCast];exact hts)
   all_goals exact back_of ⟨i+1,by omega⟩ ⟨rfl,by
    show (⟨[],[.vec ep (((strR (turned l i)).set (0+((i:Nat):Int).toNat) [.str (l.getD (l.length-1-i) [])]).set (0+(((l.length-1-i:Nat):Int)).toNat) [.str (l.getD i [])])]⟩:Heap)=_;rw [hts'],by dsimp only;omega⟩
  ·simp only [decide_eq_false_iff_not] at g1;have hte:=turned_end l i (by omega)
   (repeat' (first|exact rfl|((conv=>whnf);first|exact rfl|exact ⟨rfl,rfl⟩|refine go1 ?_|(intro ep)|(refine ifB ?_ ?_<;>intro hb<;>(try simp only [qs] at hb)<;>(try simp (disch:=omega) only [wrapI] at hb)<;>(try (exfalso;omega)))|fail)))
   all_goals (conv=>whnf)
   all_goals exact back_of ⟨(),trivial⟩ ⟨rfl,rfl,by rw [hte];rfl⟩
 ·rintro ⟨_,h⟩;exact h.elim
 ·rintro ⟨_,_⟩
  (repeat' (first|exact ⟨rfl,rfl⟩|((conv=>whnf);first|exact rfl|exact ⟨rfl,rfl⟩|refine go1 ?_|(intro ep)|(refine ifB ?_ ?_<;>intro hb<;>(try simp only [qs] at hb)<;>(try simp (disch:=omega) only [wrapI] at hb)<;>(try (exfalso;omega)))|fail)))
theorem reverse60r (l:List (List UInt8)) {m:Nat} (hm:l.length=m) (ep:Nat) (hl:m≤100000) {st:List AObj} {K:AV→Heap→Prop} (hK:K (.tup []) ⟨st,[.vec ep (strR l.reverse)]⟩):
  ACalls C.P 60 [.oslc (.d 0) ep 1 0 m false] ⟨st,[.vec ep (strR l)]⟩ K:=by
 subst hm;exact reverse60 l ep hl hK
theorem strR_pure (l:List (List UInt8)):pureRows (strR l):=pure_map (f:=fun x:List UInt8=>[AV.str x]) l fun x=>rfl
end Go.Ab.V

namespace Go.Ab.V
open Go.Proofs
def wrsA (l:List Wr):AV:=.lslc 6 (l.map Wr.row) 0 l.length false
def nS (y:Sy) (i:Ins):Nat:=if y= .ge then 0 else stf i
def stfA (y:Sy) (n:Nat) (O:List (List UInt8)):List Wr→Nat→Nat→Option (List Wr)
 |acc,0,_=>some acc
 |acc,m+1,c=>if O.getD ((linS y c n).toNat-1) []=[45] then stfA y n O acc m (c+1) else match cellW y c (O.getD ((linS y c n).toNat-1) []) with
  |none=>none
  |some w=>stfA y n O (acc++[w]) m (c+1)
def outA (y:Sy):List Wr→Int→List (List UInt8)→Option (List Wr)
 |acc,_,[]=>some acc
 |acc,last,t::r=>match cellW y 0 t with
  |none=>none
  |some w=>if w.c≤last then none else outA y (acc++[w]) w.c r
def onS (y:Sy) (n:Nat) (ws:List (List UInt8)):List (List UInt8):=if obS y=true then ws.take n else ws.drop (ws.length-n)
def ouS (y:Sy) (n:Nat) (ws:List (List UInt8)):List (List UInt8):=if obS y=true then ws.drop n else (ws.take (ws.length-n)).reverse
def chordS (y:Sy) (i:Ins) (ws:List (List UInt8)):Option (List Wr):=
 if ws.length<nS y i then none else match stfA y (nS y i) (onS y (nS y i) ws) [] (nS y i) 1 with
  |none=>none
  |some a=>match outA y a 0 (ouS y (nS y i) ws) with
   |none=>none
   |some b=>if b=[] then none else some b
structure Wr.Ok (w:Wr):Prop where
 c1:1≤w.c
 c2:w.c≤14
 f1:0≤w.f
 f2:w.f≤18
theorem plFr_lt {y:Sy} {t:List UInt8} {c:Nat}:∀{n f r:Nat},plFr y t c n f=some r→f≤r∧r<f+n
 |0,f,r,h=>by cases h
 |n+1,f,r,h=>by
  rw [plFr] at h
  split at h
  ·cases h;omega
  ·have:=plFr_lt h;omega
theorem plCr_lt {y:Sy} {co:Int} {t:List UInt8}:∀{n c:Nat} {p:Nat×Nat},plCr y co t n c=some p→(c≤p.1∧p.1<c+n)∧p.2<19
 |0,c,p,h=>by cases h
 |n+1,c,p,h=>by
  rw [plCr] at h
  split at h
  ·rename_i f hf;cases h;refine ⟨by omega,?_⟩;unfold plC1 at hf
   split at hf
   ·have:=plFr_lt hf;omega
   ·cases hf
  ·have:=plCr_lt h;omega
theorem place_lt {y:Sy} {co:Int} {t:List UInt8} {p:Nat×Nat} (h:placeS y co t=some p):(1≤p.1∧p.1≤14)∧p.2≤18:=by
 have:=plCr_lt h;omega
theorem celAt_ok {y:Sy} {co:Int} {t:List UInt8} {pos:Nat} {w:Wr} (h:celAt y co t pos=some w):w.Ok:=by
 unfold celAt at h
 split at h
 ·cases h
 ·split at h
  ·cases h
  ·rename_i p hp
   split at h
   ·cases h
   ·cases h;have:=place_lt hp;exact ⟨by dsimp only;omega,by dsimp only;omega,by dsimp only;omega,by dsimp only;omega⟩
theorem celR_ok {y:Sy} {co:Int} {t:List UInt8}:∀{n pos:Nat} {w:Wr},celR y co t n pos=some w→w.Ok
 |0,pos,w,h=>by cases h
 |n+1,pos,w,h=>by
  rw [celR] at h
  split at h
  ·split at h
   ·rename_i w' hw;cases h;exact celAt_ok hw
   ·exact celR_ok h
  ·cases h
theorem cellW_ok {y:Sy} {co:Int} {t:List UInt8} {w:Wr} (h:cellW y co t=some w):w.Ok:=celR_ok h
theorem stfA_ok {y:Sy} {n:Nat} {O:List (List UInt8)}:∀{m c:Nat} {acc r:List Wr},(∀w∈acc,w.Ok)→stfA y n O acc m c=some r→∀w∈r,w.Ok
 |0,c,acc,r,ha,h=>by cases h;exact ha
 |m+1,c,acc,r,ha,h=>by
  rw [stfA] at h
  split at h
  ·exact stfA_ok ha h
  ·split at h
   ·cases h
   ·rename_i w hw;refine stfA_ok (fun x hx=>?_) h
    rcases List.mem_append.1 hx with h1|h1
    ·exact ha x h1
    ·rw [List.mem_singleton.1 h1];exact cellW_ok hw
theorem outA_ok {y:Sy}:∀{X:List (List UInt8)} {last:Int} {acc r:List Wr},(∀w∈acc,w.Ok)→outA y acc last X=some r→∀w∈r,w.Ok
 | [],last,acc,r,ha,h=>by cases h;exact ha
 |t::X,last,acc,r,ha,h=>by
  rw [outA] at h
  split at h
  ·cases h
  ·rename_i w hw
   split at h
   ·cases h
   ·refine outA_ok (fun x hx=>?_) h
    rcases List.mem_append.1 hx with h1|h1
    ·exact ha x h1
    ·rw [List.mem_singleton.1 h1];exact cellW_ok hw
theorem chordS_ok {y:Sy} {i:Ins} {ws:List (List UInt8)} {r:List Wr} (h:chordS y i ws=some r):∀w∈r,w.Ok:=by
 unfold chordS at h
 split at h
 ·cases h
 ·split at h
  ·cases h
  ·rename_i a ha
   split at h
   ·cases h
   ·rename_i b hb
    split at h
    ·cases h
    ·cases h;exact outA_ok (stfA_ok (by simp) ha) hb
def A27:Ann:=fun r=>match r with
 |5=>{ pan:=[1] }
 |16=>{ slots:=[(5,5),(6,6)],pan:=[4] }
 |21=>{ slots:=[(3,7)],pan:=[2] }
 |23=>{ pan:=[1] }
 |25=>{ slots:=[(2,8),(3,9)] }
 |28=>{ pan:=[1] }
 |29=>{ frz:=[4] }
 |_=>{}
def A27i:Ann:=fun r=>match r with
 |5=>{ pan:=[1] }
 |8=>{ canon:=some [0,1,2,3,4,5,7,8,9,10,11,12,6,13,14] }
 |9=>{ frz:=[7] }
 |16=>{ slots:=[(5,5),(6,6)],pan:=[4] }
 |21=>{ slots:=[(3,7)],pan:=[2] }
 |23=>{ pan:=[1] }
 |25=>{ slots:=[(2,8),(3,9)] }
 |28=>{ pan:=[1] }
 |29=>{ frz:=[4] }
 |_=>{}
theorem wrow_pure (l:List Wr):pureRows (l.map Wr.row):=pure_map l fun x=>rfl
theorem cell61s {c d f g:AV} {q0 q1 q2 q3:AObj} {e:Nat} {ln:Int} {L:List (List UInt8)} {n:Nat} {cl:Bool} {tl dy:List AObj} (y:Sy) (co:Int) (t:List UInt8) (ht:t.length≤100000) (hok:stdg y co= .ok y) {w:Wr} (hc:cellW y co t=some w) {K:AV→Heap→Prop} {KP:Nat→Value→Heap→Prop}
  (hK:K (.agg w.row) ⟨q0::q1::q2::q3:: .vec e [[.int .u8 y.n,y.a,c,d,f,g,.int .i64 ln,.lslc 1 (strR L) 0 n false,.bool cl]]::tl,dy⟩):
  ACallsP C.P 61 [.optr (.s 4) e 9 0 0,.int .i64 co,.str t] ⟨q0::q1::q2::q3:: .vec e [[.int .u8 y.n,y.a,c,d,f,g,.int .i64 ln,.lslc 1 (strR L) 0 n false,.bool cl]]::tl,dy⟩ K KP:=
 cell61t y co t ht hok (fun w' h=>by rw [hc] at h;cases h;exact hK) fun h=>by rw [hc] at h;cases h
theorem cell61n {c d f g:AV} {q0 q1 q2 q3:AObj} {e:Nat} {ln:Int} {L:List (List UInt8)} {n:Nat} {cl:Bool} {tl dy:List AObj} (y:Sy) (co:Int) (t:List UInt8) (ht:t.length≤100000) (hok:stdg y co= .ok y) (hc:cellW y co t=none) {K:AV→Heap→Prop} {KP:Nat→Value→Heap→Prop}
  (hP:∀t v h',PanOk q0 q1 q2 q3 t v h'→KP t v h'):
  ACallsP C.P 61 [.optr (.s 4) e 9 0 0,.int .i64 co,.str t] ⟨q0::q1::q2::q3:: .vec e [[.int .u8 y.n,y.a,c,d,f,g,.int .i64 ln,.lslc 1 (strR L) 0 n false,.bool cl]]::tl,dy⟩ K KP:=
 cell61t y co t ht hok (fun w' h=>by rw [hc] at h;cases h) fun _=>hP

theorem strR_at {l:List (List UInt8)} {k:Nat} {w:List UInt8} (h:l[k]? =some w):(strR l)[k]? =some [.str w]:=by unfold strR;rw [List.getElem?_map,h];rfl
theorem chord27b {f g:AV} {q0 q1 q2 q3:AObj} {e:Nat} {ln:Int} {L:List (List UInt8)} {nn:Nat} {cl:Bool} (y:Sy) (i:Ins) (ws:List (List UInt8)) (hi:i.cs.length≤100000) (hw:ws.length≤100000) (hx:∀x∈ws,x.length≤100000) {K:AV→Heap→Prop} {KP:Nat→Value→Heap→Prop}
  (hK:∀l rest d,chordS y i ws=some l→K (wrsA l) ⟨[q0,q1,q2,q3,.vec e [[.int .u8 y.n,y.a,crsA i.cs,intsA i.steps,f,g,.int .i64 ln,.lslc 1 (strR L) 0 nn false,.bool cl]]]++rest,d⟩)
  (hP:chordS y i ws=none→∀t v h',PanOk q0 q1 q2 q3 t v h'→KP t v h'):
  ACallsP C.P 27 [.optr (.s 4) e 9 0 0,strsA ws] ⟨[q0,q1,q2,q3,.vec e [[.int .u8 y.n,y.a,crsA i.cs,intsA i.steps,f,g,.int .i64 ln,.lslc 1 (strR L) 0 nn false,.bool cl]]],[]⟩ K KP:=by
 obtain ⟨R0,hR⟩:∃R,R=chordS y i ws:=⟨_,rfl⟩;rw [←hR] at hK hP;have hst:=staff_spec i;have hob:=ob_spec y;unfold chordS at hR;obtain ⟨n,hn⟩:∃n,n=nS y i:=⟨_,rfl⟩;rw [←hn] at hR;have hs6:n≤6:=by rw [hn];unfold nS stf;split<;>omega
 have hout:∀x∈ouS y n ws,x.length≤100000:=fun x hx2=>hx x (by
  unfold ouS at hx2
  split at hx2
  ·exact List.mem_of_mem_drop hx2
  ·exact List.mem_of_mem_take (List.mem_reverse.1 hx2))
 have hon:∀x∈onS y n ws,x.length≤100000:=fun x hx2=>hx x (by
  unfold onS at hx2
  split at hx2
  ·exact List.mem_of_mem_take hx2
  ·exact List.mem_of_mem_drop hx2)
 refine fnPW_of (okx [59] [60]) 6 Tryz.func27 rfl ?_;refine wk_seq (wkA (okx [59] [60]) mixed (A:=A27) ?_)
 (repeat' (first|exact rfl|((conv=>whnf);first|exact rfl|exact ⟨rfl,rfl⟩|refine go1 ?_|(intro ep)|fail)));(conv=>whnf)
 refine wk_seq (wkA (okx [59] [60]) mixed (A:=A27) ?_)
 (repeat' (first|exact rfl|((conv=>whnf);first|exact rfl|exact ⟨rfl,rfl⟩|refine go1 ?_|(intro ep)|fail)));(conv=>whnf)
 refine wk_cut [0,1,5] [0,1,2,3,4] (S:=Unit) (fun _=>frOf 0 114 [(0,.optr (.s 4) e 9 0 0),(1,strsA ws),(5,.int .i64 (n:Int))]) (fun _=>⟨[q0,q1,q2,q3,.vec e [[.int .u8 y.n,y.a,crsA i.cs,intsA i.steps,f,g,.int .i64 ln,.lslc 1 (strR L) 0 nn false,.bool cl]],.hole,.hole,.hole,.hole,.hole,.hole],[]⟩) (wkA (okx [59] [60]) mixed (A:=A27) ?_) fun _=>?_
 ·unfold nS at hn;by_cases hy:y= .ge
  ·rw [if_pos hy] at hn;subst hn;have hyn:(y.n:Int)=4:=by rw [hy];rfl
   (repeat' (first|exact back_of () ⟨rfl,rfl⟩|exact rfl|(exact absurd hyn (by assumption))|((conv=>whnf);first|exact rfl|exact ⟨rfl,rfl⟩|refine go1 ?_|(intro ep)|(refine ifB ?_ ?_<;>intro hb<;>(try simp only [qs] at hb)<;>(try simp (disch:=omega) only [wrapI] at hb)<;>(try (exfalso;omega)))|fail)))
  ·rw [if_neg hy] at hn;rw [←hn] at hst;have hyn:¬(y.n:Int)=4:=by cases y<;>first|decide|exact absurd rfl hy
   (repeat' (first|exact back_of () ⟨rfl,rfl⟩|exact rfl|(exact absurd (by assumption) hyn)|((conv=>whnf);first|(refine ⟨_,hst,?_⟩)|exact rfl|exact ⟨rfl,rfl⟩|refine go1 ?_|(intro ep)|(refine ifB ?_ ?_<;>intro hb<;>(try simp only [qs] at hb)<;>(try simp (disch:=omega) only [wrapI] at hb)<;>(try (exfalso;omega)))|fail)))
 by_cases h0:ws.length<n
 ·rw [if_pos h0] at hR;refine wk_seq (wkA (okx [59] [60]) mixed (A:=A27) ?_)
  (repeat' (first|exact rfl|((conv=>whnf);first|(exact fail12 4 (by decide) fun t v h' hx=>hP hR t v _ (hx.trunc (Nat.le_of_ble_eq_true rfl)))|exact rfl|exact ⟨rfl,rfl⟩|refine go1 ?_|(intro ep)|(refine ifB ?_ ?_<;>intro hb<;>(try simp only [qs] at hb)<;>(try simp (disch:=omega) only [wrapI] at hb)<;>(try (exfalso;omega)))|fail)))
 rw [if_neg h0] at hR;refine wk_seq (wkA (okx [59] [60]) mixed (A:=A27) ?_)
 (repeat' (first|exact rfl|((conv=>whnf);first|exact rfl|exact ⟨rfl,rfl⟩|refine go1 ?_|(intro ep)|(refine ifB ?_ ?_<;>intro hb<;>(try simp only [qs] at hb)<;>(try simp (disch:=omega) only [wrapI] at hb)<;>(try (exfalso;omega)))|fail)))
 (conv=>whnf);refine wk_seq (wkA (okx [59] [60]) mixed (A:=A27) ?_)
 (repeat' (first|exact rfl|((conv=>whnf);first|exact rfl|exact ⟨rfl,rfl⟩|refine go1 ?_|(intro ep)|fail)));(conv=>whnf)
 refine wk_cut [0,5,6,7] [0,1,2,3,4] (S:={ z:Nat×Nat×List (List UInt8)×Nat×List AObj // z.2.1=n∧(∀k,k<n→ws[z.1+((linS y ((k+1:Nat):Int) n).toNat-1)]? =some ((onS y n ws).getD ((linS y ((k+1:Nat):Int) n).toNat-1) []))∧∀j,j<ws.length-n→z.2.2.1[z.2.2.2.1+j]? =some ((ouS y n ws).getD j []) })
  (fun z=>frOf 0 114 [(0,.optr (.s 4) e 9 0 0),(5,.int .i64 (n:Int)),(6,.lslc 1 (strR ws) z.1.1 z.1.2.1 false),(7,.lslc 1 (strR z.1.2.2.1) z.1.2.2.2.1 (ws.length-n) false)]) (fun z=>⟨[q0,q1,q2,q3,.vec e [[.int .u8 y.n,y.a,crsA i.cs,intsA i.steps,f,g,.int .i64 ln,.lslc 1 (strR L) 0 nn false,.bool cl]],.hole,.hole,.hole,.hole,.hole,.hole],z.1.2.2.2.2⟩) (wkA (okx [59] [60]) mixed (A:=A27i) ?_) ?_
 ·have hl1:∀k,k<n→(linS y ((k+1:Nat):Int) n).toNat-1<n:=fun k hk=>by
   cases y
   ·simp only [linS];omega
   ·simp only [linS];omega
   ·simp only [linS];omega
   ·simp only [linS];omega
  cases hy:obS y with
  |true=>
   rw [hy] at hob;unfold onS ouS;rw [hy];have p1:∀k,k<n→ws[0+0+((linS y ((k+1:Nat):Int) n).toNat-1)]? =some ((ws.take n).getD ((linS y ((k+1:Nat):Int) n).toNat-1) []):=fun k hk=>by
    have:=hl1 k hk;rw [List.getD_eq_getElem?_getD,List.getElem?_take,if_pos this,Nat.add_zero,Nat.zero_add,List.getElem?_eq_getElem (by omega)];rfl
   have p2:∀j,j<ws.length-n→ws[0+n+j]? =some ((ws.drop n).getD j []):=fun j hj=>by
    rw [List.getD_eq_getElem?_getD,List.getElem?_drop,Nat.zero_add,List.getElem?_eq_getElem (by omega)];rfl
   (repeat' (first|exact back_of ⟨(0+0,n,ws,0+n,[]),rfl,p1,p2⟩ ⟨rfl,rfl⟩|exact rfl|((conv=>whnf);first|(refine ⟨_,_,ob_mo _,hob,?_⟩)|exact rfl|exact ⟨rfl,rfl⟩|refine go1 ?_|(intro ep)|(refine ifB ?_ ?_<;>intro hb<;>(try simp only [qs] at hb)<;>(try simp (disch:=omega) only [wrapI] at hb)<;>(try (exfalso;omega)))|fail)))
  |false=>
   rw [hy] at hob;unfold onS ouS;rw [hy];have hwn:IntKind.i64.wrap ((ws.length:Int)-(n:Int))=((ws.length-n:Nat):Int):=by simp (disch:=omega) only [wrapI];omega
   have hcl:=clone59 ws (ws.length-n) (by omega) hw;have htl:(ws.take (ws.length-n)).length=ws.length-n:=by rw [List.length_take];omega
   have p1:∀k,k<n→ws[0+(ws.length-n)+((linS y ((k+1:Nat):Int) n).toNat-1)]? =some ((ws.drop (ws.length-n)).getD ((linS y ((k+1:Nat):Int) n).toNat-1) []):=fun k hk=>by
    have:=hl1 k hk;rw [List.getD_eq_getElem?_getD,List.getElem?_drop,Nat.zero_add,List.getElem?_eq_getElem (by omega)];rfl
   have p2:∀j,j<ws.length-n→((ws.take (ws.length-n)).reverse)[0+j]? =some (((ws.take (ws.length-n)).reverse).getD j []):=fun j hj=>by
    rw [List.getD_eq_getElem?_getD,Nat.zero_add,List.getElem?_eq_getElem (by rw [List.length_reverse];omega)];rfl
   (repeat' (first|exact back_of ⟨(0+(ws.length-n),ws.length-(ws.length-n),(ws.take (ws.length-n)).reverse,0,[.hole]),by dsimp only;omega,p1,p2⟩ ⟨rfl,rfl⟩|exact rfl|((conv=>whnf);first|(refine ⟨_,_,ob_mo _,hob,?_⟩)|(rw [hwn])|(refine ⟨_,_,hcl,?_⟩)|(refine reverse60r (ws.take (ws.length-n)) htl _ (by omega) ?_)|(refine ⟨strR_pure _,?_⟩)|exact rfl|exact ⟨rfl,rfl⟩|refine go1 ?_|(intro ep)|(refine ifB ?_ ?_<;>intro hb<;>(try simp only [qs] at hb)<;>(try simp (disch:=omega) only [wrapI] at hb)<;>(try (exfalso;omega)))|fail)))
 rintro ⟨⟨a0,al,BL,b0,D⟩,hal,hO,hX⟩;dsimp only at hal hO hX;dsimp only;have hOl:(onS y n ws).length=n:=by unfold onS;split<;>simp<;>omega
 have hXl:(ouS y n ws).length=ws.length-n:=by unfold ouS;split<;>simp
 generalize onS y n ws=O at hR hO hOl hon;generalize ouS y n ws=X at hR hX hXl hout;obtain ⟨M,hM⟩:∃M,M=ws.length-n:=⟨_,rfl⟩;rw [←hM] at hX hXl ⊢;refine wk_seq (wkA (okx [59] [60]) mixed (A:=A27) ?_)
 (repeat' (first|exact rfl|((conv=>whnf);first|exact rfl|exact ⟨rfl,rfl⟩|refine go1 ?_|(intro ep)|fail)));(conv=>whnf)
 have hge:y= .ge→n=0:=fun h=>by rw [hn,h];rfl
 obtain ⟨SA,hSA⟩:∃S,S=stfA y n O [] n 1:=⟨_,rfl⟩;rw [←hSA] at hR;refine wk_lift 8 10 6 rfl fun e10=>?_;refine wk_cut [0,7,8] [0,1,2,3,4,10] (S:={ z:Nat×List Wr // SA=some z.2∧z.2.length≤n }) (fun z=>frOf 0 114 [(0,.optr (.s 4) e 9 0 0),(7,.lslc 1 (strR BL) b0 M false),(8,.oslc (.s 10) z.1.1 6 0 z.1.2.length false)]) (fun z=>⟨[q0,q1,q2,q3,.vec e [[.int .u8 y.n,y.a,crsA i.cs,intsA i.steps,f,g,.int .i64 ln,.lslc 1 (strR L) 0 nn false,.bool cl]],.hole,.hole,.hole,.hole,.hole,.vec z.1.1 (z.1.2.map Wr.row)],D⟩) ?_ ?_
 ·refine wk_seq (wkA (okx [59] [60]) mixed (A:=A27) ?_)
  (repeat' (first|exact rfl|((conv=>whnf);first|exact rfl|exact ⟨rfl,rfl⟩|refine go1 ?_|(intro ep)|fail)));(conv=>whnf)
  refine wk_block (loopK [0,5,6,7,8,9] [0,1,2,3,4,10] (S:={ z:Nat×Nat×List Wr // z.1≤n∧z.2.2.length≤z.1∧SA=stfA y n O z.2.2 (n-z.1) (z.1+1) })
   (fun z=>frOf 0 114 [(0,.optr (.s 4) e 9 0 0),(5,.int .i64 (n:Int)),(6,.lslc 1 (strR ws) a0 al false),(7,.lslc 1 (strR BL) b0 M false),(8,.oslc (.s 10) z.1.2.1 6 0 z.1.2.2.length false),(9,.int .i64 ((z.1.1+1:Nat):Int))])
   (fun z=>⟨[q0,q1,q2,q3,.vec e [[.int .u8 y.n,y.a,crsA i.cs,intsA i.steps,f,g,.int .i64 ln,.lslc 1 (strR L) 0 nn false,.bool cl]],.hole,.hole,.hole,.hole,.hole,.vec z.1.2.1 (z.1.2.2.map Wr.row)],D⟩) (fun z=>n-z.1.1) ⟨(0,e10,[]),by simp,by simp,hSA⟩ rfl rfl ?_)
  rintro ⟨⟨k,e10,acc⟩,hk,hac,hu⟩;dsimp only at hk hac hu;dsimp only;refine wk_seq (wk_seq (wkA (okx [59] [60]) mixed (A:=A27) ?_))
  (repeat' (first|exact rfl|((conv=>whnf);first|exact rfl|exact ⟨rfl,rfl⟩|refine go1 ?_|(intro ep)|fail)));(conv=>whnf)
  by_cases hkn:k<n
  ·refine wk_cond (t:=true) (by show AV.bool (decide (((k+1:Nat):Int)≤(n:Int)))=_;rw [decide_eq_true (by omega)]) (wk_skip ?_);(conv=>whnf);have hyg:y≠.ge:=fun h=>by have:=hge h;omega
   have hli:=lin_spec y ((k+1:Nat):Int) (n:Int) (by omega) (by omega) (by omega) (by omega);have hlb:1≤linS y ((k+1:Nat):Int) n∧linS y ((k+1:Nat):Int) n≤n:=by
    cases y
    ·simp only [linS];omega
    ·simp only [linS];omega
    ·simp only [linS];omega
    ·exact absurd rfl hyg
   have hm:=strR_at (hO k hkn);have hwk:IntKind.i64.wrap (((k+1:Nat):Int)+1)=((k+1+1:Nat):Int):=by simp (disch:=omega) only [wrapI];omega
   rw [show n-k=(n-(k+1))+1 by omega,stfA] at hu;obtain ⟨q,hq⟩:∃q,q=(linS y ((k+1:Nat):Int) n).toNat-1:=⟨_,rfl⟩;have hwi:IntKind.i64.wrap (linS y ((k+1:Nat):Int) (n:Int)-1)=((q:Nat):Int):=by simp (disch:=omega) only [wrapI];omega
   rw [←hq] at hm hu;have hqn:q<n:=by omega
   have hwl:(O.getD q []).length≤100000:=by
    rw [List.getD_eq_getElem?_getD,List.getElem?_eq_getElem (by omega)];exact hon _ (List.getElem_mem (by omega))
   generalize O.getD q []=w at hm hu hwl;clear hq hlb;generalize linS y ((k+1:Nat):Int) (n:Int)=lv at hli hwi;have hok:stdg y ((k+1:Nat):Int)= .ok y:=by unfold stdg;rw [if_neg (by rintro (h|h|⟨h,_⟩)<;>first|omega|exact hyg h)]
   refine wk_seq (wk_block ?_);refine wk_seq (wkA (okx [59] [60]) mixed (A:=A27) ?_)
   (repeat' (first|exact rfl|((conv=>whnf);first|(refine ⟨_,_,lin_mo _,hli,?_⟩)|(rw [hwi])|(refine optS hm ?_)|exact rfl|exact ⟨rfl,rfl⟩|refine go1 ?_|(intro ep)|fail)))
   (conv=>whnf);refine wkA (okx [59] [60]) mixed (A:=A27) ?_;by_cases hd:w=[45]
   ·rw [if_pos hd] at hu
    (repeat' (first|exact rfl|((conv=>whnf);first|(exact absurd hd hb)|exact rfl|exact ⟨rfl,rfl⟩|refine go1 ?_|(intro ep)|(refine ifB ?_ ?_<;>intro hb<;>(try simp only [qs] at hb)<;>(try simp (disch:=omega) only [wrapI] at hb)<;>(try (exfalso;omega)))|fail)))
    all_goals (conv=>whnf)
    all_goals refine wkA (okx [59] [60]) mixed (A:=A27) ?_
    all_goals (repeat' (first|exact rfl|((conv=>whnf);first|(rw [hwk])|exact rfl|exact ⟨rfl,rfl⟩|refine go1 ?_|(intro ep)|fail)))
    all_goals (conv=>whnf)
    all_goals exact back_of ⟨(k+1,e10,acc),by dsimp only;omega,by dsimp only;omega,hu⟩ ⟨rfl,rfl,by dsimp only;omega⟩
   ·rw [if_neg hd] at hu;cases hcw:cellW y ((k+1:Nat):Int) w with
    |none=>
     rw [hcw] at hu;dsimp only at hu;rw [hu] at hR
     (repeat' (first|exact rfl|((conv=>whnf);first|(exact cell61n y _ w hwl hok hcw fun t v h' hx=>hP hR t v _ (hx.trunc (Nat.le_of_ble_eq_true rfl)))|(exact absurd hb hd)|exact rfl|exact ⟨rfl,rfl⟩|refine go1 ?_|(intro ep)|(refine ifB ?_ ?_<;>intro hb<;>(try simp only [qs] at hb)<;>(try simp (disch:=omega) only [wrapI] at hb)<;>(try (exfalso;omega)))|fail)))
    |some wr=>
     rw [hcw] at hu;dsimp only at hu
     (repeat' (first|exact rfl|((conv=>whnf);first|(refine cell61s y _ w hwl hok hcw ?_)|(exact absurd hb hd)|exact rfl|exact ⟨rfl,rfl⟩|refine go1 ?_|(intro ep)|(refine ifB ?_ ?_<;>intro hb<;>(try simp only [qs] at hb)<;>(try simp (disch:=omega) only [wrapI] at hb)<;>(try (exfalso;omega)))|fail)))
     all_goals (conv=>whnf)
     all_goals refine wkA (okx [59] [60]) mixed (A:=A27) ?_
     all_goals (repeat' (first|exact rfl|((conv=>whnf);first|(rw [hwk])|exact rfl|exact ⟨rfl,rfl⟩|refine go1 ?_|(intro ep)|fail)))
     all_goals (conv=>whnf)
     all_goals (have hap:(acc++[wr]).map Wr.row=List.take acc.length (List.drop 0 (acc.map Wr.row))++[wr.row]:=by rw [List.drop_zero,List.take_of_length_le (by simp)];simp)
     all_goals (have hal2:acc.length+1=(acc++[wr]).length:=by simp)
     all_goals exact back_of ⟨(k+1,ep,acc++[wr]),by dsimp only;omega,by dsimp only;omega,hu⟩ ⟨by dsimp only;rw [←hal2];rfl,by dsimp only;rw [hap];rfl,by dsimp only;omega⟩
  ·refine wk_cond (t:=false) (by show AV.bool (decide (((k+1:Nat):Int)≤(n:Int)))=_;rw [decide_eq_false (by omega)]) (wk_exit ?_);obtain rfl:k=n:=by omega
   rw [Nat.sub_self,stfA] at hu;(conv=>whnf);exact back_of ⟨(e10,acc),hu,by dsimp only;omega⟩ ⟨rfl,rfl⟩
 rintro ⟨⟨e10,a⟩,ha,han⟩;dsimp only at ha han;dsimp only;rw [ha] at hR;dsimp only at hR;obtain ⟨OA,hOA⟩:∃S,S=outA y a 0 X:=⟨_,rfl⟩;rw [←hOA] at hR;have hM2:M≤100000:=by omega
 refine wk_seq (wkA (okx [59] [60]) mixed (A:=A27) ?_)
 (repeat' (first|exact rfl|((conv=>whnf);first|exact rfl|exact ⟨rfl,rfl⟩|refine go1 ?_|(intro ep)|fail)));(conv=>whnf)
 refine wk_cut [0,8] [0,1,2,3,4,10] (S:={ z:Nat×List Wr // OA=some z.2 }) (fun z=>frOf 0 114 [(0,.optr (.s 4) e 9 0 0),(8,.oslc (.s 10) z.1.1 6 0 z.1.2.length false)]) (fun z=>⟨[q0,q1,q2,q3,.vec e [[.int .u8 y.n,y.a,crsA i.cs,intsA i.steps,f,g,.int .i64 ln,.lslc 1 (strR L) 0 nn false,.bool cl]],.hole,.hole,.hole,.hole,.hole,.vec z.1.1 (z.1.2.map Wr.row)],D⟩) ?_ ?_
 ·refine wk_seq (wkA (okx [59] [60]) mixed (A:=A27) ?_)
  (repeat' (first|exact rfl|((conv=>whnf);first|exact rfl|exact ⟨rfl,rfl⟩|refine go1 ?_|(intro ep)|fail)));(conv=>whnf)
  refine wk_block (loopK [0,8,11,84,85,86] [0,1,2,3,4,10] (S:={ z:Nat×Nat×Int×List Wr // z.1≤M∧z.2.2.2.length≤n+z.1∧OA=outA y z.2.2.2 z.2.2.1 (X.drop z.1) })
   (fun z=>frOf 0 114 [(0,.optr (.s 4) e 9 0 0),(8,.oslc (.s 10) z.1.2.1 6 0 z.1.2.2.2.length false),(11,.int .i64 z.1.2.2.1),(84,.lslc 1 (strR BL) b0 M false),(85,.int .i64 (M:Int)),(86,.int .i64 (z.1.1:Int))])
   (fun z=>⟨[q0,q1,q2,q3,.vec e [[.int .u8 y.n,y.a,crsA i.cs,intsA i.steps,f,g,.int .i64 ln,.lslc 1 (strR L) 0 nn false,.bool cl]],.hole,.hole,.hole,.hole,.hole,.vec z.1.2.1 (z.1.2.2.2.map Wr.row)],D⟩) (fun z=>M-z.1.1) ⟨(0,e10,0,a),by simp,by dsimp only;omega,hOA⟩ rfl rfl ?_)
  rintro ⟨⟨j,e10,last,acc⟩,hj,hac,hu⟩;dsimp only at hj hac hu;dsimp only;refine wk_seq (wkA (okx [59] [60]) mixed (A:=A27) ?_)
  (repeat' (first|exact rfl|((conv=>whnf);first|exact rfl|exact ⟨rfl,rfl⟩|refine go1 ?_|(intro ep)|fail)));(conv=>whnf)
  by_cases hjm:j<M
  ·refine wk_seq (wk_cond (t:=true) (by show AV.bool (decide ((j:Int)<(M:Int)))=_;rw [decide_eq_true (by omega)]) (wk_skip ?_));(conv=>whnf);have hm:=strR_at (hX j hjm);have hjX:j<X.length:=by omega
   have hwk:IntKind.i64.wrap ((j:Int)+1)=((j+1:Nat):Int):=by simp (disch:=omega) only [wrapI];omega
   have hd:X.drop j=X.getD j []::X.drop (j+1):=by
    rw [drop_at hjX,List.getD_eq_getElem?_getD,List.getElem?_eq_getElem hjX];rfl
   rw [hd,outA] at hu;have hwl:(X.getD j []).length≤100000:=by
    rw [List.getD_eq_getElem?_getD,List.getElem?_eq_getElem hjX];exact hout _ (List.getElem_mem hjX)
   generalize X.getD j []=w at hm hu hwl;have hok:stdg y 0= .ok y:=by unfold stdg;rw [if_neg (by rintro (h|h|⟨_,h⟩)<;>first|omega|exact h rfl)]
   refine wk_seq (wk_block ?_);refine wk_seq (wkA (okx [59] [60]) mixed (A:=A27) ?_)
   (repeat' (first|exact rfl|((conv=>whnf);first|(refine optS hm ?_)|exact rfl|exact ⟨rfl,rfl⟩|refine go1 ?_|(intro ep)|fail)))
   (conv=>whnf);refine wkA (okx [59] [60]) mixed (A:=A27) ?_;cases hcw:cellW y 0 w with
   |none=>
    rw [hcw] at hu;dsimp only at hu;rw [hu] at hR
    (repeat' (first|exact rfl|((conv=>whnf);first|(exact cell61n y _ w hwl hok hcw fun t v h' hx=>hP hR t v _ (hx.trunc (Nat.le_of_ble_eq_true rfl)))|exact rfl|exact ⟨rfl,rfl⟩|refine go1 ?_|(intro ep)|(refine ifB ?_ ?_<;>intro hb<;>(try simp only [qs] at hb)<;>(try simp (disch:=omega) only [wrapI] at hb)<;>(try (exfalso;omega)))|fail)))
   |some wr=>
    rw [hcw] at hu;dsimp only at hu;by_cases hc:wr.c≤last
    ·rw [if_pos hc] at hu;rw [hu] at hR
     (repeat' (first|exact rfl|((conv=>whnf);first|(refine cell61s y _ w hwl hok hcw ?_)|(exact fail12 4 (by decide) fun t v h' hx=>hP hR t v _ (hx.trunc (Nat.le_of_ble_eq_true rfl)))|(exact absurd hc (Int.not_le.2 hb))|exact rfl|exact ⟨rfl,rfl⟩|refine go1 ?_|(intro ep)|(refine ifB ?_ ?_<;>intro hb<;>(try simp only [qs] at hb)<;>(try simp (disch:=omega) only [wrapI] at hb)<;>(try (exfalso;omega)))|fail)))
    ·rw [if_neg hc] at hu
     (repeat' (first|exact rfl|((conv=>whnf);first|(refine cell61s y _ w hwl hok hcw ?_)|(exact absurd hb hc)|exact rfl|exact ⟨rfl,rfl⟩|refine go1 ?_|(intro ep)|(refine ifB ?_ ?_<;>intro hb<;>(try simp only [qs] at hb)<;>(try simp (disch:=omega) only [wrapI] at hb)<;>(try (exfalso;omega)))|fail)))
     all_goals (conv=>whnf)
     all_goals refine wkA (okx [59] [60]) mixed (A:=A27) ?_
     all_goals (repeat' (first|exact rfl|((conv=>whnf);first|(rw [hwk])|exact rfl|exact ⟨rfl,rfl⟩|refine go1 ?_|(intro ep)|fail)))
     all_goals (conv=>whnf)
     all_goals (have hap:(acc++[wr]).map Wr.row=List.take acc.length (List.drop 0 (acc.map Wr.row))++[wr.row]:=by rw [List.drop_zero,List.take_of_length_le (by simp)];simp)
     all_goals (have hal2:acc.length+1=(acc++[wr]).length:=by simp)
     all_goals exact back_of ⟨(j+1,ep,wr.c,acc++[wr]),by dsimp only;omega,by dsimp only;omega,hu⟩ ⟨by dsimp only;rw [←hal2];rfl,by dsimp only;rw [hap];rfl,by dsimp only;omega⟩
  ·refine wk_seq (wk_cond (t:=false) (by show AV.bool (decide ((j:Int)<(M:Int)))=_;rw [decide_eq_false (by omega)]) (wk_exit ?_));rw [List.drop_eq_nil_of_le (by omega),outA] at hu;(conv=>whnf);exact back_of ⟨(e10,acc),hu⟩ ⟨rfl,rfl⟩
 rintro ⟨⟨e10,b⟩,hb0⟩;dsimp only at hb0;dsimp only;rw [hb0] at hR;dsimp only at hR;refine wkA (okx [59] [60]) mixed (A:=A27) ?_;cases b with
 |nil=>
  rw [if_pos rfl] at hR
  (repeat' (first|exact rfl|((conv=>whnf);first|(exact fail12 4 (by decide) fun t v h' hx=>hP hR t v _ (hx.trunc (Nat.le_of_ble_eq_true rfl)))|exact rfl|exact ⟨rfl,rfl⟩|refine go1 ?_|(intro ep)|(refine ifB ?_ ?_<;>intro hb<;>(try simp only [qs] at hb)<;>(try simp (disch:=omega) only [wrapI] at hb)<;>(try (exfalso;omega)))|fail)))
 |cons b0 br=>
  rw [if_neg (by simp)] at hR;have hk2:=fun rest d=>hK _ rest d hR
  (repeat' (first|exact hk2 _ _|((conv=>whnf);first|(refine ⟨wrow_pure _,?_⟩)|exact rfl|exact ⟨rfl,rfl⟩|refine go1 ?_|(intro ep)|(refine ifB ?_ ?_<;>intro hb<;>(try simp only [qs] at hb)<;>(try simp (disch:=omega) only [wrapI] at hb)<;>(try (exfalso;omega)))|fail)))
theorem chord27 {f g:AV} {q0 q1 q2 q3:AObj} {e:Nat} {ln:Int} {L:List (List UInt8)} {nn:Nat} {cl:Bool} {tl dy:List AObj} (y:Sy) (i:Ins) (ws:List (List UInt8)) (hi:i.cs.length≤100000) (hw:ws.length≤100000) (hx:∀x∈ws,x.length≤100000) {K:AV→Heap→Prop} {KP:Nat→Value→Heap→Prop}
  (hK:∀l,chordS y i ws=some l→K (wrsA l) ⟨q0::q1::q2::q3:: .vec e [[.int .u8 y.n,y.a,crsA i.cs,intsA i.steps,f,g,.int .i64 ln,.lslc 1 (strR L) 0 nn false,.bool cl]]::tl,dy⟩)
  (hP:chordS y i ws=none→∀t v h',PanOk q0 q1 q2 q3 t v h'→KP t v h'):
  ACallsP C.P 27 [.optr (.s 4) e 9 0 0,strsA ws] ⟨q0::q1::q2::q3:: .vec e [[.int .u8 y.n,y.a,crsA i.cs,intsA i.steps,f,g,.int .i64 ln,.lslc 1 (strR L) 0 nn false,.bool cl]]::tl,dy⟩ K KP:=by
 have h0:ACallsP C.P 27 [.optr (.s 4) e 9 0 0,strsA ws] ⟨[q0,q1,q2,q3,.vec e [[.int .u8 y.n,y.a,crsA i.cs,intsA i.steps,f,g,.int .i64 ln,.lslc 1 (strR L) 0 nn false,.bool cl]]]++tl,[]⟩
   (fun r h'=>∃l,chordS y i ws=some l∧r=wrsA l∧h'.st=q0::q1::q2::q3:: .vec e [[.int .u8 y.n,y.a,crsA i.cs,intsA i.steps,f,g,.int .i64 ln,.lslc 1 (strR L) 0 nn false,.bool cl]]::tl)
   (fun t v h'=>chordS y i ws=none∧PanOk q0 q1 q2 q3 t v h'):=
  ACallsP.tail (tl:=tl) (chord27b (f:=f) (g:=g) (ln:=ln) (L:=L) (nn:=nn) (cl:=cl) (K:=fun r h'=>∃l,chordS y i ws=some l∧r=wrsA l∧∃rest,h'.st=[q0,q1,q2,q3,.vec e [[.int .u8 y.n,y.a,crsA i.cs,intsA i.steps,f,g,.int .i64 ln,.lslc 1 (strR L) 0 nn false,.bool cl]]]++rest) (KP:=fun t v h'=>chordS y i ws=none∧PanOk q0 q1 q2 q3 t v h') y i ws hi hw hx (fun l rest d h=>⟨l,h,rfl,rest,rfl⟩) fun h _ _ _ x=>⟨h,x⟩)
   (fun r h1 ⟨l,h,e1,rest,e2⟩=>⟨l,h,e1,by rw [e2];rfl⟩) fun t v h1 ⟨h,x⟩=>⟨h,x.part (Nat.le_of_ble_eq_true rfl)⟩
 refine ACallsP.frameD (dy:=dy) h0 (fun r h1 ⟨l,h,e1,e2⟩=>?_) fun t v h1 ⟨h,x⟩=>hP h t v _ ⟨x.flt,x.keep⟩;subst e1;rw [e2];exact hK l h
end Go.Ab.V
