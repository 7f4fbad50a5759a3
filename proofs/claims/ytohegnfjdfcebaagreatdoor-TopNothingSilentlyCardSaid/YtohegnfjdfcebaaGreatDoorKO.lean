/-
  What is proved here serves the law's text: each part says its own claim and its conditions. No condition is left open.
-/
import Derived.Test.YtohegnfjdfcebaaGreatDoorKN
set_option maxHeartbeats 32000000
set_option maxRecDepth 100000
set_option linter.unusedSimpArgs false
set_option linter.unusedVariables false

namespace Go.Ab
def runR (C:Ctx) (ops:Array Oper) (slots:List (Nat×Nat)) (l:List Nat) (fr:List AV) (h:Heap) (K:List AV→Heap→Prop):Prop:=
 List.rec (motive:=fun _=>List AV→Heap→Prop) (fun fr h=>K fr h) (fun i _ ih fr h=>stepR C ops slots i ih fr h) l fr h
theorem runR_eq (C:Ctx) (ops:Array Oper) (slots:List (Nat×Nat)):∀(l:List Nat) (fr:List AV) (h:Heap) (K:List AV→Heap→Prop),runR C ops slots l fr h K=runE C ops slots l fr h K:=by
 intro l
 induction l with
 |nil=>intro fr h K;rfl
 |cons i r ih=>
  intro fr h K;have e:(fun fr h=>runR C ops slots r fr h K)=fun fr h=>runE C ops slots r fr h K:=funext fun fr=>funext fun h=>ih fr h K;show stepR C ops slots i (fun fr h=>runR C ops slots r fr h K) fr h=_;rw [e];simp only [stepR,runE,forceLR,forceHLR]
def liftR (l:List (Nat×Nat×Nat)) (fr:List AV) (h:Heap) (K:List AV→Heap→Prop):Prop:=
 List.rec (motive:=fun _=>List AV→Heap→Prop) (fun fr h=>K fr h) (fun p _ ih fr h=>
  match fr[p.1]? with
  |some .nils=>∀ep,forceR (fr.set p.1 (.oslc (.s p.2.1) ep p.2.2 0 0 false)) fun fr=>forceHR (h.set (.s p.2.1) (.vec ep [])) fun h=>ih fr h
  |_=>ih fr h) l fr h
theorem liftR_eq (K:List AV→Heap→Prop):∀(l:List (Nat×Nat×Nat)) (fr:List AV) (h:Heap),liftR l fr h K=liftK l fr h K:=by
 intro l
 induction l with
 |nil=>intro fr h;rfl
 |cons p l ih=>
  intro fr h;obtain ⟨t,id,sz⟩:=p;have e:(fun fr h=>liftR l fr h K)=fun fr h=>liftK l fr h K:=funext fun fr=>funext fun h=>ih fr h;show (match fr[t]? with
   |some .nils=>∀ep,forceR (fr.set t (.oslc (.s id) ep sz 0 0 false)) fun fr=>forceHR (h.set (.s id) (.vec ep [])) fun h=>(fun fr h=>liftR l fr h K) fr h
   |_=>(fun fr h=>liftR l fr h K) fr h)=_
  rw [e];simp only [liftK,forceR_eq,forceHR_eq];rfl
def frzR (l:List Nat) (fr:List AV) (h:Heap) (K:List AV→Heap→Prop):Prop:=
 List.rec (motive:=fun _=>List AV→Heap→Prop) (fun fr h=>K fr h) (fun t _ ih fr h=>
  match fr[t]? with
  |some a=>frzK h a fun a' h'=>forceV a' fun a'=>forceR (fr.set t a') fun fr=>forceHR h' fun h=>ih fr h
  |none=>fzSK (t-1000) fr h fun fr h=>forceR fr fun fr=>forceHR h fun h=>ih fr h) l fr h
theorem frzR_eq (K:List AV→Heap→Prop):∀(l:List Nat) (fr:List AV) (h:Heap),frzR l fr h K=frzSlots l fr h K:=by
 intro l
 induction l with
 |nil=>intro fr h;rfl
 |cons t l ih=>
  intro fr h;have e:(fun fr h=>frzR l fr h K)=fun fr h=>frzSlots l fr h K:=funext fun fr=>funext fun h=>ih fr h;show (match fr[t]? with
   |some a=>frzK h a fun a' h'=>forceV a' fun a'=>forceR (fr.set t a') fun fr=>forceHR h' fun h=>(fun fr h=>frzR l fr h K) fr h
   |none=>fzSK (t-1000) fr h fun fr h=>forceR fr fun fr=>forceHR h fun h=>(fun fr h=>frzR l fr h K) fr h)=_
  rw [e];simp only [frzSlots,forceR_eq,forceHR_eq,forceV_eq];rfl
def movR (l:List Nat) (fr:List AV) (h:Heap) (K:List AV→Heap→Prop):Prop:=
 List.rec (motive:=fun _=>List AV→Heap→Prop) (fun fr h=>K fr h) (fun t _ ih fr h=>
  match fr[t]? with
  |some a=>movK h a fun a' h'=>forceV a' fun a'=>forceR (fr.set t a') fun fr=>forceHR h' fun h=>ih fr h
  |none=>mvSK (t-1000) fr h fun fr h=>forceR fr fun fr=>forceHR h fun h=>ih fr h) l fr h
theorem movR_eq (K:List AV→Heap→Prop):∀(l:List Nat) (fr:List AV) (h:Heap),movR l fr h K=movSlots l fr h K:=by
 intro l
 induction l with
 |nil=>intro fr h;rfl
 |cons t l ih=>
  intro fr h;have e:(fun fr h=>movR l fr h K)=fun fr h=>movSlots l fr h K:=funext fun fr=>funext fun h=>ih fr h;show (match fr[t]? with
   |some a=>movK h a fun a' h'=>forceV a' fun a'=>forceR (fr.set t a') fun fr=>forceHR h' fun h=>(fun fr h=>movR l fr h K) fr h
   |none=>mvSK (t-1000) fr h fun fr h=>forceR fr fun fr=>forceHR h fun h=>(fun fr h=>movR l fr h K) fr h)=_
  rw [e];simp only [movSlots,forceR_eq,forceHR_eq,forceV_eq];rfl
def planR (C:Ctx) (ops:Array Oper) (slots:List (Nat×Nat)) (p:Plan) (fr:List AV) (h:Heap) (K:List AV→Heap→Prop):Prop:=
 Plan.rec (motive:=fun _=>List AV→Heap→(List AV→Heap→Prop)→Prop) (fun fr h K=>K fr h)
  (fun i _ ih fr h K=>runR C ops slots [i] fr h fun fr h=>ih fr h K)
  (fun i j _ _ ihp ihq fr h K=>(runR C ops slots [i] fr h fun fr h=>ihp fr h K)∧(runR C ops slots [j] fr h fun fr h=>ihq fr h K))
  (fun i j l _ _ _ ihp ihq ihr fr h K=>(runR C ops slots [i] fr h fun fr h=>ihp fr h K)∧(runR C ops slots [j] fr h fun fr h=>ihq fr h K)∧(runR C ops slots [l] fr h fun fr h=>ihr fr h K)) p fr h K
theorem planR_eq (C:Ctx) (ops:Array Oper) (slots:List (Nat×Nat)):∀(p:Plan) (fr:List AV) (h:Heap) (K:List AV→Heap→Prop),planR C ops slots p fr h K=planE C ops slots p fr h K:=by
 intro p
 induction p with
 |done=>intro fr h K;rfl
 |one i p ih=>
  intro fr h K;show (runR C ops slots [i] fr h fun fr h=>planR C ops slots p fr h K)=_;rw [show (fun fr h=>planR C ops slots p fr h K)=fun fr h=>planE C ops slots p fr h K from funext fun fr=>funext fun h=>ih fr h K,runR_eq];rfl
 |br i j p q ihp ihq=>
  intro fr h K;show ((runR C ops slots [i] fr h fun fr h=>planR C ops slots p fr h K)∧(runR C ops slots [j] fr h fun fr h=>planR C ops slots q fr h K))=_;rw [show (fun fr h=>planR C ops slots p fr h K)=fun fr h=>planE C ops slots p fr h K from funext fun fr=>funext fun h=>ihp fr h K,
   show (fun fr h=>planR C ops slots q fr h K)=fun fr h=>planE C ops slots q fr h K from funext fun fr=>funext fun h=>ihq fr h K,runR_eq,runR_eq]
  rfl
 |br3 i j l p q r ihp ihq ihr=>
  intro fr h K;show ((runR C ops slots [i] fr h fun fr h=>planR C ops slots p fr h K)∧(runR C ops slots [j] fr h fun fr h=>planR C ops slots q fr h K)∧(runR C ops slots [l] fr h fun fr h=>planR C ops slots r fr h K))=_;rw [show (fun fr h=>planR C ops slots p fr h K)=fun fr h=>planE C ops slots p fr h K from funext fun fr=>funext fun h=>ihp fr h K,
   show (fun fr h=>planR C ops slots q fr h K)=fun fr h=>planE C ops slots q fr h K from funext fun fr=>funext fun h=>ihq fr h K,
   show (fun fr h=>planR C ops slots r fr h K)=fun fr h=>planE C ops slots r fr h K from funext fun fr=>funext fun h=>ihr fr h K,runR_eq,runR_eq,runR_eq]
  rfl
def regR (C:Ctx) (A:RAnn) (ops:Array Oper) (draw:Bool) (fr:List AV) (h:Heap) (K:List AV→Heap→Prop):Prop:=
 forceR (match A.live with|some l=>maskF 0 l fr|none=>fr) fun fr=>forceHR (match A.keep with|some l=>maskH 0 l h|none=>h) fun h=>
  liftR A.lifts fr h fun fr h=>forceHR (holesH A.slots ops h) fun h=>
   match draw with
   |false=>forceR (List.range ops.size) fun ord=>runR C ops A.slots ord fr h fun fr h=>frzR A.frz fr h fun fr h=>movR A.mv fr h K
   |true=>match A.plan with
    |none=>forceR (match A.canon with|some l=>l|none=>List.range ops.size) fun ord=>
     drawOk (C.g A.dg) ops A.slots ord=true∧runR (C.g A.dg) ops A.slots ord fr h fun fr h=>frzR A.frz fr h fun fr h=>movR A.mv fr h K
    |some p=>planOk (C.g A.dg) ops A.slots p=true∧planR (C.g A.dg) ops A.slots p fr h fun fr h=>frzR A.frz fr h fun fr h=>movR A.mv fr h K
theorem regR_eq {C:Ctx} {A:RAnn} {ops:Array Oper} {draw:Bool} {fr:List AV} {h:Heap} {K:List AV→Heap→Prop}:regR C A ops draw fr h K=regK C A ops draw fr h K:=by
 have e0:(fun fr h=>movR A.mv fr h K)=fun fr h=>movSlots A.mv fr h K:=funext fun fr=>funext fun h=>movR_eq K _ fr h;have e:(fun fr h=>frzR A.frz fr h fun fr h=>movR A.mv fr h K)=fun fr h=>frzSlots A.frz fr h fun fr h=>movSlots A.mv fr h K:=by
  rw [e0];exact funext fun fr=>funext fun h=>frzR_eq _ _ fr h
 have d:∀(b:Bool) (p:Prop),(b=true∧p)=(match b with|true=>p|false=>False):=fun b p=>by cases b<;>simp
 unfold regR regK;simp only [forceR_eq,forceL_eq,forceHR_eq,forceH_eq,liftR_eq,runR_eq,planR_eq,e,d];rfl
def regPR (C:Ctx) (A:RAnn) (ops:Array Oper) (draw:Bool) (fr:List AV) (h:Heap) (K:List AV→Heap→Prop) (KP:Nat→Value→List AV→Heap→Prop):Prop:=
 match draw with
 |true=>False
 |false=>forceR (match A.live with|some l=>maskF 0 l fr|none=>fr) fun fr=>forceHR (match A.keep with|some l=>maskH 0 l h|none=>h) fun h=>
  liftR A.lifts fr h fun fr h=>forceHR (holesH A.slots ops h) fun h=>
   forceR (List.range ops.size) fun ord=>runP C ops A.slots A.pan KP ord fr h fun fr h=>frzR A.frz fr h fun fr h=>movR A.mv fr h K
theorem regPR_eq {C:Ctx} {A:RAnn} {ops:Array Oper} {draw:Bool} {fr:List AV} {h:Heap} {K:List AV→Heap→Prop} {KP:Nat→Value→List AV→Heap→Prop}:regPR C A ops draw fr h K KP=regP C A ops draw fr h K KP:=by
 have e0:(fun fr h=>movR A.mv fr h K)=fun fr h=>movSlots A.mv fr h K:=funext fun fr=>funext fun h=>movR_eq K _ fr h;have e:(fun fr h=>frzR A.frz fr h fun fr h=>movR A.mv fr h K)=fun fr h=>frzSlots A.frz fr h fun fr h=>movSlots A.mv fr h K:=by
  rw [e0];exact funext fun fr=>funext fun h=>frzR_eq _ _ fr h
 unfold regPR regP;simp only [forceR_eq,forceHR_eq,liftR_eq,e];rfl
def aexR (C:Ctx) (A:Ann) (c:Code) (fr:List AV) (h:Heap) (K:AE→List AV→Heap→Prop):Prop:=
 Code.rec (motive:=fun _=>List AV→Heap→(AE→List AV→Heap→Prop)→Prop)
  (fun fr h K=>K .normal fr h)
  (fun id ops draw fr h K=>match (A id).pan with
   | []=>regR C (A id) ops draw fr h fun fr h=>K .normal fr h
   |_::_=>regPR C (A id) ops draw fr h (fun fr h=>K .normal fr h) fun t v fr h=>K (.pan t v) fr h)
  (fun _ _ iha ihb fr h K=>iha fr h fun e fr h=>match e with
   | .normal=>ihb fr h K
   | .exit id=>K (.exit id) fr h
   | .ret=>K .ret fr h
   | .pan t v=>K (.pan t v) fr h)
  (fun c _ _ ihx ihy fr h K=>match evl fr c with
   | .bool t=>(match t with|true=>ihx fr h K|false=>ihy fr h K)
   |_=>False)
  (fun id _ ih fr h K=>ih fr h fun e fr h=>match e with
   | .exit id'=>(match Nat.beq id' id with|true=>K .normal fr h|false=>K (.exit id') fr h)
   | .normal=>K .normal fr h
   | .ret=>K .ret fr h
   | .pan t v=>K (.pan t v) fr h)
  (fun b _ fr h K=>WK C (.loop b) fr h K)
  (fun f ps a b _ _ fr h K=>WK C (.rangeFunc f ps a b) fr h K)
  (fun id fr h K=>K (.exit id) fr h)
  (fun _ _ _ _ _=>False)
  (fun _ _ _ _=>False)
  (fun _ _ _ _=>False)
  (fun fr h K=>K .ret fr h)
  (fun _ _ _ _=>False) c fr h K
theorem aexR_eq (C:Ctx) (A:Ann):∀(c:Code) (fr:List AV) (h:Heap) (K:AE→List AV→Heap→Prop),aexR C A c fr h K=aexec C A c fr h K:=by
 intro c
 induction c with
 |skip=>intro fr h K;rfl
 |region id ops draw=>
  intro fr h K;show (match (A id).pan with|[]=>regR C (A id) ops draw fr h fun fr h=>K .normal fr h|_::_=>regPR C (A id) ops draw fr h (fun fr h=>K .normal fr h) fun t v fr h=>K (.pan t v) fr h)=_;unfold aexec;cases (A id).pan with
  |nil=>exact regR_eq
  |cons _ _=>exact regPR_eq
 |seq x y ihx ihy=>
  intro fr h K;have e:∀K,(fun fr h=>aexR C A y fr h K)=fun fr h=>aexec C A y fr h K:=fun K=>funext fun fr=>funext fun h=>ihy fr h K;show (aexR C A x fr h fun e fr h=>match e with| .normal=>(fun fr h=>aexR C A y fr h K) fr h| .exit id=>K (.exit id) fr h| .ret=>K .ret fr h| .pan t v=>K (.pan t v) fr h)=_;rw [ihx,e];rfl
 |cond c x y ihx ihy=>
  intro fr h K;show (match evl fr c with| .bool t=>(match t with|true=>aexR C A x fr h K|false=>aexR C A y fr h K)|_=>False)=_;rw [ihx,ihy];rfl
 |block id b ih=>
  intro fr h K;show (aexR C A b fr h fun e fr h=>match e with| .exit id'=>(match Nat.beq id' id with|true=>K .normal fr h|false=>K (.exit id') fr h)| .normal=>K .normal fr h| .ret=>K .ret fr h| .pan t v=>K (.pan t v) fr h)=_;rw [ih];refine congrArg (aexec C A b fr h) (funext fun e=>funext fun fr=>funext fun h=>?_);cases e with
  |normal=>rfl
  |ret=>rfl
  |pan t v=>rfl
  |exit id'=>
   show (match Nat.beq id' id with|true=>K .normal fr h|false=>K (.exit id') fr h)=if id'=id then K .normal fr h else K (.exit id') fr h
   cases hb:Nat.beq id' id with
   |true=>rw [if_pos (Nat.eq_of_beq_eq_true hb)]
   |false=>rw [if_neg (Nat.ne_of_beq_eq_false hb)]
 |loop b ih=>intro fr h K;rfl
 |rangeFunc f ps a b iha ihb=>intro fr h K;rfl
 |exit id=>intro fr h K;rfl
 |ret=>intro fr h K;rfl
 |_=>intros;rfl
def resR (ti:TI) (l:List ResultVar) (fr:List AV) (h:Heap) (K:List AV→Prop):Prop:=
 List.rec (motive:=fun _=>(List AV→Prop)→Prop) (fun K=>K []) (fun x _ ih K=>match x with
  | .tmp t=>forceV (fr.getD t .u) fun v=>ih fun vs=>K (v::vs)
  | .cell a t=>readK ti (evl fr) h (.load t (.tmp a)) fun v=>ih fun vs=>K (v::vs)) l K
theorem resR_eq (ti:TI) (fr:List AV) (h:Heap):∀(l:List ResultVar) (K:List AV→Prop),resR ti l fr h K=resK ti fr h l K:=by
 intro l
 induction l with
 |nil=>intro K;rfl
 |cons x l ih=>
  intro K;cases x with
  |tmp t=>
   show (forceV (fr.getD t .u) fun v=>resR ti l fr h fun vs=>K (v::vs))=_;rw [forceV_eq,ih];rfl
  |cell a t=>
   have e:(fun v=>resR ti l fr h fun vs=>K (v::vs))=fun v=>resK ti fr h l fun vs=>K (v::vs):=funext fun v=>ih _;show (readK ti (evl fr) h (.load t (.tmp a)) fun v=>resR ti l fr h fun vs=>K (v::vs))=_;rw [e];rfl
def retV (vs:List AV) (K:AV→Prop):Prop:=match vs with
 | [v]=>K v
 |vs=>K (.tup vs)
theorem retV_eq (vs:List AV) (K:AV→Prop):retV vs K=K (resV vs):=by
 match vs with
 | []=>rfl
 | [v]=>rfl
 |_::_::_=>rfl
theorem fn_of {C:Ctx} (ok:COk C) (hm:C.P.follows .mixedOrders=true) {A:Ann} {f:FuncId} {fn:Func} {c:Code} (n:Nat) (hf:C.P.funcs[f]? =some fn) (hb:fn.body=some c) {args:List AV} {h:Heap} {K:AV→Heap→Prop}
  (hk:forceR (frame0 args fn.ntmps) fun fr=>forceHR (heap0 h n) fun h=>aexR C A c fr h fun e fr h'=>match e with
   | .normal=>resR C.ti fn.results.toList fr h' fun vs=>retV vs fun v=>K v h'
   | .ret=>resR C.ti fn.results.toList fr h' fun vs=>retV vs fun v=>K v h'
   | .pan _ _=>False
   | .exit _=>False) (hy:C.yl=none:=by rfl):ACalls C.P f args h K:=by
 refine acalls_of ok hm n hf hb (A:=A) ?_ hy;rw [forceR_eq,forceHR_eq,aexR_eq] at hk;simp only [resR_eq,retV_eq] at hk;refine Eq.mp (congrArg (aexec C A c (frame0 args fn.ntmps) (heap0 h n)) (funext fun e=>funext fun fr=>funext fun h'=>?_)) hk;cases e<;>rfl
end Go.Ab
