/-
  What is proved here serves the law's text: each part says its own claim and its conditions. No condition is left open.
-/
import Derived.Test.YtohegnfjdfcebaaGreatDoorKP
set_option maxHeartbeats 32000000
set_option maxRecDepth 100000
set_option linter.unusedSimpArgs false
set_option linter.unusedVariables false

namespace Go.Ab
theorem loopX {C:Ctx} {c:Code} (ok:COk C) (hm:C.P.follows .mixedOrders=true) {A:Ann} (l:List Nat) (kp:List Nat) {S:Type} (fr:S→List AV) (h:S→Heap) (μ:S→Nat) {K:AE→List AV→Heap→Prop} {fr0:List AV} {h0:Heap} (s0:S)
  (e1:maskF 0 l fr0=fr s0) (e2:maskH 0 kp h0=h s0) (lo ko:List Nat) {S':Type} (X:S'→Nat) (frX:S'→List AV) (hX:S'→Heap) (R:List AV→Heap→Prop)
  (hround:∀s,aexR C A c (fr s) (h s) fun e fr' h'=>match e with
   | .normal=>Back fun s'=>maskF 0 l fr'=fr s'∧maskH 0 kp h'=h s'∧μ s'<μ s
   | .exit id=>Back fun s'=>id=X s'∧maskF 0 lo fr'=frX s'∧maskH 0 ko h'=hX s'
   | .ret=>R fr' h'
   | .pan _ _=>False)
  (hr:∀fr h,R fr h→K .ret fr h) (hk:∀s',K (.exit (X s')) (frX s') (hX s')):WK C (.loop c) fr0 h0 K:=by
 have key:=loopM (K:=fun e fr' h'=>match e with
   | .normal=>False
   | .exit id=>Back fun s'=>id=X s'∧maskF 0 lo fr'=frX s'∧maskH 0 ko h'=hX s'
   | .ret=>R fr' h'
   | .pan _ _=>False) ok hm (A:=A) l kp fr h μ s0 e1 e2 hround
 refine ⟨fun rd B σ w a Q hrd hy hB sm hf hd hQ=>?_⟩;refine key.use rd B σ w a Q hrd hy hB sm hf hd fun e fr' h' σ' a' w' k m v d=>?_;cases e with
 |normal=>exact k.elim
 |ret=>exact hQ .ret fr' h' σ' a' w' (hr _ _ k) m v d
 |pan t v=>exact k.elim
 |exit id=>
  obtain ⟨s',rfl,e3,e4⟩:=back_ex k;have m3:Mv σ' h' w' σ' (maskH 0 ko h') w':=m.sim.forget fun i o x=>maskH_get _ _ _ _ _ x;rw [e4] at m3;have v3:=maskF_rel fr' 0 lo _ v;rw [e3] at v3;exact hQ (.exit (X s')) _ _ σ' a' w' (hk s') (m.trans m3) v3 d
theorem loopY {C:Ctx} {c:Code} (ok:COk C) (hm:C.P.follows .mixedOrders=true) {A:Ann} (l:List Nat) (kp:List Nat) {S:Type} (fr:S→List AV) (h:S→Heap) (μ:S→Nat) {K:AE→List AV→Heap→Prop} {fr0:List AV} {h0:Heap} (s0:S)
  (e1:maskF 0 l fr0=fr s0) (e2:maskH 0 kp h0=h s0) (lo ko:List Nat) {S':Type} (X:S'→Nat) (frX:S'→List AV) (hX:S'→Heap) (lr kr:List Nat) {S2:Type} (frR:S2→List AV) (hR:S2→Heap)
  (hround:∀s,aexR C A c (fr s) (h s) fun e fr' h'=>match e with
   | .normal=>Back fun s'=>maskF 0 l fr'=fr s'∧maskH 0 kp h'=h s'∧μ s'<μ s
   | .exit id=>Back fun s'=>id=X s'∧maskF 0 lo fr'=frX s'∧maskH 0 ko h'=hX s'
   | .ret=>Back fun s'=>maskF 0 lr fr'=frR s'∧maskH 0 kr h'=hR s'
   | .pan _ _=>False)
  (hr:∀s',K .ret (frR s') (hR s')) (hk:∀s',K (.exit (X s')) (frX s') (hX s')):WK C (.loop c) fr0 h0 K:=by
 have key:=loopM (K:=fun e fr' h'=>match e with
   | .normal=>False
   | .exit id=>Back fun s'=>id=X s'∧maskF 0 lo fr'=frX s'∧maskH 0 ko h'=hX s'
   | .ret=>Back fun s'=>maskF 0 lr fr'=frR s'∧maskH 0 kr h'=hR s'
   | .pan _ _=>False) ok hm (A:=A) l kp fr h μ s0 e1 e2 hround
 refine ⟨fun rd B σ w a Q hrd hy hB sm hf hd hQ=>?_⟩;refine key.use rd B σ w a Q hrd hy hB sm hf hd fun e fr' h' σ' a' w' k m v d=>?_;have fin:∀(e:AE) (lo ko:List Nat) (fr2:List AV) (h2:Heap),maskF 0 lo fr'=fr2→maskH 0 ko h'=h2→K e fr2 h2→Q e.toExit a' w':=by
  intro e lo ko fr2 h2 e3 e4 hK;have m3:Mv σ' h' w' σ' (maskH 0 ko h') w':=m.sim.forget fun i o x=>maskH_get _ _ _ _ _ x;rw [e4] at m3;have v3:=maskF_rel fr' 0 lo _ v;rw [e3] at v3;exact hQ e _ _ σ' a' w' hK (m.trans m3) v3 d
 cases e with
 |normal=>exact k.elim
 |pan t v=>exact k.elim
 |ret=>
  obtain ⟨s',e3,e4⟩:=back_ex k;exact fin .ret lr kr _ _ e3 e4 (hr s')
 |exit id=>
  obtain ⟨s',rfl,e3,e4⟩:=back_ex k;exact fin (.exit (X s')) lo ko _ _ e3 e4 (hk s')

end Go.Ab
