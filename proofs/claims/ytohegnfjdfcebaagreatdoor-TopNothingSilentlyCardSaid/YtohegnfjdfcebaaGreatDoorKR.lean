/-
  What is proved here serves the law's text: each part says its own claim and its conditions. No condition is left open.
-/
import Derived.Test.YtohegnfjdfcebaaGreatDoorKQ
set_option maxHeartbeats 32000000
set_option maxRecDepth 100000
set_option linter.unusedSimpArgs false
set_option linter.unusedVariables false

namespace Go.Ab
section
variable {C:Ctx} {fr:List AV} {h:Heap} {K:AE→List AV→Heap→Prop}
theorem wk_skip (k:K .normal fr h):WK C .skip fr h K:=
 ⟨fun rd B σ w a Q hrd hy hB s hf hd hQ=>wpIn_skip (hQ .normal fr h σ a w k (.refl s) hf hd)⟩
theorem wk_exit {id:Nat} (k:K (.exit id) fr h):WK C (.exit id) fr h K:=
 ⟨fun rd B σ w a Q hrd hy hB s hf hd hQ=>wpIn_exit (hQ (.exit id) fr h σ a w k (.refl s) hf hd)⟩
theorem wk_seq {x y:Code} (k:WK C x fr h fun e fr h=>match e with
  | .normal=>WK C y fr h K
  | .exit id=>K (.exit id) fr h
  | .ret=>K .ret fr h
  | .pan t v=>K (.pan t v) fr h):WK C (.seq x y) fr h K:=by
 refine ⟨fun rd B σ w a Q hrd hy hB s hf hd hQ=>?_⟩;refine wpIn_seq (k.use rd B σ w a _ hrd hy hB s hf hd fun e fr' h' σ' a' w' k m v d=>?_);cases e with
 |normal=>exact k.use rd B σ' w' a' Q hrd (hy.mono m.le) (Nat.le_trans hB m.size) m.sim v d fun e2 fr2 h2 σ2 a2 w2 k2 m2 v2 d2=>hQ e2 fr2 h2 σ2 a2 w2 k2 (m.trans m2) v2 d2
 |exit id=>exact hQ (.exit id) fr' h' σ' a' w' k m v d
 |ret=>exact hQ .ret fr' h' σ' a' w' k m v d
 |pan pt pv=>exact hQ (.pan pt pv) fr' h' σ' a' w' k m v d
theorem wk_cond {c:Operand} {x y:Code} {t:Bool} (ht:evl fr c= .bool t) (k:WK C (bif t then x else y) fr h K):WK C (.cond c x y) fr h K:=by
 refine ⟨fun rd B σ w a Q hrd hy hB s hf hd hQ=>?_⟩;have hr:=evl_rel s.gl hf c;rw [ht] at hr;have hv:a.eval c= .bool t:=by
  generalize a.eval c=u at hr;cases hr;rfl
 cases t with
 |true=>exact wpIn_cond_true hv (k.use rd B σ w a Q hrd hy hB s hf hd hQ)
 |false=>exact wpIn_cond_false hv (k.use rd B σ w a Q hrd hy hB s hf hd hQ)
theorem wk_block {id:Nat} {b:Code} (k:WK C b fr h fun e fr h=>match e with
  | .exit id'=>if id'=id then K .normal fr h else K (.exit id') fr h
  | .normal=>K .normal fr h
  | .ret=>K .ret fr h
  | .pan t v=>K (.pan t v) fr h):WK C (.block id b) fr h K:=by
 refine ⟨fun rd B σ w a Q hrd hy hB s hf hd hQ=>?_⟩;refine wpIn_block (k.use rd B σ w a _ hrd hy hB s hf hd fun e fr' h' σ' a' w' k m v d=>?_);cases e with
 |normal=>exact hQ .normal fr' h' σ' a' w' k m v d
 |exit id'=>
  show (if id'=id then Q .normal a' w' else Q (.exit id') a' w');simp only at k
  split
  ·rename_i e;rw [if_pos e] at k;exact hQ .normal fr' h' σ' a' w' k m v d
  ·rename_i e;rw [if_neg e] at k;exact hQ (.exit id') fr' h' σ' a' w' k m v d
 |ret=>exact hQ .ret fr' h' σ' a' w' k m v d
 |pan pt pv=>exact hQ (.pan pt pv) fr' h' σ' a' w' k m v d
end
end Go.Ab
