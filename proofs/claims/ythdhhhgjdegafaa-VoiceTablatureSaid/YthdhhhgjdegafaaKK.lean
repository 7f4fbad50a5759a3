/-
  What is proved here serves the law's text: each part says its own claim and its conditions. No condition is left open.
-/
import Derived.Test.YthdhhhgjdegafaaKJ
set_option linter.unusedSimpArgs false
set_option linter.unusedVariables false

namespace Go.Ab
abbrev XF := FuncId → List AV → List AObj → Nat → Option (AV × List AObj × Nat)
abbrev XP := FuncId → List AV → Option AV
def bdF (c : Nat) (fr : List AV) : Prop := fr.all (bd c) = true
def bdH (c : Nat) (dy : List AObj) : Prop := dy.all (bdO c) = true
theorem bdF.le {c c' : Nat} (hc : c ≤ c') {fr : List AV} (h : bdF c fr) : bdF c' fr := all_le (fun _ => bd_le hc) h
theorem bdH.le {c c' : Nat} (hc : c ≤ c') {dy : List AObj} (h : bdH c dy) : bdH c' dy := all_le (fun _ => bdO_le hc) h
def FOk (C : Ctx) (F : XF) : Prop := ∀ f args dy c v dy' c', F f args dy c = some (v, dy', c') → bdF c args → bdH c dy →
 c ≤ c' ∧ bd c' v = true ∧ bdH c' dy' ∧ ∀ ε K, (∀ ε', Agr c ε ε' → K (v.ren ε') (hp ε' dy')) → ACalls C.P f (renL ε args) (hp ε dy) K
def POk (C : Ctx) (G : XP) : Prop := ∀ f args r, G f args = some r → args.all AV.isPure = true → r.isPure2 = true ∧ PRet C.P f args r
theorem hp_agr {c : Nat} {ε ε' : Nat → Nat} (a : Agr c ε ε') {dy : List AObj} (h : bdH c dy) : hp ε' dy = hp ε dy := by
 unfold hp
 rw [dy_bd a h]
theorem Agr.hpk {c : Nat} {ε ε' : Nat → Nat} {v : AV} {dy : List AObj} (a : Agr c ε ε') (h : bdH c dy) (hv : bd c v = true) {K : AV → Heap → Prop} (k : K (v.ren ε') (hp ε' dy)) : K (v.ren ε) (hp ε dy) := by
 rwa [hp_agr a h, ren_bd a hv] at k
section
variable {C : Ctx} (ok : COk C) {F : XF} {G : XP} (hF : FOk C F) (hG : POk C G)
include ok hF hG
end
section
variable {C : Ctx} (ok : COk C) {F : XF} {G : XP} (hF : FOk C F) (hG : POk C G)
include ok hF hG
end
end Go.Ab
