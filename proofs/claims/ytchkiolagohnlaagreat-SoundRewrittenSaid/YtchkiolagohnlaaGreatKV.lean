/-
  What is proved here serves the law's text: each part says its own claim and its conditions. No condition is left open.
-/
import Derived.Test.YtchkiolagohnlaaGreatKL
import Derived.Test.YtchkiolagohnlaaGreatKU
set_option linter.unusedSimpArgs false
set_option linter.unusedVariables false

/-
  Closed functions, evaluated at once, with contracts that are given from outside. No condition.
-/
namespace Go.Ab

/-- what is given, or what is evaluated -/
noncomputable def gN (G0 : XP) (F : XF) : XP := fun f args => match G0 f args with
  | some r => some r
  | none => match F f args [] 0 with
    | some (v, dy, _) => (match frzX dy v with | some r => fV r fun r => if r.isPure2 = true then some r else none | none => none)
    | none => none
theorem pokG {C : Ctx} {G0 : XP} {F : XF} (h0 : POk C G0) (hF : FOk C F) : POk C (gN G0 F) := by
  intro f args r h hp
  unfold gN at h
  split at h
  · rename_i r0 hr
    cases h
    exact h0 f args _ hr hp
  · exact pok_of hF f args r h hp
noncomputable def xfnG (C : Ctx) (fetch : FuncId → Option Func) (ord : FuncId → Nat → Option Plan) (N : Nat) (G0 : XP) (n : Nat) : XF :=
  Nat.rec (motive := fun _ => XF) (fun _ _ _ _ => none) (fun _ F f args dy c => match fetch f with
    | some fn => (match fn.body with
      | some code => xbody C F (gN G0 F) (ord f) N fn code args dy c
      | none => none)
    | none => none) n
theorem xfnG_sound {C : Ctx} (ok : COk C) (hm : C.P.follows .mixedOrders = true) (hy : C.yl = none) {fetch : FuncId → Option Func} {ord : FuncId → Nat → Option Plan} {N : Nat} {G0 : XP} (h0 : POk C G0)
    (hf : ∀ f fn, fetch f = some fn → C.P.funcs[f]? = some fn) (ho : ∀ f fn code, fetch f = some fn → fn.body = some code → codeOk C (ord f) code) : ∀ n, FOk C (xfnG C fetch ord N G0 n) := by
  intro n
  induction n with
  | zero => intro f args dy c v dy' c' h; cases h
  | succ n ih =>
    intro f args dy c v dy' c' h ha hd
    have h : (match fetch f with
    | some fn => (match fn.body with
      | some code => xbody C (xfnG C fetch ord N G0 n) (gN G0 (xfnG C fetch ord N G0 n)) (ord f) N fn code args dy c
      | none => none)
    | none => none) = some (v, dy', c') := h
    split at h
    · rename_i fn hfn
      split at h
      · rename_i code hb
        unfold xbody at h
        rw [appK_eq, fL_eq (fun _ _ => rfl)] at h
        have hfr : bdF c (frame0 args fn.ntmps) := by
          unfold bdF frame0
          rw [List.all_append, Bool.and_eq_true]
          refine ⟨ha, List.all_eq_true.2 fun x hx => ?_⟩
          rw [List.eq_of_mem_replicate hx]; rfl
        have hren : ∀ ε, renL ε (frame0 args fn.ntmps) = frame0 (renL ε args) fn.ntmps := fun ε => by
          unfold frame0
          rw [renL_app, renL_length]
          congr 1
          rw [renL_map, List.map_replicate]
          simp [AV.ren]
        have fin : ∀ {e : AE} {fr1 : List AV} {dy1 : List AObj} {c1 : Nat}, (∀ id, e ≠ .exit id) → xcode C (xfnG C fetch ord N G0 n) (gN G0 (xfnG C fetch ord N G0 n)) (ord f) N code (frame0 args fn.ntmps) dy c = some (e, fr1, dy1, c1) →
            (match resX C.ti fr1 dy1 fn.results.toList with
      | some vs => fV (resV vs) fun v => if bd c1 v = true then some (v, dy1, c1) else none
      | none => none) = some (v, dy', c') → c ≤ c' ∧ bd c' v = true ∧ bdH c' dy' ∧ ∀ ε K, (∀ ε', Agr c ε ε' → K (v.ren ε') (hp ε' dy')) → ACalls C.P f (renL ε args) (hp ε dy) K := by
          intro e fr1 dy1 c1 hne hx hr
          obtain ⟨a1, a2, a3, a4⟩ := xcode_sound ok hm ih (pokG h0 ih) (ho f fn code hfn hb) hx hfr hd
          split at hr
          · rename_i vs hvs
            rw [fV_eq] at hr
            split at hr
            · rename_i hbv
              cases hr
              refine ⟨a1, hbv, a3, fun ε K k => ?_⟩
              refine acalls_wk ok (hf f fn hfn) hb hy ?_
              rw [← hren]
              refine a4 ε _ fun ε' ag => ?_
              have hres : resK C.ti (renL ε' fr1) (hp ε' dy') fn.results.toList fun vs => K (resV vs) (hp ε' dy') := resX_sound ok.tok hvs (by rw [resV_ren]; exact k ε' ag)
              cases e with
              | normal => exact hres
              | ret => exact hres
              | exit id => exact absurd rfl (hne id)
            · cases hr
          · cases hr
        split at h
        · cases h
        · rename_i e fr1 dy1 c1 hne hx
          exact fin (fun id he => hne id he) hx h
        · cases h
      · cases h
    · cases h


/-- a closed call of which a contract is asked -/
theorem pret_runG {C : Ctx} (ok : COk C) (hm : C.P.follows .mixedOrders = true) (hy : C.yl = none) {fetch : FuncId → Option Func} {ord : FuncId → Nat → Option Plan} (N n : Nat) {G0 : XP} (h0 : POk C G0)
    (hf : ∀ f fn, fetch f = some fn → C.P.funcs[f]? = some fn) (ho : ∀ f fn code, fetch f = some fn → fn.body = some code → codeOk C (ord f) code) {f : FuncId} {args : List AV} {r : AV} (ha : args.all AV.isPure = true)
    (h : (match gN G0 (xfnG C fetch ord N G0 n) f args with | some r' => eqV 10 r' r | none => false) = true) : PRet C.P f args r := by
  split at h
  · rename_i r' hx
    rw [← eqV_iff h]
    exact (pokG h0 (xfnG_sound ok hm hy h0 hf ho n) f args r' hx ha).2
  · cases h
/-- one contract -/
noncomputable def given (f0 : FuncId) (a0 : List AV) (r0 : AV) : XP := fun f args => if Nat.beq f f0 = true then (if eqLs (eqV 10) args a0 = true then some r0 else none) else none
theorem given_ok {C : Ctx} {f0 : FuncId} {a0 : List AV} {r0 : AV} (hp : r0.isPure2 = true) (h : PRet C.P f0 a0 r0) : POk C (given f0 a0 r0) := by
  intro f args r hg ha
  unfold given at hg
  split at hg
  · rename_i e1
    split at hg
    · rename_i e2
      cases hg
      rw [Nat.eq_of_beq_eq_true e1, eqLs_iff (fun a b h => eqV_iff h) e2]
      exact ⟨hp, h⟩
    · cases hg
  · cases hg
end Go.Ab
