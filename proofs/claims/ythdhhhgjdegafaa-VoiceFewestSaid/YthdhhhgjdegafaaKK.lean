/-
  What is proved here serves the law's text: each part says its own claim and its conditions. No condition is left open.
-/
import Derived.Test.YthdhhhgjdegafaaKJ
set_option linter.unusedSimpArgs false
set_option linter.unusedVariables false

/-
  Regions, codes and functions, evaluated at once. No condition.
-/
namespace Go.Ab

noncomputable def evX (fr : List AV) : Operand → AV
  | .tmp t => nth fr t .u
  | .const v => (ofVal v).getD .u
  | .global _ => .u
  | .func f => .fn (.func f) [] []
theorem evX_eq (fr : List AV) : evX fr = evl fr := by
  funext x
  cases x <;> simp only [evX, evl, nth_eq]
theorem ofVal_ren {ε : Nat → Nat} (v : Value) : ((ofVal v).getD .u).ren ε = (ofVal v).getD .u := by
  unfold ofVal
  split <;> rfl
theorem evl_ren (ε : Nat → Nat) (fr : List AV) : evl (renL ε fr) = fun x => (evl fr x).ren ε := by
  funext x
  cases x with
  | tmp t =>
    simp only [evl, List.getD, renL_get]
    cases fr[t]? <;> simp [AV.ren]
  | const v => simp only [evl, ofVal_ren]
  | global g => simp [evl, AV.ren]
  | func f => simp [evl, AV.ren, renL]

/-- the functions that are called: with the caller's heap; or with nothing of it, the result being frozen -/
abbrev XF := FuncId → List AV → List AObj → Nat → Option (AV × List AObj × Nat)
abbrev XP := FuncId → List AV → Option AV
def bdF (c : Nat) (fr : List AV) : Prop := fr.all (bd c) = true
def bdH (c : Nat) (dy : List AObj) : Prop := dy.all (bdO c) = true
theorem bdF.le {c c' : Nat} (hc : c ≤ c') {fr : List AV} (h : bdF c fr) : bdF c' fr := all_le (fun _ => bd_le hc) h
theorem bdH.le {c c' : Nat} (hc : c ≤ c') {dy : List AObj} (h : bdH c dy) : bdH c' dy := all_le (fun _ => bdO_le hc) h
def FOk (C : Ctx) (F : XF) : Prop := ∀ f args dy c v dy' c', F f args dy c = some (v, dy', c') → bdF c args → bdH c dy →
  c ≤ c' ∧ bd c' v = true ∧ bdH c' dy' ∧ ∀ ε K, (∀ ε', Agr c ε ε' → K (v.ren ε') (hp ε' dy')) → ACalls C.P f (renL ε args) (hp ε dy) K
def POk (C : Ctx) (G : XP) : Prop := ∀ f args r, G f args = some r → args.all AV.isPure = true → r.isPure2 = true ∧ PRet C.P f args r

noncomputable def holeAt (dy : List AObj) (n : Nat) : Bool := match nthO dy n with | some .hole => true | _ => false
theorem holeAt_eq {dy : List AObj} {n : Nat} (h : holeAt dy n = true) : dy[n]? = some .hole := by
  unfold holeAt at h
  rw [nthO_eq] at h
  split at h
  · assumption
  · cases h
def isCall : Op → Bool
  | .call _ => true
  | _ => false

/-- the same, surely -/
def eqLs {α : Type} (f : α → α → Bool) : List α → List α → Bool
  | [], [] => true
  | a :: l, b :: m => f a b && eqLs f l m
  | _, _ => false
theorem eqLs_iff {α : Type} {f : α → α → Bool} (hf : ∀ a b, f a b = true → a = b) : ∀ {l m : List α}, eqLs f l m = true → l = m
  | [], [], _ => rfl
  | [], _ :: _, h => by cases h
  | _ :: _, [], h => by cases h
  | a :: l, b :: m, h => by
    simp only [eqLs, Bool.and_eq_true] at h
    rw [hf a b h.1, eqLs_iff hf h.2]
def eqFn : Fn → Fn → Bool
  | .func f, .func g => Nat.beq f g
  | _, _ => false
theorem eqFn_iff {a b : Fn} (h : eqFn a b = true) : a = b := by
  unfold eqFn at h
  split at h
  · rw [Nat.eq_of_beq_eq_true h]
  · cases h
def eqV : Nat → AV → AV → Bool
  | 0, _, _ => false
  | n + 1, a, b => match a, b with
    | .int k x, .int k' y => decide (k = k' ∧ x = y)
    | .bool x, .bool y => decide (x = y)
    | .nilp, .nilp | .nils, .nils | .nilm, .nilm | .nilf, .nilf | .u, .u => true
    | .optr id ep sz i off, .optr id' ep' sz' i' off' => decide (id = id' ∧ ep = ep' ∧ sz = sz' ∧ i = i' ∧ off = off')
    | .lptr sz rows i off, .lptr sz' rows' i' off' => decide (sz = sz' ∧ i = i' ∧ off = off') && eqLs (eqLs (eqV n)) rows rows'
    | .oslc id ep sz off len lim, .oslc id' ep' sz' off' len' lim' => decide (id = id' ∧ ep = ep' ∧ sz = sz' ∧ off = off' ∧ len = len' ∧ lim = lim')
    | .lslc sz rows off len lim, .lslc sz' rows' off' len' lim' => decide (sz = sz' ∧ off = off' ∧ len = len' ∧ lim = lim') && eqLs (eqLs (eqV n)) rows rows'
    | .mp id ep, .mp id' ep' => decide (id = id' ∧ ep = ep')
    | .fn f x y, .fn f' x' y' => eqFn f f' && (eqLs (eqV n) x x' && eqLs (eqV n) y y')
    | .agg x, .agg y => eqLs (eqV n) x y
    | .tup x, .tup y => eqLs (eqV n) x y
    | _, _ => false
theorem eqV_iff : ∀ {n : Nat} {a b : AV}, eqV n a b = true → a = b := by
  intro n
  induction n with
  | zero => intro a b h; cases h
  | succ n ih =>
    intro a b h
    unfold eqV at h
    have il : ∀ {x y : List AV}, eqLs (eqV n) x y = true → x = y := fun h => eqLs_iff (fun _ _ => ih) h
    have ill : ∀ {x y : List (List AV)}, eqLs (eqLs (eqV n)) x y = true → x = y := fun h => eqLs_iff (fun _ _ => il) h
    split at h <;> (try simp only [Bool.and_eq_true, decide_eq_true_eq] at h) <;> first
      | rfl
      | (obtain ⟨rfl, rfl⟩ := h; rfl)
      | (subst h; rfl)
      | (obtain ⟨rfl, rfl, rfl, rfl, rfl⟩ := h; rfl)
      | (obtain ⟨rfl, rfl, rfl, rfl, rfl, rfl⟩ := h; rfl)
      | (obtain ⟨⟨rfl, rfl, rfl⟩, h2⟩ := h; rw [ill h2])
      | (obtain ⟨⟨rfl, rfl, rfl, rfl⟩, h2⟩ := h; rw [ill h2])
      | (obtain ⟨h1, h2, h3⟩ := h; rw [eqFn_iff h1, il h2, il h3])
      | (rw [il h])
      | cases h
def eqO : AObj → AObj → Bool
  | .hole, .hole => true
  | .vec ep rows, .vec ep' rows' => Nat.beq ep ep' && eqLs (eqLs (eqV 10)) rows rows'
  | .map ep es, .map ep' es' => Nat.beq ep ep' && eqLs (fun p q => eqV 10 p.1 q.1 && eqV 10 p.2 q.2) es es'
  | _, _ => false
theorem eqO_iff {a b : AObj} (h : eqO a b = true) : a = b := by
  unfold eqO at h
  split at h
  · rfl
  · simp only [Bool.and_eq_true] at h
    rw [Nat.eq_of_beq_eq_true h.1, eqLs_iff (fun _ _ => eqLs_iff fun _ _ => eqV_iff) h.2]
  · simp only [Bool.and_eq_true] at h
    rw [Nat.eq_of_beq_eq_true h.1, eqLs_iff (fun p q hpq => by
      simp only [Bool.and_eq_true] at hpq
      obtain ⟨p1, p2⟩ := p
      obtain ⟨q1, q2⟩ := q
      simp only at hpq
      rw [eqV_iff hpq.1, eqV_iff hpq.2]) h.2]
  · cases h
/-! ### the same but for a naming of the epochs -/
def eqR (π : Nat → Nat) : AV → AV → Bool
  | .optr id ep sz i off, .optr id' ep' sz' i' off' => decide (id = id' ∧ π ep = ep' ∧ sz = sz' ∧ i = i' ∧ off = off')
  | .oslc id ep sz off len lim, .oslc id' ep' sz' off' len' lim' => decide (id = id' ∧ π ep = ep' ∧ sz = sz' ∧ off = off' ∧ len = len' ∧ lim = lim')
  | .mp id ep, .mp id' ep' => decide (id = id' ∧ π ep = ep')
  | .agg _, _ | .tup _, _ | .fn .., _ => false
  | a, b => eqV 10 a b
theorem eqR_iff {π : Nat → Nat} {a b : AV} (h : eqR π a b = true) : a.ren π = b := by
  unfold eqR at h
  split at h
  · simp only [decide_eq_true_eq] at h
    obtain ⟨rfl, rfl, rfl, rfl, rfl⟩ := h
    rfl
  · simp only [decide_eq_true_eq] at h
    obtain ⟨rfl, rfl, rfl, rfl, rfl, rfl⟩ := h
    rfl
  · simp only [decide_eq_true_eq] at h
    obtain ⟨rfl, rfl⟩ := h
    rfl
  · cases h
  · cases h
  · cases h
  · rename_i h1 h2 h3 h4 h5 h6
    have := eqV_iff h
    subst this
    cases a with
    | optr => exact (h4 _ _ _ _ _ _ _ _ _ _ rfl rfl).elim
    | oslc => exact (h5 _ _ _ _ _ _ _ _ _ _ _ _ rfl rfl).elim
    | mp => exact (h6 _ _ _ _ rfl rfl).elim
    | agg => exact (h1 _ rfl).elim
    | tup => exact (h2 _ rfl).elim
    | fn => exact (h3 _ _ _ rfl).elim
    | _ => rfl
def eqR1 (π : Nat → Nat) : AV → AV → Bool
  | .agg x, .agg y => eqLs (eqR π) x y
  | .fn f x y, .fn f' x' y' => eqFn f f' && (eqLs (eqR π) x x' && eqLs (eqR π) y y')
  | a, b => eqR π a b
theorem renL_of {π : Nat → Nat} {f : AV → AV → Bool} (hf : ∀ a b, f a b = true → a.ren π = b) : ∀ {l m : List AV}, eqLs f l m = true → renL π l = m
  | [], [], _ => by rw [renL]
  | [], _ :: _, h => by cases h
  | _ :: _, [], h => by cases h
  | a :: l, b :: m, h => by
    simp only [eqLs, Bool.and_eq_true] at h
    rw [renL, hf a b h.1, renL_of hf h.2]
theorem eqR1_iff {π : Nat → Nat} {a b : AV} (h : eqR1 π a b = true) : a.ren π = b := by
  unfold eqR1 at h
  split at h
  · rw [AV.ren, renL_of (fun _ _ => eqR_iff) h]
  · simp only [Bool.and_eq_true] at h
    rw [AV.ren, eqFn_iff h.1, renL_of (fun _ _ => eqR_iff) h.2.1, renL_of (fun _ _ => eqR_iff) h.2.2]
  · exact eqR_iff h
def eqR2 (π : Nat → Nat) : AV → AV → Bool
  | .tup x, .tup y => eqLs (eqR1 π) x y
  | a, b => eqR1 π a b
theorem eqR2_iff {π : Nat → Nat} {a b : AV} (h : eqR2 π a b = true) : a.ren π = b := by
  unfold eqR2 at h
  split at h
  · rw [AV.ren, renL_of (fun _ _ => eqR1_iff) h]
  · exact eqR1_iff h
def eqRO (π : Nat → Nat) : AObj → AObj → Bool
  | .hole, .hole => true
  | .vec ep rows, .vec ep' rows' => decide (π ep = ep') && eqLs (eqLs (eqR1 π)) rows rows'
  | .map ep es, .map ep' es' => decide (π ep = ep') && eqLs (fun p q => eqR1 π p.1 q.1 && eqR1 π p.2 q.2) es es'
  | _, _ => false
theorem mapR_of {α : Type} {g : α → α} {f : α → α → Bool} (hf : ∀ a b, f a b = true → g a = b) : ∀ {l m : List α}, eqLs f l m = true → l.map g = m
  | [], [], _ => rfl
  | [], _ :: _, h => by cases h
  | _ :: _, [], h => by cases h
  | a :: l, b :: m, h => by
    simp only [eqLs, Bool.and_eq_true] at h
    rw [List.map_cons, hf a b h.1, mapR_of hf h.2]
theorem eqRO_iff {π : Nat → Nat} {a b : AObj} (h : eqRO π a b = true) : a.ren π = b := by
  unfold eqRO at h
  split at h
  · rfl
  · simp only [Bool.and_eq_true, decide_eq_true_eq] at h
    rw [AObj.ren, h.1, mapR_of (g := renL π) (fun _ _ hr => renL_of (fun _ _ => eqR1_iff) hr) h.2]
  · simp only [Bool.and_eq_true, decide_eq_true_eq] at h
    rw [AObj.ren, h.1, mapR_of (g := fun p => (p.1.ren π, p.2.ren π)) (fun p q hpq => by
      simp only [Bool.and_eq_true] at hpq
      rw [eqR1_iff hpq.1, eqR1_iff hpq.2]) h.2]
  · cases h
/-- does the one heap begin as the other? -/
def prefX : List AObj → List AObj → Bool
  | [], _ => true
  | a :: l, b :: m => eqO a b && prefX l m
  | _, _ => false
theorem prefX_get : ∀ {l m : List AObj}, prefX l m = true → ∀ (i : Nat) (o : AObj), l[i]? = some o → m[i]? = some o
  | [], _, _, i, o, h => by simp at h
  | a :: l, [], h, _, _, _ => by cases h
  | a :: l, b :: m, h, i, o, x => by
    simp only [prefX, Bool.and_eq_true] at h
    cases i with
    | zero => simp at x ⊢; rw [← eqO_iff h.1, x]
    | succ i => simp at x ⊢; exact prefX_get h.2 i o x

noncomputable def xop (C : Ctx) (F : XF) (G : XP) (fr : List AV) (dy : List AObj) (c n : Nat) (op : Op) : Option (AV × List AObj × Nat) :=
  match clsOf C op with
  | .pure => match pureX C.ti (evX fr) op with
    | some v => fV v fun v => if bd c v = true then some (v, dy, c) else none
    | none => none
  | .read => match readX C.ti (evX fr) dy op with
    | some v => fV v fun v => if bd c v = true then some (v, dy, c) else none
    | none => none
  | .alloc => match allocX C.ti (evX fr) n c op with
    | some (v, o) => fV v fun v => fO o fun o => if (holeAt dy n && bdR c o && bdO (c + 1) o && bd (c + 1) v) = true then setK dy n o fun dy => fN (c + 1) fun c => some (v, dy, c) else none
    | none => none
  | .eff => match effX C.ti (evX fr) dy n c op with
    | some (v, ch, c') => fV v fun v => fN c' fun c' => if ((!isCall op || holeAt dy n) && bdC c ch && bd c' v && Nat.ble c c') = true then (match ch with
      | some (m, o) => fO o fun o => if bdO c' o = true then setK dy m o fun dy => some (v, dy, c') else none
      | none => some (v, dy, c')) else none
    | none => none
  | .pcall => match op with
    | .call cl => (match fnOf C (evX fr) cl with
      | some (f, args) => if (C.pureFn f && args.all AV.isPure) = true then (match G f args with
        | some r => fV r fun r => if bd c r = true then some (r, dy, c) else none
        | none => none) else none
      | none => none)
    | _ => none
  | .call | .xcall => match op with
    | .call cl => (match fnOf C (evX fr) cl with
      | some (f, args) => if (!C.pureFn f && !C.hFn f) = true then fL fV1 args fun args => (match F f args dy c with
        | some (v, dy', c') => if (!C.xFn f || prefX dy dy') = true then some (v, dy', c') else none
        | none => none) else none
      | none => none)
    | _ => none
  | _ => none

theorem bdF_tmp {c : Nat} {fr : List AV} (h : bdF c fr) (x : Operand) : bd c (evl fr x) = true := by
  cases x with
  | tmp t =>
    simp only [evl, List.getD]
    cases ht : fr[t]? with
    | none => rfl
    | some a => exact List.all_eq_true.1 h a (List.mem_of_getElem? ht)
  | const v =>
    simp only [evl]
    unfold ofVal
    split <;> rfl
  | global g => rfl
  | func f => rfl
theorem bdH_set {c : Nat} {dy : List AObj} {n : Nat} {o : AObj} (h : bdH c dy) (ho : bdO c o = true) : bdH c (dy.set n o) := by
  refine List.all_eq_true.2 fun x hx => ?_
  rcases List.mem_or_eq_of_mem_set hx with hx | rfl
  · exact List.all_eq_true.1 h x hx
  · exact ho
theorem hp_agr {c : Nat} {ε ε' : Nat → Nat} (a : Agr c ε ε') {dy : List AObj} (h : bdH c dy) : hp ε' dy = hp ε dy := by
  unfold hp
  rw [dy_bd a h]
theorem fnOf_args {C : Ctx} {fr : List AV} {cl : Call} {f : FuncId} {args : List AV} (ε : Nat → Nat) (h : fnOf C (evl fr) cl = some (f, args)) : fnOf C (fun x => (evl fr x).ren ε) cl = some (f, renL ε args) := by
  unfold fnOf at h ⊢
  split at h
  · split at h
    · rename_i g first cap e
      split at h
      · rename_i hok
        simp only [Option.some.injEq, Prod.mk.injEq] at h
        obtain ⟨rfl, rfl⟩ := h
        simp only [e, AV.ren, if_pos hok, Option.some.injEq, Prod.mk.injEq, true_and, renL_app]
        rw [renL_map, renL_map, renL_map, List.map_map]
        rfl
      · cases h
    · cases h
  · cases h
theorem bd0_bd {c : Nat} {a : AV} (h : bd0 c a = true) : bd c a = true := by
  cases a <;> simp only [bd0, reduceCtorEq] at h <;> simp only [bd, bd1, bd0] <;> first | exact h | skip
  simp only [Bool.and_eq_true, List.isEmpty_iff] at h
  obtain ⟨rfl, rfl⟩ := h
  rfl
theorem fnOf_bd {C : Ctx} {fr : List AV} {cl : Call} {f : FuncId} {args : List AV} {c : Nat} (hf : bdF c fr) (h : fnOf C (evl fr) cl = some (f, args)) : bdF c args := by
  unfold fnOf at h
  split at h
  · split at h
    · rename_i g first cap e
      split at h
      · simp only [Option.some.injEq, Prod.mk.injEq] at h
        obtain ⟨rfl, rfl⟩ := h
        have hv := bdF_tmp hf (by assumption)
        rw [e] at hv
        simp only [bd, bd1, Bool.and_eq_true] at hv
        unfold bdF
        rw [List.all_append, List.all_append, Bool.and_eq_true, Bool.and_eq_true]
        refine ⟨⟨all_le (fun _ => bd0_bd) hv.1, ?_⟩, all_le (fun _ => bd0_bd) hv.2⟩
        refine List.all_eq_true.2 fun x hx => ?_
        obtain ⟨o, _, rfl⟩ := List.mem_map.1 hx
        exact bdF_tmp hf o
      · cases h
    · cases h
  · cases h
theorem Agr.hpk {c : Nat} {ε ε' : Nat → Nat} {v : AV} {dy : List AObj} (a : Agr c ε ε') (h : bdH c dy) (hv : bd c v = true) {K : AV → Heap → Prop} (k : K (v.ren ε') (hp ε' dy)) : K (v.ren ε) (hp ε dy) := by
  rwa [hp_agr a h, ren_bd a hv] at k

section
variable {C : Ctx} (ok : COk C) {F : XF} {G : XP} (hF : FOk C F) (hG : POk C G)
include ok hF hG

theorem xop_sound {fr : List AV} {dy dy' : List AObj} {c c' n : Nat} {op : Op} {v : AV} (h : xop C F G fr dy c n op = some (v, dy', c')) (hf : bdF c fr) (hd : bdH c dy) :
    c ≤ c' ∧ bd c' v = true ∧ bdH c' dy' ∧ ∀ ε K, (∀ ε', Agr c ε ε' → K (v.ren ε') (hp ε' dy')) → opK C (fun x => (evl fr x).ren ε) (.d n) (hp ε dy) op K := by
  unfold xop at h
  rw [evX_eq] at h
  simp only [fV_eq, fO_eq, fN_eq, setK_eq, fL_eq fV1_eq] at h
  split at h
  · rename_i hcl
    split at h
    · rename_i v0 hv
      split at h
      · rename_i hb
        cases h
        refine ⟨Nat.le_refl _, hb, hd, fun ε K k => ?_⟩
        unfold opK
        simp only [hcl]
        exact pureX_sound ok.tok hv (k ε Agr.refl)
      · cases h
    · cases h
  · rename_i hcl
    split at h
    · rename_i v0 hv
      split at h
      · rename_i hb
        cases h
        refine ⟨Nat.le_refl _, hb, hd, fun ε K k => ?_⟩
        unfold opK
        simp only [hcl]
        exact readX_sound ok.tok hv (k ε Agr.refl)
      · cases h
    · cases h
  · rename_i hcl
    split at h
    · rename_i v0 o hv
      split at h
      · rename_i hb
        simp only [Bool.and_eq_true] at hb
        obtain ⟨⟨⟨b1, b2⟩, b3⟩, b4⟩ := hb
        cases h
        refine ⟨Nat.le_succ _, b4, bdH_set (hd.le (Nat.le_succ _)) b3, fun ε K k => ?_⟩
        unfold opK
        simp only [hcl]
        refine allocX_sound ok.tok hv (by rw [hp_get, holeAt_eq b1]; rfl) b2 fun ep => ?_
        have := k (upd ε c ep) Agr.upd
        rw [hp_set, hp_agr Agr.upd hd] at this
        exact this
      · cases h
    · cases h
  · rename_i hcl
    split at h
    · rename_i v0 ch c0 hv
      split at h
      · rename_i hb
        simp only [Bool.and_eq_true, Nat.ble_eq] at hb
        obtain ⟨⟨⟨b1, b2⟩, b3⟩, b4⟩ := hb
        have hn : dy[n]? = some .hole ∨ ∀ cl, op ≠ .call cl := by
          cases hc : isCall op with
          | true =>
            rw [hc] at b1
            exact .inl (holeAt_eq (by simpa using b1))
          | false => exact .inr fun cl e => by rw [e] at hc; cases hc
        split at h
        · rename_i m o
          split at h
          · rename_i b5
            cases h
            refine ⟨b4, b3, bdH_set (hd.le b4) b5, fun ε K k => ?_⟩
            unfold opK
            simp only [hcl]
            refine effX_sound hv hn b2 fun ε' a => ?_
            have := k ε' a
            rw [hp_set, hp_agr a hd] at this
            exact this
          · cases h
        · cases h
          refine ⟨b4, b3, hd.le b4, fun ε K k => ?_⟩
          unfold opK
          simp only [hcl]
          refine effX_sound hv hn b2 fun ε' a => ?_
          have := k ε' a
          rw [hp_agr a hd] at this
          exact this
      · cases h
    · cases h
  · rename_i hcl
    split at h
    · rename_i cl
      split at h
      · rename_i f args hfn
        split at h
        · rename_i hp
          simp only [Bool.and_eq_true] at hp
          split at h
          · rename_i r hr
            split at h
            · rename_i hb
              cases h
              obtain ⟨p1, p2⟩ := hG f args _ hr hp.2
              refine ⟨Nat.le_refl _, hb, hd, fun ε K k => ?_⟩
              unfold opK
              simp only [hcl, fnOf_args ε hfn, renL_pure' hp.2]
              unfold callK
              simp only [hp.1]
              have := k ε Agr.refl
              rw [ren_pure2 p1] at this
              exact ⟨_, p2, this⟩
            · cases h
          · cases h
        · cases h
      · cases h
    · cases h
  · rename_i hcl
    split at h
    · rename_i cl
      split at h
      · rename_i f args hfn
        split at h
        · rename_i hp
          simp only [Bool.and_eq_true, Bool.not_eq_true'] at hp
          split at h
          · rename_i v1 dy1 c1 hc1
            split at h
            · rename_i hx
              cases h
              obtain ⟨q1, q2, q3, q4⟩ := hF f args dy c _ _ _ hc1 (fnOf_bd hf hfn) hd
              refine ⟨q1, q2, q3, fun ε K k => ?_⟩
              unfold opK
              simp only [hcl, fnOf_args ε hfn]
              unfold callK
              simp only [hp.1, hp.2]
              cases hxf : C.xFn f with
              | true =>
                refine q4 ε _ fun ε' a => ⟨fun i o ho => ?_, ?_⟩
                · rw [hxf] at hx
                  have hx : prefX dy dy' = true := by simpa using hx
                  cases i with
                  | s n => simp [Ab.hp] at ho; cases ho
                  | d n =>
                    rw [← hp_agr a hd, hp_get] at ho
                    show (Ab.hp ε' dy').dy[n]? = some o
                    have ho' : (dy[n]?).map (AObj.ren ε') = some o := ho
                    rw [Option.map_eq_some_iff] at ho'
                    obtain ⟨o', e1, e2⟩ := ho'
                    show (dy'.map (AObj.ren ε'))[n]? = some o
                    rw [List.getElem?_map, prefX_get hx n o' e1, ← e2]
                    rfl
                · have := k ε' a
                  exact this
              | false =>
                refine q4 ε _ fun ε' a => ?_
                have := k ε' a
                exact this
            · cases h
          · cases h
        · cases h
      · cases h
    · cases h
  · rename_i hcl
    split at h
    · rename_i cl
      split at h
      · rename_i f args hfn
        split at h
        · rename_i hp
          simp only [Bool.and_eq_true, Bool.not_eq_true'] at hp
          split at h
          · rename_i v1 dy1 c1 hc1
            split at h
            · rename_i hx
              cases h
              obtain ⟨q1, q2, q3, q4⟩ := hF f args dy c _ _ _ hc1 (fnOf_bd hf hfn) hd
              refine ⟨q1, q2, q3, fun ε K k => ?_⟩
              unfold opK
              simp only [hcl, fnOf_args ε hfn]
              unfold callK
              simp only [hp.1, hp.2]
              cases hxf : C.xFn f with
              | true =>
                refine q4 ε _ fun ε' a => ⟨fun i o ho => ?_, ?_⟩
                · rw [hxf] at hx
                  have hx : prefX dy dy' = true := by simpa using hx
                  cases i with
                  | s n => simp [Ab.hp] at ho; cases ho
                  | d n =>
                    rw [← hp_agr a hd, hp_get] at ho
                    show (Ab.hp ε' dy').dy[n]? = some o
                    have ho' : (dy[n]?).map (AObj.ren ε') = some o := ho
                    rw [Option.map_eq_some_iff] at ho'
                    obtain ⟨o', e1, e2⟩ := ho'
                    show (dy'.map (AObj.ren ε'))[n]? = some o
                    rw [List.getElem?_map, prefX_get hx n o' e1, ← e2]
                    rfl
                · have := k ε' a
                  exact this
              | false =>
                refine q4 ε _ fun ε' a => ?_
                have := k ε' a
                exact this
            · cases h
          · cases h
        · cases h
      · cases h
    · cases h
  · cases h
end
/-! ### the operations of a region -/
noncomputable def wantX (ops : List Oper) (o : Oper) (fr : List AV) : Option Bool :=
  match o.guard with
  | none => some true
  | some (j, want) => match nthO ops j with
    | some oj => match oj.dst with
      | some d => match nthO fr d with
        | some (.bool b) => some (b == want)
        | some (.tup []) => some false
        | _ => none
      | none => none
    | none => none
theorem wantX_sound {ops : Array Oper} {o : Oper} {fr : List AV} {b : Bool} (ε : Nat → Nat) (h : wantX ops.toList o fr = some b) : wantA ops o (renL ε fr) = some b := by
  unfold wantX at h
  unfold wantA
  split at h
  · rename_i hg; simp only [hg]; exact h
  · rename_i j want hg
    simp only [hg]
    split at h
    · rename_i oj hj
      rw [nthO_eq, Array.getElem?_toList] at hj
      split at h
      · rename_i d hd
        simp only [hj, Option.bind_some, hd, renL_get]
        rw [nthO_eq] at h
        split at h
        · rename_i q hq
          simp only [hq, Option.map_some, AV.ren]
          exact h
        · rename_i hq
          simp only [hq, Option.map_some, AV.ren, renL]
          exact h
        · cases h
      · cases h
    · cases h

abbrev XS := List AV × List AObj × Nat
/-- a value put down -/
noncomputable def putX {α : Type} (fr : List AV) (dst : Option Tmp) (v : AV) (k : List AV → α) : α := match dst with
  | some d => setK fr d v k
  | none => k fr
theorem putX_eq {α : Type} (fr : List AV) (dst : Option Tmp) (v : AV) (k : List AV → α) : putX fr dst v k = k (putF fr dst v) := by
  cases dst <;> simp only [putX, putF, setK_eq]
theorem putF_ren (ε : Nat → Nat) (fr : List AV) (dst : Option Tmp) (v : AV) : putF (renL ε fr) dst (v.ren ε) = renL ε (putF fr dst v) := by
  cases dst <;> simp [putF, renL_map, List.map_set]
theorem putF_bd {c : Nat} {fr : List AV} {v : AV} (h : bdF c fr) (hv : bd c v = true) (dst : Option Tmp) : bdF c (putF fr dst v) := by
  cases dst with
  | none => exact h
  | some d =>
    refine List.all_eq_true.2 fun x hx => ?_
    rcases List.mem_or_eq_of_mem_set hx with hx | rfl
    · exact List.all_eq_true.1 h x hx
    · exact hv

noncomputable def xrun (C : Ctx) (F : XF) (G : XP) (ops : List Oper) (sl : Nat → Nat) (ord : List Nat) : List AV → List AObj → Nat → Option XS :=
  List.rec (motive := fun _ => List AV → List AObj → Nat → Option XS) (fun fr dy c => some (fr, dy, c))
    (fun i _ ih fr dy c => match nthO ops i with
      | none => none
      | some o => match wantX ops o fr with
        | some true => (match xop C F G fr dy c (sl i) o.op with
          | some (v, dy, c) => putX fr o.dst v fun fr => ih fr dy c
          | none => none)
        | some false => putX fr o.dst (.tup []) fun fr => ih fr dy c
        | none => none) ord

section
variable {C : Ctx} (ok : COk C) {F : XF} {G : XP} (hF : FOk C F) (hG : POk C G)
include ok hF hG

theorem xrun_sound {ops : Array Oper} {sl : Nat → Nat} : ∀ {ord : List Nat} {fr fr' : List AV} {dy dy' : List AObj} {c c' : Nat}, xrun C F G ops.toList sl ord fr dy c = some (fr', dy', c') → bdF c fr → bdH c dy →
    c ≤ c' ∧ bdF c' fr' ∧ bdH c' dy' ∧ ∀ ε K, (∀ ε', Agr c ε ε' → K (renL ε' fr') (hp ε' dy')) → runOrd C ops (fun i => .d (sl i)) ord (renL ε fr) (hp ε dy) K := by
  intro ord
  induction ord with
  | nil =>
    intro fr fr' dy dy' c c' h hf hd
    cases h
    exact ⟨Nat.le_refl _, hf, hd, fun ε K k => k ε Agr.refl⟩
  | cons i r ih =>
    intro fr fr' dy dy' c c' h hf hd
    have h : (match nthO ops.toList i with
      | none => none
      | some o => match wantX ops.toList o fr with
        | some true => (match xop C F G fr dy c (sl i) o.op with
          | some (v, dy, c) => putX fr o.dst v fun fr => xrun C F G ops.toList sl r fr dy c
          | none => none)
        | some false => putX fr o.dst (.tup []) fun fr => xrun C F G ops.toList sl r fr dy c
        | none => none) = some (fr', dy', c') := h
    simp only [putX_eq] at h
    split at h
    · cases h
    · rename_i o ho
      rw [nthO_eq, Array.getElem?_toList] at ho
      split at h
      · rename_i hw
        split at h
        · rename_i v dy1 c1 hx
          obtain ⟨a1, a2, a3, a4⟩ := xop_sound ok hF hG hx hf hd
          obtain ⟨b1, b2, b3, b4⟩ := ih h (putF_bd (hf.le a1) a2 o.dst) a3
          refine ⟨by omega, b2, b3, fun ε K k => ?_⟩
          unfold runOrd
          simp only [ho, wantX_sound ε hw]
          rw [evl_ren]
          refine a4 ε _ fun ε1 ag => ?_
          have := b4 ε1 K fun ε2 ag2 => k ε2 (ag.trans a1 ag2)
          rw [← putF_ren] at this
          have e1 : renL ε1 fr = renL ε fr := renL_bd ag hf
          rw [e1] at this
          exact this
        · cases h
      · rename_i hw
        obtain ⟨b1, b2, b3, b4⟩ := ih h (putF_bd hf rfl o.dst) hd
        refine ⟨b1, b2, b3, fun ε K k => ?_⟩
        unfold runOrd
        simp only [ho, wantX_sound ε hw]
        have := b4 ε K k
        rw [← putF_ren] at this
        simpa [AV.ren, renL] using this
      · cases h
end
end Go.Ab
