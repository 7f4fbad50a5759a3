/-
  What is proved here serves the law's text: each part says its own claim and its conditions. No condition is left open.
-/
import Derived.Test.YthdhhhgjdegafaaKK
set_option linter.unusedSimpArgs false
set_option linter.unusedVariables false

/-
  Regions, codes and functions, evaluated at once. No condition.
-/
namespace Go.Ab

/-! ### a region -/
def isAl : Op → Bool
  | .alloc .. | .box .. | .buildSlice .. | .makeSlice .. | .makeMap .. => true
  | .call c => match c.callee with | .builtin .append => true | _ => false
  | _ => false
/-- the operations that make objects -/
noncomputable def alIdx (ops : List Oper) : List Nat := List.rec (motive := fun _ => Nat → List Nat) (fun _ => []) (fun o _ ih n => match isAl o.op with | true => n :: ih (n + 1) | false => ih (n + 1)) ops 0
noncomputable def rank (l : List Nat) (i : Nat) : Nat := List.rec (motive := fun _ => Nat → Nat) (fun _ => 0) (fun a _ ih n => match Nat.beq a i with | true => n | false => ih (n + 1)) l 0
noncomputable def lenX {α : Type} (l : List α) : Nat := List.rec (motive := fun _ => Nat → Nat) (fun n => n) (fun _ _ ih n => ih (n + 1)) l 0
noncomputable def repX {α : Type} (a : α) (l : List Nat) : List α := l.map fun _ => a
theorem repX_eq {α : Type} (a : α) : ∀ l : List Nat, repX a l = List.replicate l.length a
  | [] => rfl
  | _ :: l => by rw [repX, List.map_cons, List.length_cons, List.replicate_succ]; congr 1; exact repX_eq a l
/-- the epochs of the one heap's objects, as the other's -/
noncomputable def piX (c : Nat) : List AObj → List AObj → Nat → Nat
  | .vec ep _ :: l, .vec ep' _ :: m, k => match Nat.blt k c with
    | true => k
    | false => (match Nat.beq k ep with | true => ep' | false => piX c l m k)
  | .map ep _ :: l, .map ep' _ :: m, k => match Nat.blt k c with
    | true => k
    | false => (match Nat.beq k ep with | true => ep' | false => piX c l m k)
  | _ :: l, _ :: m, k => piX c l m k
  | _, _, k => k
theorem piX_low {c : Nat} : ∀ {l m : List AObj} {k : Nat}, k < c → piX c l m k = k := by
  intro l
  induction l with
  | nil => intro m k h; unfold piX; rfl
  | cons a l ih =>
    intro m k h
    have hb : Nat.blt k c = true := by simpa [Nat.blt_eq] using h
    cases m with
    | nil => cases a <;> (unfold piX; rfl)
    | cons b m =>
      cases a <;> cases b <;> (unfold piX; first | exact ih h | simp only [hb])
noncomputable def xplan (C : Ctx) (F : XF) (G : XP) (ops : List Oper) (sl : Nat → Nat) : Plan → List AV → List AObj → Nat → Option XS
  | .done, fr, dy, c => some (fr, dy, c)
  | .one i p, fr, dy, c => match xrun C F G ops sl [i] fr dy c with
    | some (fr, dy, c) => xplan C F G ops sl p fr dy c
    | none => none
  | .br i j p q, fr, dy, c => match xrun C F G ops sl [i] fr dy c, xrun C F G ops sl [j] fr dy c with
    | some (f1, d1, c1), some (f2, d2, c2) => (match xplan C F G ops sl p f1 d1 c1, xplan C F G ops sl q f2 d2 c2 with
      | some (f1, d1, c1), some (f2, d2, c2) => if (Nat.beq c1 c2 && (eqLs (eqR2 (piX c d1 d2)) f1 f2 && eqLs (eqRO (piX c d1 d2)) d1 d2)) = true then some (f1, d1, c1) else none
      | _, _ => none)
    | _, _ => none
  | .br3 i j l p q r, fr, dy, c => match xrun C F G ops sl [i] fr dy c, xrun C F G ops sl [j] fr dy c, xrun C F G ops sl [l] fr dy c with
    | some (f1, d1, c1), some (f2, d2, c2), some (f3, d3, c3) => (match xplan C F G ops sl p f1 d1 c1, xplan C F G ops sl q f2 d2 c2, xplan C F G ops sl r f3 d3 c3 with
      | some (f1, d1, c1), some (f2, d2, c2), some (f3, d3, c3) => if (Nat.beq c1 c2 && (eqLs (eqR2 (piX c d1 d2)) f1 f2 && eqLs (eqRO (piX c d1 d2)) d1 d2) && (eqLs (eqR2 (piX c d1 d3)) f1 f3 && eqLs (eqRO (piX c d1 d3)) d1 d3)) = true then some (f1, d1, c1) else none
      | _, _, _ => none)
    | _, _, _ => none
noncomputable def xregO (C : Ctx) (F : XF) (G : XP) (ord : Option Plan) (ops : List Oper) (sl : Nat → Nat) (fr : List AV) (dy : List AObj) (c : Nat) : Option XS := match ord with
  | some p => xplan C F G ops sl p fr dy c
  | none => xrun C F G ops sl (List.range ops.length) fr dy c
noncomputable def xreg (C : Ctx) (F : XF) (G : XP) (ord : Option Plan) (ops : List Oper) (fr : List AV) (dy : List AObj) (c : Nat) : Option XS :=
  match alIdx ops with
  | [] => xregO C F G ord ops (fun _ => 0) fr dy c
  | a :: l => fN (lenX dy) fun base => appK dy (repX AObj.hole (a :: l)) fun dy => xregO C F G ord ops (fun i => base + rank (a :: l) i) fr dy c
/-- the orders of a code's regions are fine -/
def regOk (C : Ctx) (ops : Array Oper) (slot : Nat → Id) : Option Plan → Bool
  | some p => p.ok C ops slot (List.range ops.size)
  | none => drawOkS C ops slot (List.range ops.size)
def codeOk (C : Ctx) (ord : Nat → Option Plan) : Code → Prop
  | .region id ops true => ∀ base : Nat, regOk C ops (fun i => .d (base + rank (alIdx ops.toList) i)) (ord id) = true
  | .region id ops false => ord id = none
  | .seq a b => codeOk C ord a ∧ codeOk C ord b
  | .cond _ a b => codeOk C ord a ∧ codeOk C ord b
  | .block _ a => codeOk C ord a
  | .loop a => codeOk C ord a
  | _ => True
noncomputable def codeOkB (C : Ctx) (ord : Nat → Option Plan) : Code → Bool
  | .region id ops true => regOk C ops (fun i => .d (rank (alIdx ops.toList) i)) (ord id)
  | .region id ops false => (ord id).isNone
  | .seq a b => codeOkB C ord a && codeOkB C ord b
  | .cond _ a b => codeOkB C ord a && codeOkB C ord b
  | .block _ a => codeOkB C ord a
  | .loop a => codeOkB C ord a
  | _ => true
theorem swapOk_slot {cj ci : Cls} {a b a' b' : Id} (h : (a != b) = (a' != b')) : swapOk cj ci a b = swapOk cj ci a' b' := by
  unfold swapOk
  rw [h]
theorem pairOk_slot {C : Ctx} {ops : Array Oper} {s s' : Nat → Id} (h : ∀ i j, (s i != s j) = (s' i != s' j)) (j : Nat) : pairOk C ops s j = pairOk C ops s' j := by
  funext i
  unfold pairOk
  congr 1
  split
  · rw [swapOk_slot (h j i)]
  · rfl
theorem planOk_slot {C : Ctx} {ops : Array Oper} {s s' : Nat → Id} (h : ∀ i j, (s i != s j) = (s' i != s' j)) : ∀ (p : Plan) (rem : List Nat), p.ok C ops s rem = p.ok C ops s' rem
  | .done, _ => rfl
  | .one i p, rem => by simp only [Plan.ok, pairOk_slot h i, planOk_slot h p]
  | .br i j p q, rem => by simp only [Plan.ok, planOk_slot h p, planOk_slot h q]
  | .br3 i j l p q r, rem => by simp only [Plan.ok, planOk_slot h p, planOk_slot h q, planOk_slot h r]
theorem pairsOk_slot {C : Ctx} {ops : Array Oper} {s s' : Nat → Id} (h : ∀ i j, (s i != s j) = (s' i != s' j)) : ∀ l, pairsOk C ops s l = pairsOk C ops s' l
  | [] => rfl
  | j :: r => by
    have e : pairOk C ops s j = pairOk C ops s' j := by
      funext i
      unfold pairOk
      congr 1
      split
      · rw [swapOk_slot (h j i)]
      · rfl
    rw [pairsOk, pairsOk, e, pairsOk_slot h r]
theorem base_ne (base : Nat) (f : Nat → Nat) (i j : Nat) : ((Id.d (base + f i)) != (Id.d (base + f j))) = ((Id.d (f i)) != (Id.d (f j))) := by
  rw [Bool.eq_iff_iff]
  simp only [bne_iff_ne, ne_eq, Id.d.injEq]
  omega
theorem codeOk_of {C : Ctx} {ord : Nat → Option Plan} : ∀ {c : Code}, codeOkB C ord c = true → codeOk C ord c := by
  intro c
  induction c with
  | region id ops draw =>
    intro h
    cases draw with
    | true =>
      intro base
      have h : regOk C ops (fun i => .d (rank (alIdx ops.toList) i)) (ord id) = true := h
      show regOk C ops (fun i => .d (base + rank (alIdx ops.toList) i)) (ord id) = true
      unfold regOk at h ⊢
      split
      · rename_i p hp
        simp only [hp] at h
        rw [planOk_slot (s' := fun i => .d (rank (alIdx ops.toList) i)) (fun i j => base_ne base (rank (alIdx ops.toList)) i j)]
        exact h
      · rename_i hp
        simp only [hp] at h
        unfold drawOkS at h ⊢
        rw [pairsOk_slot (s' := fun i => .d (rank (alIdx ops.toList) i)) (fun i j => base_ne base (rank (alIdx ops.toList)) i j)]
        exact h
    | false =>
      have h : (ord id).isNone = true := h
      show ord id = none
      simpa using h
  | seq a b iha ihb =>
    intro h
    have h : (codeOkB C ord a && codeOkB C ord b) = true := h
    rw [Bool.and_eq_true] at h
    exact ⟨iha h.1, ihb h.2⟩
  | cond c a b iha ihb =>
    intro h
    have h : (codeOkB C ord a && codeOkB C ord b) = true := h
    rw [Bool.and_eq_true] at h
    exact ⟨iha h.1, ihb h.2⟩
  | block id a ih => intro h; exact ih h
  | loop a ih => intro h; exact ih h
  | _ => intro h; trivial

theorem lenX_eq {α : Type} (l : List α) : lenX l = l.length := by
  have : ∀ (l : List α) (n : Nat), (List.rec (motive := fun _ => Nat → Nat) (fun n => n) (fun _ _ ih n => ih (n + 1)) l n : Nat) = n + l.length := by
    intro l
    induction l with
    | nil => intro n; rfl
    | cons a l ih => intro n; show (List.rec (motive := fun _ => Nat → Nat) (fun n => n) (fun _ _ ih n => ih (n + 1)) l (n + 1) : Nat) = _; rw [ih]; simp only [List.length_cons]; omega
  have := this l 0
  unfold lenX
  omega
theorem hp_app (ε : Nat → Nat) (dy : List AObj) (n : Nat) : hp ε (dy ++ List.replicate n .hole) = ⟨(hp ε dy).st, (hp ε dy).dy ++ List.replicate n .hole⟩ := by
  simp [hp, AObj.ren]
theorem bdH_app {c : Nat} {dy : List AObj} (h : bdH c dy) (n : Nat) : bdH c (dy ++ List.replicate n .hole) := by
  refine List.all_eq_true.2 fun x hx => ?_
  rcases List.mem_append.1 hx with hx | hx
  · exact List.all_eq_true.1 h x hx
  · rw [List.eq_of_mem_replicate hx]; rfl

section
variable {C : Ctx} (ok : COk C) (hm : C.P.follows .mixedOrders = true) {F : XF} {G : XP} (hF : FOk C F) (hG : POk C G)
include ok hm hF hG

omit hm in
theorem xplan_sound {ops : Array Oper} {sl : Nat → Nat} : ∀ {p : Plan} {fr fr' : List AV} {dy dy' : List AObj} {c c' : Nat}, xplan C F G ops.toList sl p fr dy c = some (fr', dy', c') → bdF c fr → bdH c dy →
    c ≤ c' ∧ bdF c' fr' ∧ bdH c' dy' ∧ ∀ ε K, (∀ ε', Agr c ε ε' → K (renL ε' fr') (hp ε' dy')) → p.run C ops (fun i => .d (sl i)) (renL ε fr) (hp ε dy) K := by
  have one : ∀ {i : Nat} {fr : List AV} {h : Heap} {K : List AV → Heap → Prop}, runOrd C ops (fun i => .d (sl i)) [i] fr h K → stepO C ops (fun i => .d (sl i)) i fr h K := by
    intro i fr h K x
    rw [runOrd_cons] at x
    exact x
  intro p
  induction p with
  | done =>
    intro fr fr' dy dy' c c' h hf hd
    cases h
    exact ⟨Nat.le_refl _, hf, hd, fun ε K k => k ε Agr.refl⟩
  | one i p ih =>
    intro fr fr' dy dy' c c' h hf hd
    simp only [xplan] at h
    split at h
    · rename_i f1 d1 c1 hx
      obtain ⟨a1, a2, a3, a4⟩ := xrun_sound ok hF hG hx hf hd
      obtain ⟨b1, b2, b3, b4⟩ := ih h a2 a3
      exact ⟨by omega, b2, b3, fun ε K k => one (a4 ε _ fun ε1 ag => b4 ε1 K fun ε2 ag2 => k ε2 (ag.trans a1 ag2))⟩
    · cases h
  | br i j p q ihp ihq =>
    intro fr fr' dy dy' c c' h hf hd
    simp only [xplan] at h
    split at h
    · rename_i f1 d1 c1 f2 d2 c2 hx1 hx2
      split at h
      · rename_i g1 e1 k1 g2 e2 k2 hy1 hy2
        split at h
        · rename_i he
          simp only [Bool.and_eq_true] at he
          obtain ⟨hc, h1, h2⟩ := he
          cases h
          obtain ⟨a1, a2, a3, a4⟩ := xrun_sound ok hF hG hx1 hf hd
          obtain ⟨b1, b2, b3, b4⟩ := ihp hy1 a2 a3
          obtain ⟨a1', a2', a3', a4'⟩ := xrun_sound ok hF hG hx2 hf hd
          obtain ⟨b1', b2', b3', b4'⟩ := ihq hy2 a2' a3'
          refine ⟨by omega, b2, b3, fun ε K k => ⟨one (a4 ε _ fun ε1 ag => b4 ε1 K fun ε2 ag2 => k ε2 (ag.trans a1 ag2)), one (a4' ε _ fun ε1 ag => b4' ε1 K fun ε2 ag2 => ?_)⟩⟩
          have key := k (fun n => ε2 (piX c dy' e2 n)) fun n hn => by
            show ε2 (piX c dy' e2 n) = ε n
            rw [piX_low hn]; exact (ag.trans a1' ag2) n hn
          have x1 : renL (piX c dy' e2) fr' = g2 := renL_of (fun _ _ => eqR2_iff) h1
          have x2 : dy'.map (AObj.ren (piX c dy' e2)) = e2 := mapR_of (g := AObj.ren (piX c dy' e2)) (fun _ _ => eqRO_iff) h2
          rw [← renL_comp, x1] at key
          unfold hp at key ⊢
          rw [← dy_comp, x2] at key
          exact key
        · cases h
      · cases h
    · cases h
  | br3 i j l p q r ihp ihq ihr =>
    intro fr fr' dy dy' c c' h hf hd
    simp only [xplan] at h
    split at h
    · rename_i f1 d1 c1 f2 d2 c2 f3 d3 c3 hx1 hx2 hx3
      split at h
      · rename_i g1 e1 k1 g2 e2 k2 g3 e3 k3 hy1 hy2 hy3
        split at h
        · rename_i he
          simp only [Bool.and_eq_true] at he
          obtain ⟨⟨hc, h1, h2⟩, h3, h4⟩ := he
          cases h
          have side : ∀ {i : Nat} {p : Plan} {f2 : List AV} {d2 : List AObj} {c2 : Nat} {g2 : List AV} {e2 : List AObj} {k2 : Nat}, xrun C F G ops.toList sl [i] fr dy c = some (f2, d2, c2) → xplan C F G ops.toList sl p f2 d2 c2 = some (g2, e2, k2) →
              (∀ {fr fr' : List AV} {dy dy' : List AObj} {c c' : Nat}, xplan C F G ops.toList sl p fr dy c = some (fr', dy', c') → bdF c fr → bdH c dy →
                c ≤ c' ∧ bdF c' fr' ∧ bdH c' dy' ∧ ∀ ε K, (∀ ε', Agr c ε ε' → K (renL ε' fr') (hp ε' dy')) → p.run C ops (fun i => .d (sl i)) (renL ε fr) (hp ε dy) K) →
              eqLs (eqR2 (piX c dy' e2)) fr' g2 = true → eqLs (eqRO (piX c dy' e2)) dy' e2 = true →
              ∀ ε (K : List AV → Heap → Prop), (∀ ε', Agr c ε ε' → K (renL ε' fr') (hp ε' dy')) → stepO C ops (fun i => .d (sl i)) i (renL ε fr) (hp ε dy) fun fr h => p.run C ops (fun i => .d (sl i)) fr h K := by
            intro i p f2 d2 c2 g2 e2 k2 hx hy ihq h1 h2 ε K k
            obtain ⟨a1', a2', a3', a4'⟩ := xrun_sound ok hF hG hx hf hd
            obtain ⟨b1', b2', b3', b4'⟩ := ihq hy a2' a3'
            refine one (a4' ε _ fun ε1 ag => b4' ε1 K fun ε2 ag2 => ?_)
            have key := k (fun n => ε2 (piX c dy' e2 n)) fun n hn => by
              show ε2 (piX c dy' e2 n) = ε n
              rw [piX_low hn]; exact (ag.trans a1' ag2) n hn
            have x1 : renL (piX c dy' e2) fr' = g2 := renL_of (fun _ _ => eqR2_iff) h1
            have x2 : dy'.map (AObj.ren (piX c dy' e2)) = e2 := mapR_of (g := AObj.ren (piX c dy' e2)) (fun _ _ => eqRO_iff) h2
            rw [← renL_comp, x1] at key
            unfold hp at key ⊢
            rw [← dy_comp, x2] at key
            exact key
          obtain ⟨a1, a2, a3, a4⟩ := xrun_sound ok hF hG hx1 hf hd
          obtain ⟨b1, b2, b3, b4⟩ := ihp hy1 a2 a3
          refine ⟨by omega, b2, b3, fun ε K k => ⟨one (a4 ε _ fun ε1 ag => b4 ε1 K fun ε2 ag2 => k ε2 (ag.trans a1 ag2)), side hx2 hy2 ihq h1 h2 ε K k, side hx3 hy3 ihr h3 h4 ε K k⟩⟩
        · cases h
      · cases h
    · cases h
theorem xreg_sound {ord : Nat → Option Plan} {id : Nat} {ops : Array Oper} {draw : Bool} (hok : codeOk C ord (.region id ops draw)) {fr fr' : List AV} {dy dy' : List AObj} {c c' : Nat}
    (h : xreg C F G (ord id) ops.toList fr dy c = some (fr', dy', c')) (hf : bdF c fr) (hd : bdH c dy) :
    c ≤ c' ∧ bdF c' fr' ∧ bdH c' dy' ∧ ∀ ε K, (∀ ε', Agr c ε ε' → K .normal (renL ε' fr') (hp ε' dy')) → WK C (.region id ops draw) (renL ε fr) (hp ε dy) K := by
  have key : ∀ {base : Nat} {fr fr' : List AV} {dy dy' : List AObj} {c c' : Nat}, xregO C F G (ord id) ops.toList (fun i => base + rank (alIdx ops.toList) i) fr dy c = some (fr', dy', c') → bdF c fr → bdH c dy →
      c ≤ c' ∧ bdF c' fr' ∧ bdH c' dy' ∧ ∀ ε K, (∀ ε', Agr c ε ε' → K .normal (renL ε' fr') (hp ε' dy')) → WK C (.region id ops draw) (renL ε fr) (hp ε dy) K := by
    intro base fr fr' dy dy' c c' h hf hd
    have e : List.range ops.toList.length = List.range ops.size := by simp
    cases hord : ord id with
    | some p =>
      rw [hord] at h
      obtain ⟨a1, a2, a3, a4⟩ := xplan_sound ok hF hG h hf hd
      refine ⟨a1, a2, a3, fun ε K k => ?_⟩
      have := a4 ε (fun fr h => K .normal fr h) k
      cases draw with
      | true =>
        have h1 := hok base
        rw [hord] at h1
        exact wk_plan ok hm h1 this
      | false =>
        have h1 : ord id = none := hok
        rw [hord] at h1
        cases h1
    | none =>
      rw [hord] at h
      have h : xrun C F G ops.toList (fun i => base + rank (alIdx ops.toList) i) (List.range ops.toList.length) fr dy c = some (fr', dy', c') := h
      rw [e] at h
      obtain ⟨a1, a2, a3, a4⟩ := xrun_sound ok hF hG h hf hd
      refine ⟨a1, a2, a3, fun ε K k => ?_⟩
      have := a4 ε (fun fr h => K .normal fr h) k
      cases draw with
      | true =>
        have h1 := hok base
        rw [hord] at h1
        exact wk_draw ok hm h1 this
      | false => exact wk_text ok this
  unfold xreg at h
  split at h
  · rename_i hal
    refine key (base := 0) ?_ hf hd
    have e : (fun i => 0 + rank (alIdx ops.toList) i) = fun _ => 0 := by rw [hal]; funext i; rfl
    rw [e]
    exact h
  · rename_i a l hal
    rw [fN_eq, appK_eq, lenX_eq, repX_eq, ← hal] at h
    obtain ⟨a1, a2, a3, a4⟩ := key h hf (bdH_app hd _)
    refine ⟨a1, a2, a3, fun ε K k => ?_⟩
    have := a4 ε K k
    rw [hp_app] at this
    exact wk_grow _ this
end

/-! ### codes -/
noncomputable def xcode (C : Ctx) (F : XF) (G : XP) (ord : Nat → Option Plan) (N : Nat) (code : Code) : List AV → List AObj → Nat → Option (AE × XS) :=
  Code.rec (motive := fun _ => List AV → List AObj → Nat → Option (AE × XS))
    (fun fr dy c => some (.normal, fr, dy, c))
    (fun id ops _ fr dy c => match xreg C F G (ord id) ops.toList fr dy c with
      | some s => some (.normal, s)
      | none => none)
    (fun _ _ iha ihb fr dy c => match iha fr dy c with
      | some (.normal, fr, dy, c) => ihb fr dy c
      | some (.exit id, s) => some (.exit id, s)
      | some (.ret, s) => some (.ret, s)
      | none => none)
    (fun x _ _ iha ihb fr dy c => match evX fr x with
      | .bool t => (match t with | true => iha fr dy c | false => ihb fr dy c)
      | _ => none)
    (fun id _ ih fr dy c => match ih fr dy c with
      | some (.exit id', s) => (match Nat.beq id' id with | true => some (.normal, s) | false => some (.exit id', s))
      | some (.normal, s) => some (.normal, s)
      | some (.ret, s) => some (.ret, s)
      | none => none)
    (fun _ ih fr dy c => Nat.rec (motive := fun _ => List AV → List AObj → Nat → Option (AE × XS)) (fun _ _ _ => none) (fun _ again fr dy c => match ih fr dy c with
      | some (.normal, fr, dy, c) => again fr dy c
      | some (.exit id, s) => some (.exit id, s)
      | some (.ret, s) => some (.ret, s)
      | none => none) N fr dy c)
    (fun _ _ _ _ _ _ _ _ _ => none)
    (fun id fr dy c => some (.exit id, fr, dy, c))
    (fun _ _ _ _ _ => none) (fun _ _ _ _ => none) (fun _ _ _ _ => none)
    (fun fr dy c => some (.ret, fr, dy, c))
    (fun _ _ _ _ => none) code

section
variable {C : Ctx} (ok : COk C) (hm : C.P.follows .mixedOrders = true) {F : XF} {G : XP} (hF : FOk C F) (hG : POk C G)
include ok hm hF hG

theorem xcode_sound {ord : Nat → Option Plan} {N : Nat} : ∀ {code : Code}, codeOk C ord code → ∀ {e : AE} {fr fr' : List AV} {dy dy' : List AObj} {c c' : Nat}, xcode C F G ord N code fr dy c = some (e, fr', dy', c') → bdF c fr → bdH c dy →
    c ≤ c' ∧ bdF c' fr' ∧ bdH c' dy' ∧ ∀ ε K, (∀ ε', Agr c ε ε' → K e (renL ε' fr') (hp ε' dy')) → WK C code (renL ε fr) (hp ε dy) K := by
  intro code
  induction code with
  | skip =>
    intro _ e fr fr' dy dy' c c' h hf hd
    cases h
    exact ⟨Nat.le_refl _, hf, hd, fun ε K k => wk_skip (k ε Agr.refl)⟩
  | region id ops draw =>
    intro hok e fr fr' dy dy' c c' h hf hd
    have h : (match xreg C F G (ord id) ops.toList fr dy c with
      | some s => some (AE.normal, s)
      | none => none) = some (e, fr', dy', c') := h
    split at h
    · rename_i s hs
      cases h
      exact xreg_sound ok hm hF hG hok hs hf hd
    · cases h
  | seq a b iha ihb =>
    intro hok e fr fr' dy dy' c c' h hf hd
    have h : (match xcode C F G ord N a fr dy c with
      | some (.normal, fr, dy, c) => xcode C F G ord N b fr dy c
      | some (.exit id, s) => some (.exit id, s)
      | some (.ret, s) => some (.ret, s)
      | none => none) = some (e, fr', dy', c') := h
    split at h
    · rename_i fr1 dy1 c1 hs
      obtain ⟨a1, a2, a3, a4⟩ := iha hok.1 hs hf hd
      obtain ⟨b1, b2, b3, b4⟩ := ihb hok.2 h a2 a3
      exact ⟨by omega, b2, b3, fun ε K k => wk_seq (a4 ε _ fun ε1 ag => b4 ε1 K fun ε2 ag2 => k ε2 (ag.trans a1 ag2))⟩
    · rename_i id s hs
      cases h
      obtain ⟨a1, a2, a3, a4⟩ := iha hok.1 hs hf hd
      exact ⟨a1, a2, a3, fun ε K k => wk_seq (a4 ε _ fun ε1 ag => k ε1 ag)⟩
    · rename_i s hs
      cases h
      obtain ⟨a1, a2, a3, a4⟩ := iha hok.1 hs hf hd
      exact ⟨a1, a2, a3, fun ε K k => wk_seq (a4 ε _ fun ε1 ag => k ε1 ag)⟩
    · cases h
  | cond x a b iha ihb =>
    intro hok e fr fr' dy dy' c c' h hf hd
    have h : (match evX fr x with
      | .bool t => (match t with | true => xcode C F G ord N a fr dy c | false => xcode C F G ord N b fr dy c)
      | _ => none) = some (e, fr', dy', c') := h
    rw [evX_eq] at h
    split at h
    · rename_i t ht
      have hev : ∀ ε, evl (renL ε fr) x = .bool t := fun ε => by rw [evl_ren]; simp only [ht, AV.ren]
      cases t with
      | true =>
        obtain ⟨a1, a2, a3, a4⟩ := iha hok.1 h hf hd
        exact ⟨a1, a2, a3, fun ε K k => wk_cond (hev ε) (a4 ε K k)⟩
      | false =>
        obtain ⟨a1, a2, a3, a4⟩ := ihb hok.2 h hf hd
        exact ⟨a1, a2, a3, fun ε K k => wk_cond (hev ε) (a4 ε K k)⟩
    · cases h
  | block id a ih =>
    intro hok e fr fr' dy dy' c c' h hf hd
    have h : (match xcode C F G ord N a fr dy c with
      | some (.exit id', s) => (match Nat.beq id' id with | true => some (.normal, s) | false => some (.exit id', s))
      | some (.normal, s) => some (.normal, s)
      | some (.ret, s) => some (.ret, s)
      | none => none) = some (e, fr', dy', c') := h
    split at h
    · rename_i id' s hs
      obtain ⟨fr1, dy1, c1⟩ := s
      obtain ⟨a1, a2, a3, a4⟩ := ih hok hs hf hd
      split at h
      · rename_i he
        cases h
        exact ⟨a1, a2, a3, fun ε K k => wk_block (a4 ε _ fun ε1 ag => by simp only [if_pos (Nat.eq_of_beq_eq_true he)]; exact k ε1 ag)⟩
      · rename_i he
        cases h
        exact ⟨a1, a2, a3, fun ε K k => wk_block (a4 ε _ fun ε1 ag => by simp only [if_neg (Nat.ne_of_beq_eq_false he)]; exact k ε1 ag)⟩
    · rename_i s hs
      cases h
      obtain ⟨a1, a2, a3, a4⟩ := ih hok hs hf hd
      exact ⟨a1, a2, a3, fun ε K k => wk_block (a4 ε _ fun ε1 ag => k ε1 ag)⟩
    · rename_i s hs
      cases h
      obtain ⟨a1, a2, a3, a4⟩ := ih hok hs hf hd
      exact ⟨a1, a2, a3, fun ε K k => wk_block (a4 ε _ fun ε1 ag => k ε1 ag)⟩
    · cases h
  | loop a ih =>
    intro hok e fr fr' dy dy' c c' h hf hd
    have key : ∀ (n : Nat) {fr fr' : List AV} {dy dy' : List AObj} {c c' : Nat}, (Nat.rec (motive := fun _ => List AV → List AObj → Nat → Option (AE × XS)) (fun _ _ _ => none) (fun _ again fr dy c => match xcode C F G ord N a fr dy c with
      | some (.normal, fr, dy, c) => again fr dy c
      | some (.exit id, s) => some (.exit id, s)
      | some (.ret, s) => some (.ret, s)
      | none => none) n fr dy c : Option (AE × XS)) = some (e, fr', dy', c') → bdF c fr → bdH c dy →
        c ≤ c' ∧ bdF c' fr' ∧ bdH c' dy' ∧ ∀ ε K, (∀ ε', Agr c ε ε' → K e (renL ε' fr') (hp ε' dy')) → UnrW C a K n (renL ε fr) (hp ε dy) := by
      intro n
      induction n with
      | zero => intro fr fr' dy dy' c c' h; cases h
      | succ n ihn =>
        intro fr fr' dy dy' c c' h hf hd
        simp only at h
        split at h
        · rename_i fr1 dy1 c1 hs
          obtain ⟨a1, a2, a3, a4⟩ := ih hok hs hf hd
          obtain ⟨b1, b2, b3, b4⟩ := ihn h a2 a3
          exact ⟨by omega, b2, b3, fun ε K k => a4 ε _ fun ε1 ag => b4 ε1 K fun ε2 ag2 => k ε2 (ag.trans a1 ag2)⟩
        · rename_i id s hs
          cases h
          obtain ⟨a1, a2, a3, a4⟩ := ih hok hs hf hd
          exact ⟨a1, a2, a3, fun ε K k => a4 ε _ fun ε1 ag => k ε1 ag⟩
        · rename_i s hs
          cases h
          obtain ⟨a1, a2, a3, a4⟩ := ih hok hs hf hd
          exact ⟨a1, a2, a3, fun ε K k => a4 ε _ fun ε1 ag => k ε1 ag⟩
        · cases h
    obtain ⟨a1, a2, a3, a4⟩ := key N h hf hd
    exact ⟨a1, a2, a3, fun ε K k => wk_loopN N (a4 ε K k)⟩
  | exit id =>
    intro _ e fr fr' dy dy' c c' h hf hd
    cases h
    exact ⟨Nat.le_refl _, hf, hd, fun ε K k => wk_exit (k ε Agr.refl)⟩
  | ret =>
    intro _ e fr fr' dy dy' c c' h hf hd
    cases h
    exact ⟨Nat.le_refl _, hf, hd, fun ε K k => wk_ret (k ε Agr.refl)⟩
  | _ => intro _ e fr fr' dy dy' c c' h; cases h
end

/-! ### functions -/
noncomputable def resX (ti : TI) (fr : List AV) (dy : List AObj) : List ResultVar → Option (List AV)
  | [] => some []
  | .tmp t :: r => (resX ti fr dy r).map fun vs => nth fr t .u :: vs
  | .cell a t :: r => match readX ti (evX fr) dy (.load t (.tmp a)) with
    | some v => (resX ti fr dy r).map fun vs => v :: vs
    | none => none
theorem resX_sound {P : Program} {ti : TI} (tok : TOk P ti) {ε : Nat → Nat} {fr : List AV} {dy : List AObj} : ∀ {l : List ResultVar} {vs : List AV}, resX ti fr dy l = some vs → ∀ {K : List AV → Prop}, K (renL ε vs) → resK ti (renL ε fr) (hp ε dy) l K
  | [], vs, h, K, k => by cases h; exact k
  | .tmp t :: r, vs, h, K, k => by
    unfold resX at h
    rw [Option.map_eq_some_iff] at h
    obtain ⟨ws, h1, rfl⟩ := h
    unfold resK
    refine resX_sound tok h1 ?_
    have e := congrFun (evl_ren ε fr) (.tmp t)
    simp only [evl] at e
    rw [e]
    rw [renL, nth_eq] at k
    exact k
  | .cell a t :: r, vs, h, K, k => by
    unfold resX at h
    split at h
    · rename_i v hv
      rw [Option.map_eq_some_iff] at h
      obtain ⟨ws, h1, rfl⟩ := h
      unfold resK
      rw [evl_ren]
      rw [evX_eq] at hv
      refine readX_sound tok hv ?_
      refine resX_sound tok h1 ?_
      rw [renL] at k
      exact k
    · cases h
theorem resV_ren {ε : Nat → Nat} (vs : List AV) : resV (renL ε vs) = (resV vs).ren ε := by
  match vs with
  | [] => simp [renL, resV, AV.ren]
  | [v] => simp [renL, resV]
  | a :: b :: l => simp [renL, resV, AV.ren]

noncomputable def frz1X (dy : List AObj) (a : AV) : Option (AV × List AObj) :=
  match a with
  | .oslc id ep sz off len lim => match id with
    | .d n => (match nthO dy n with
      | some (.vec ep' rows) => if ep' = ep ∧ (rows.all fun r => r.all AV.pure1) = true then setK dy n .hole fun dy => some (.lslc sz rows off len lim, dy) else none
      | _ => none)
    | .s _ => none
  | a => some (a, dy)
noncomputable def frzLX (dy : List AObj) : List AV → Option (List AV × List AObj)
  | [] => some ([], dy)
  | a :: r => match frz1X dy a with
    | some (a', dy) => (match frzLX dy r with | some (r', dy) => some (a' :: r', dy) | none => none)
    | none => none
noncomputable def frzAX (dy : List AObj) (a : AV) : Option (AV × List AObj) :=
  match a with
  | .agg cs => (frzLX dy cs).map fun p => (.agg p.1, p.2)
  | a => frz1X dy a
noncomputable def frzAsX (dy : List AObj) : List AV → Option (List AV × List AObj)
  | [] => some ([], dy)
  | a :: r => match frzAX dy a with
    | some (a', dy) => (match frzAsX dy r with | some (r', dy) => some (a' :: r', dy) | none => none)
    | none => none
noncomputable def frzX (dy : List AObj) (a : AV) : Option AV :=
  match a with
  | .tup cs => (frzAsX dy cs).map fun p => .tup p.1
  | a => (frzAX dy a).map fun p => p.1

theorem frz1X_sound {ε : Nat → Nat} {dy dy' : List AObj} {a a' : AV} (h : frz1X dy a = some (a', dy')) {K : AV → Heap → Prop} (k : K (a'.ren ε) (hp ε dy')) : frz1 (hp ε dy) (a.ren ε) K := by
  unfold frz1X at h
  split at h
  · split at h
    · rename_i ep sz off len lim n
      split at h
      · rename_i ep' rows ho
        rw [nthO_eq] at ho
        split at h
        · rename_i hc
          rw [setK_eq] at h
          cases h
          simp only [AV.ren, frz1, hp_get, ho, Option.map_some, AObj.ren]
          rw [hp_set] at k
          refine ⟨by rw [hc.1], ?_, ?_⟩
          · rw [rows_pure hc.2]
            exact fun r hr x hx => List.all_eq_true.1 (List.all_eq_true.1 hc.2 r hr) x hx
          · rw [rows_pure hc.2]
            exact k
        · cases h
      · cases h
    · cases h
  · rename_i hne
    cases h
    cases a <;> first | exact absurd rfl (hne _ _ _ _ _ _) | exact k
theorem frzLX_sound {ε : Nat → Nat} : ∀ {cs cs' : List AV} {dy dy' : List AObj}, frzLX dy cs = some (cs', dy') → ∀ {K : List AV → Heap → Prop}, K (renL ε cs') (hp ε dy') → frzCells (hp ε dy) (renL ε cs) K
  | [], cs', dy, dy', h, K, k => by cases h; exact k
  | a :: r, cs', dy, dy', h, K, k => by
    unfold frzLX at h
    split at h
    · rename_i a' dy1 h1
      split at h
      · rename_i r' dy2 h2
        cases h
        rw [renL, frzCells]
        refine frz1X_sound h1 (frzLX_sound h2 ?_)
        rw [renL] at k
        exact k
      · cases h
    · cases h
theorem frzAX_sound {ε : Nat → Nat} {dy dy' : List AObj} {a a' : AV} (h : frzAX dy a = some (a', dy')) {K : AV → Heap → Prop} (k : K (a'.ren ε) (hp ε dy')) : frzA (hp ε dy) (a.ren ε) K := by
  unfold frzAX at h
  split at h
  · rename_i cs
    rw [Option.map_eq_some_iff] at h
    obtain ⟨⟨cs', dy1⟩, h1, h2⟩ := h
    cases h2
    rw [AV.ren]
    unfold frzA
    refine frzLX_sound h1 ?_
    rw [AV.ren] at k
    exact k
  · rename_i hne
    have := frz1X_sound h k
    cases a <;> first | exact absurd rfl (hne _) | exact this
theorem frzAsX_sound {ε : Nat → Nat} : ∀ {cs cs' : List AV} {dy dy' : List AObj}, frzAsX dy cs = some (cs', dy') → ∀ {K : List AV → Heap → Prop}, K (renL ε cs') (hp ε dy') → frzAs (hp ε dy) (renL ε cs) K
  | [], cs', dy, dy', h, K, k => by cases h; exact k
  | a :: r, cs', dy, dy', h, K, k => by
    unfold frzAsX at h
    split at h
    · rename_i a' dy1 h1
      split at h
      · rename_i r' dy2 h2
        cases h
        rw [renL, frzAs]
        refine frzAX_sound h1 (frzAsX_sound h2 ?_)
        rw [renL] at k
        exact k
      · cases h
    · cases h
theorem frzX_sound {ε : Nat → Nat} {dy : List AObj} {a a' : AV} (h : frzX dy a = some a') {K : AV → Heap → Prop} (k : ∀ H, K (a'.ren ε) H) : frzK (hp ε dy) (a.ren ε) K := by
  unfold frzX at h
  split at h
  · rename_i cs
    rw [Option.map_eq_some_iff] at h
    obtain ⟨⟨cs', dy1⟩, h1, h2⟩ := h
    cases h2
    rw [AV.ren]
    unfold frzK
    refine frzAsX_sound h1 ?_
    have := k (hp ε dy1)
    rw [AV.ren] at this
    exact this
  · rename_i hne
    rw [Option.map_eq_some_iff] at h
    obtain ⟨⟨b, dy1⟩, h1, rfl⟩ := h
    have := frzAX_sound h1 (k (hp ε dy1))
    cases a <;> first | exact absurd rfl (hne _) | exact this

noncomputable def xbody (C : Ctx) (F : XF) (G : XP) (ord : Nat → Option Plan) (N : Nat) (fn : Func) (code : Code) (args : List AV) (dy : List AObj) (c : Nat) : Option (AV × List AObj × Nat) :=
  appK args (List.replicate (fn.ntmps - args.length) .u) fun fr => fL (fun a k => k a) fr fun fr => match xcode C F G ord N code fr dy c with
    | some (.exit _, _) => none
    | some (_, fr, dy, c) => (match resX C.ti fr dy fn.results.toList with
      | some vs => fV (resV vs) fun v => if bd c v = true then some (v, dy, c) else none
      | none => none)
    | none => none
noncomputable def xfn (C : Ctx) (fetch : FuncId → Option Func) (ord : FuncId → Nat → Option Plan) (N : Nat) (n : Nat) : XF :=
  Nat.rec (motive := fun _ => XF) (fun _ _ _ _ => none) (fun _ F f args dy c => match fetch f with
    | some fn => (match fn.body with
      | some code => xbody C F (fun f args => match F f args [] 0 with
        | some (v, dy, _) => (match frzX dy v with | some r => fV r fun r => if r.isPure2 = true then some r else none | none => none)
        | none => none) (ord f) N fn code args dy c
      | none => none)
    | none => none) n

theorem pure0_bd {c : Nat} {a : AV} (h : a.pure1 = true) : bd0 c a = true := by
  cases a <;> simp only [AV.pure1, Bool.false_eq_true] at h <;> first | rfl | exact h
theorem pure_bd {c : Nat} {a : AV} (h : a.isPure = true) : bd c a = true := by
  cases a with
  | agg cs => exact all_le (fun _ => pure0_bd) h
  | tup cs => exact all_le (fun _ hx => by have := pure0_bd (c := c) hx; revert this; rename_i x; cases x <;> simp [bd0, bd1] <;> (try (intro h1 h2; subst h1; subst h2; simp))) h
  | fn f x y =>
    have h : (x.isEmpty && y.isEmpty) = true := h
    simp only [Bool.and_eq_true, List.isEmpty_iff] at h
    obtain ⟨rfl, rfl⟩ := h
    rfl
  | optr => cases h
  | oslc => cases h
  | mp => cases h
  | _ => rfl

theorem pok_of {C : Ctx} {F : XF} (hF : FOk C F) : POk C (fun f args => match F f args [] 0 with
        | some (v, dy, _) => (match frzX dy v with | some r => fV r fun r => if r.isPure2 = true then some r else none | none => none)
        | none => none) := by
  intro f args r h hp
  simp only at h
  split at h
  · rename_i v dy c' hv
    split at h
    · rename_i r0 hr
      rw [fV_eq] at h
      split at h
      · rename_i h2
        cases h
        refine ⟨h2, ⟨⟨?_⟩⟩⟩
        obtain ⟨_, _, _, a4⟩ := hF f args [] 0 v dy c' hv (List.all_eq_true.2 fun x hx => pure_bd (List.all_eq_true.1 hp x hx)) rfl
        have := a4 (fun n => n) (fun r0 h' => frzK h' r0 fun r' _ => r'.isPure2 = true ∧ r' = r) fun ε' _ => frzX_sound hr fun H => by
          rw [ren_pure2 h2]
          exact ⟨h2, rfl⟩
        rw [renL_pure' hp] at this
        exact this
      · cases h
    · cases h
  · cases h

/-- EVALUATED AT ONCE: what comes out is what the function hands back -/
theorem xfn_sound {C : Ctx} (ok : COk C) (hm : C.P.follows .mixedOrders = true) (hy : C.yl = none) {fetch : FuncId → Option Func} {ord : FuncId → Nat → Option Plan} {N : Nat}
    (hf : ∀ f fn, fetch f = some fn → C.P.funcs[f]? = some fn) (ho : ∀ f fn code, fetch f = some fn → fn.body = some code → codeOk C (ord f) code) : ∀ n, FOk C (xfn C fetch ord N n) := by
  intro n
  induction n with
  | zero => intro f args dy c v dy' c' h; cases h
  | succ n ih =>
    intro f args dy c v dy' c' h ha hd
    have h : (match fetch f with
    | some fn => (match fn.body with
      | some code => xbody C (xfn C fetch ord N n) (fun f args => match xfn C fetch ord N n f args [] 0 with
        | some (v, dy, _) => (match frzX dy v with | some r => fV r fun r => if r.isPure2 = true then some r else none | none => none)
        | none => none) (ord f) N fn code args dy c
      | none => none)
    | none => none) = some (v, dy', c') := h
    split at h
    · rename_i fn hfn
      split at h
      · rename_i code hb
        unfold xbody at h
        rw [appK_eq, fL_eq (fun _ _ => rfl)] at h
        have hfr : bdF c (frame0 args fn.ntmps) := by
          unfold bdF frame0
          rw [List.all_append, Bool.and_eq_true]
          refine ⟨ha, List.all_eq_true.2 fun x hx => ?_⟩
          rw [List.eq_of_mem_replicate hx]; rfl
        have hren : ∀ ε, renL ε (frame0 args fn.ntmps) = frame0 (renL ε args) fn.ntmps := fun ε => by
          unfold frame0
          rw [renL_app, renL_length]
          congr 1
          rw [renL_map, List.map_replicate]
          simp [AV.ren]
        have fin : ∀ {e : AE} {fr1 : List AV} {dy1 : List AObj} {c1 : Nat}, (∀ id, e ≠ .exit id) → xcode C (xfn C fetch ord N n) (fun f args => match xfn C fetch ord N n f args [] 0 with
        | some (v, dy, _) => (match frzX dy v with | some r => fV r fun r => if r.isPure2 = true then some r else none | none => none)
        | none => none) (ord f) N code (frame0 args fn.ntmps) dy c = some (e, fr1, dy1, c1) →
            (match resX C.ti fr1 dy1 fn.results.toList with
      | some vs => fV (resV vs) fun v => if bd c1 v = true then some (v, dy1, c1) else none
      | none => none) = some (v, dy', c') → c ≤ c' ∧ bd c' v = true ∧ bdH c' dy' ∧ ∀ ε K, (∀ ε', Agr c ε ε' → K (v.ren ε') (hp ε' dy')) → ACalls C.P f (renL ε args) (hp ε dy) K := by
          intro e fr1 dy1 c1 hne hx hr
          obtain ⟨a1, a2, a3, a4⟩ := xcode_sound ok hm ih (pok_of ih) (ho f fn code hfn hb) hx hfr hd
          split at hr
          · rename_i vs hvs
            rw [fV_eq] at hr
            split at hr
            · rename_i hbv
              cases hr
              refine ⟨a1, hbv, a3, fun ε K k => ?_⟩
              refine acalls_wk ok (hf f fn hfn) hb hy ?_
              rw [← hren]
              refine a4 ε _ fun ε' ag => ?_
              have hres : resK C.ti (renL ε' fr1) (hp ε' dy') fn.results.toList fun vs => K (resV vs) (hp ε' dy') := resX_sound ok.tok hvs (by rw [resV_ren]; exact k ε' ag)
              cases e with
              | normal => exact hres
              | ret => exact hres
              | exit id => exact absurd rfl (hne id)
            · cases hr
          · cases hr
        split at h
        · cases h
        · rename_i e fr1 dy1 c1 hne hx
          exact fin (fun id he => hne id he) hx h
        · cases h
      · cases h
    · cases h

theorem frz1_pure {a : AV} {h : Heap} {K : AV → Heap → Prop} (hp : a.pure1 = true) (k : K a h) : frz1 h a K := by
  unfold frz1
  split
  · cases hp
  · exact k
theorem frzCells_pure : ∀ {cs : List AV} {h : Heap} {K : List AV → Heap → Prop}, cs.all AV.pure1 = true → K cs h → frzCells h cs K
  | [], _, _, _, k => k
  | a :: r, h, K, hp, k => by
    simp only [List.all_cons, Bool.and_eq_true] at hp
    exact frz1_pure hp.1 (frzCells_pure hp.2 k)
theorem frzA_pure {a : AV} {h : Heap} {K : AV → Heap → Prop} (hp : a.isPure = true) (k : K a h) : frzA h a K := by
  unfold frzA
  split
  · exact frzCells_pure hp k
  · cases a with
    | tup cs => unfold frz1; exact k
    | agg cs => rename_i hh; exact absurd rfl (hh cs)
    | _ => exact frz1_pure hp k
theorem frzAs_pure : ∀ {cs : List AV} {h : Heap} {K : List AV → Heap → Prop}, cs.all AV.isPure = true → K cs h → frzAs h cs K
  | [], _, _, _, k => k
  | a :: r, h, K, hp, k => by
    simp only [List.all_cons, Bool.and_eq_true] at hp
    exact frzA_pure hp.1 (frzAs_pure hp.2 k)
theorem frzK_pure {a : AV} {h : Heap} {K : AV → Heap → Prop} (hp : a.isPure2 = true) (k : K a h) : frzK h a K := by
  unfold frzK
  split
  · exact frzAs_pure hp k
  · cases a with
    | tup cs => rename_i hh; exact absurd rfl (hh cs)
    | _ => exact frzA_pure hp k

/-- a closed run -/
theorem pret_run {C : Ctx} (ok : COk C) (hm : C.P.follows .mixedOrders = true) (hy : C.yl = none) {fetch : FuncId → Option Func} {ord : FuncId → Nat → Option Plan} {N n : Nat}
    (hf : ∀ f fn, fetch f = some fn → C.P.funcs[f]? = some fn) (ho : ∀ f fn code, fetch f = some fn → fn.body = some code → codeOk C (ord f) code) {f : FuncId} {r : AV} (hp : r.isPure2 = true)
    {dy : List AObj} {c : Nat} (h : xfn C fetch ord N n f [] [] 0 = some (r, dy, c)) : PRet C.P f [] r := by
  obtain ⟨_, _, _, a4⟩ := xfn_sound ok hm hy hf ho n f [] [] 0 r dy c h rfl rfl
  refine ⟨⟨?_⟩⟩
  have := a4 (fun n => n) (fun r0 h' => frzK h' r0 fun r' _ => r'.isPure2 = true ∧ r' = r) fun ε' _ => by
    rw [ren_pure2 hp]
    exact frzK_pure hp ⟨hp, rfl⟩
  exact this
theorem pret_true {C : Ctx} (ok : COk C) (hm : C.P.follows .mixedOrders = true) (hy : C.yl = none) {fetch : FuncId → Option Func} {ord : FuncId → Nat → Option Plan} (N n : Nat)
    (hf : ∀ f fn, fetch f = some fn → C.P.funcs[f]? = some fn) (ho : ∀ f fn code, fetch f = some fn → fn.body = some code → codeOk C (ord f) code) {f : FuncId}
    (h : (match xfn C fetch ord N n f [] [] 0 with | some (.bool b, _, _) => b | _ => false) = true) : PRet C.P f [] (.bool true) := by
  split at h
  · rename_i b dy c hx
    subst h
    exact pret_run ok hm hy hf ho rfl hx
  · cases h
end Go.Ab
