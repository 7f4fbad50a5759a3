/-
  What is proved here serves the law's text: each part says its own claim and its conditions. No condition is left open.
-/
import Derived.Test.YthdhhhgjdegafaaKI
set_option linter.unusedSimpArgs false
set_option linter.unusedVariables false

/-
  The operations on memory, evaluated at once. No condition.
-/
namespace Go.Ab

/-- a heap of numbered objects -/
def hp (ε : Nat → Nat) (dy : List AObj) : Heap := ⟨[], dy.map (AObj.ren ε)⟩
theorem hp_get (ε : Nat → Nat) (dy : List AObj) (n : Nat) : (hp ε dy)[Id.d n]? = (dy[n]?).map (AObj.ren ε) := by
  show (dy.map _)[n]? = _
  simp
theorem hp_set (ε : Nat → Nat) (dy : List AObj) (n : Nat) (o : AObj) : hp ε (dy.set n o) = (hp ε dy).set (.d n) (o.ren ε) := by
  simp [hp, Heap.set, List.map_set]

/-! ### maps -/
def litEq : AV → AV → Bool
  | .int k n, .int k' m => decide (k = k') && decide (n = m)
  | .bool a, .bool b => a == b
  | _, _ => false
def eqL : List AV → List AV → Bool
  | [], [] => true
  | a :: l, b :: m => litEq a b && eqL l m
  | _, _ => false
def findIX (kd : IntKind) (n : Int) : Nat → List (AV × AV) → Option (Option (Nat × AV))
  | _, [] => some none
  | i, (k, v) :: r => match k with
    | .int k a => if k = kd then (match decide (n = a) with
      | true => some (some (i, v))
      | false => findIX kd n (i + 1) r) else none
    | _ => none
def otherKey (xs : List AV) (p : AV × AV) : Bool := match p.1 with
  | .agg ys => !eqL xs ys
  | _ => true
def findAX (xs : List AV) : Nat → List (AV × AV) → Option (Option (Nat × AV))
  | _, [] => some none
  | i, (k, v) :: r => match k with
    | .agg ys => (match eqL xs ys with
      | true => if r.all (otherKey xs) = true then some (some (i, v)) else none
      | false => findAX xs (i + 1) r)
    | _ => none
def findX (ti : TI) (kt : Nat) (key : AV) (es : List (AV × AV)) : Option (Option (Nat × AV)) :=
  match ti kt with
  | none => none
  | some dk => match dk.kind with
    | .int kd => (match key with
      | .int k n => if k = kd then findIX kd n 0 es else none
      | _ => none)
    | .arr .. | .struct _ => (match key with
      | .agg xs => if (dk.key && keyRow ti kt (.agg xs, .u) && es.all (keyRow ti kt)) = true then findAX xs 0 es else none
      | _ => none)
    | _ => none
noncomputable def lookX (ti : TI) (dy : List AObj) (t : Nat) (m key : AV) (okf : Bool) : Option AV :=
  match kindOf ti t with
  | some (.map kt vt) => match ti vt with
    | some dv => match zeroV dv with
      | some z => match m with
        | .nilm => (findX ti kt key []).map fun _ => bif okf then .tup [z, .bool false] else z
        | .mp (.d n) ep => (match nthO dy n with
          | some (.map ep' es) => if ep' = ep then (findX ti kt key es).map fun r => (match r with
            | some (_, v) => bif okf then .tup [v, .bool true] else v
            | none => bif okf then .tup [z, .bool false] else z) else none
          | _ => none)
        | _ => none
      | none => none
    | none => none
  | _ => none
noncomputable def updX (ti : TI) (dy : List AObj) (c : Nat) (t : Nat) (m key v : AV) : Option (AV × Option (Nat × AObj) × Nat) :=
  match kindOf ti t with
  | some (.map kt _) => match m with
    | .mp (.d n) ep => (match nthO dy n with
      | some (.map ep' es) => if ep' = ep then (findX ti kt key es).map fun r => (.u, some (n, .map ep (match r with
        | some (i, _) => es.set i (key, v)
        | none => es ++ [(key, v)])), c) else none
      | _ => none)
    | _ => none
  | _ => none

section
variable {ti : TI} {ε : Nat → Nat} {dy : List AObj}
theorem litEq_iff {a b : AV} (h : litEq a b = true) : a = b := by
  unfold litEq at h
  split at h
  · simp only [Bool.and_eq_true, decide_eq_true_eq] at h
    rw [h.1, h.2]
  · rw [eq_of_beq h]
  · cases h
theorem litEq_self {a : AV} (h : lit1 a = true) : litEq a a = true := by
  cases a <;> simp only [lit1, Bool.false_eq_true] at h <;> simp [litEq]
theorem eqL_iff : ∀ {a b : List AV}, eqL a b = true → a = b
  | [], [], _ => rfl
  | [], _ :: _, h => by cases h
  | _ :: _, [], h => by cases h
  | a :: l, b :: m, h => by
    simp only [eqL, Bool.and_eq_true] at h
    rw [litEq_iff h.1, eqL_iff h.2]
theorem eqL_self : ∀ {a : List AV}, a.all lit1 = true → eqL a a = true
  | [], _ => rfl
  | a :: l, h => by
    simp only [List.all_cons, Bool.and_eq_true] at h
    simp only [eqL, litEq_self h.1, eqL_self h.2, Bool.and_self]
theorem lit_ren {a : AV} (h : lit1 a = true) : a.ren ε = a := by
  cases a <;> simp only [lit1, Bool.false_eq_true] at h <;> rfl
theorem lits_ren : ∀ {l : List AV}, l.all lit1 = true → renL ε l = l
  | [], _ => by rw [renL]
  | a :: l, h => by
    simp only [List.all_cons, Bool.and_eq_true] at h
    rw [renL, lit_ren h.1, lits_ren h.2]
abbrev renP (ε : Nat → Nat) (p : AV × AV) : AV × AV := (p.1.ren ε, p.2.ren ε)
abbrev renF (ε : Nat → Nat) (r : Option (Nat × AV)) : Option (Nat × AV) := r.map fun p => (p.1, p.2.ren ε)
theorem findIX_sound {kd : IntKind} {n : Int} : ∀ {es : List (AV × AV)} {i : Nat} {r : Option (Nat × AV)}, findIX kd n i es = some r → ∀ {K : Option (Nat × AV) → Prop}, K (renF ε r) → findI kd n i (es.map (renP ε)) K
  | [], i, r, h, K, k => by cases h; exact k
  | (q, v) :: es, i, r, h, K, k => by
    unfold findIX at h
    split at h
    · rename_i q a
      split at h
      · rename_i hq
        rw [List.map_cons]
        unfold findI
        refine ⟨hq, ?_⟩
        split at h
        · rename_i hd
          cases h
          simp only [hd]
          exact k
        · rename_i hd
          simp only [hd]
          exact findIX_sound h k
      · cases h
    · cases h
theorem keyRow_lits {kt : Nat} {p : AV × AV} (h : keyRow ti kt p = true) : ∃ ys, p.1 = .agg ys ∧ ys.all lit1 = true := by
  unfold keyRow at h
  split at h
  · rename_i ys hp
    simp only [Bool.and_eq_true] at h
    exact ⟨ys, hp, h.2⟩
  · cases h
theorem otherKey_ne {xs : List AV} (hx : xs.all lit1 = true) {p : AV × AV} (h : otherKey xs p = true) : p.1 ≠ .agg xs := by
  intro e
  unfold otherKey at h
  rw [e] at h
  simp [eqL_self hx] at h
theorem findAX_sound {kt : Nat} {xs : List AV} (hx : xs.all lit1 = true) : ∀ {es : List (AV × AV)} {i : Nat} {r : Option (Nat × AV)}, es.all (keyRow ti kt) = true → findAX xs i es = some r →
    (match r with
      | none => ∀ p ∈ es, p.1 ≠ .agg xs
      | some (a, v) => i ≤ a ∧ es[a - i]? = some (.agg xs, v) ∧ ∀ (j : Nat) (p : AV × AV), j ≠ a - i → es[j]? = some p → p.1 ≠ .agg xs)
  | [], i, r, _, h => by cases h; intro p hp; cases hp
  | (q, v) :: es, i, r, hk, h => by
    simp only [List.all_cons, Bool.and_eq_true] at hk
    unfold findAX at h
    split at h
    · rename_i ys
      split at h
      · rename_i he
        split at h
        · rename_i ho
          cases h
          have := eqL_iff he
          subst this
          refine ⟨Nat.le_refl _, by simp, fun j p hj hp => ?_⟩
          cases j with
          | zero => omega
          | succ j =>
            simp at hp
            exact otherKey_ne hx (List.all_eq_true.1 ho p (List.mem_of_getElem? hp))
        · cases h
      · rename_i he
        have hne : ys ≠ xs := by
          intro e
          rw [e, eqL_self hx] at he
          cases he
        have ih := findAX_sound hx hk.2 h
        match r, ih with
        | none, ih =>
          intro p hp
          rcases List.mem_cons.1 hp with rfl | hp
          · exact fun e => hne (AV.agg.inj e)
          · exact ih p hp
        | some (a, w), ⟨h1, h2, h3⟩ =>
          have e : a - i = (a - (i + 1)) + 1 := by omega
          refine ⟨by omega, by rw [e]; simpa using h2, fun j p hj hp => ?_⟩
          cases j with
          | zero => simp at hp; rw [← hp]; exact fun e => hne (AV.agg.inj e)
          | succ j => simp at hp; exact h3 j p (by omega) hp
    · cases h
theorem agg_ren_ne {k : AV} {xs : List AV} (hk : ∃ ys, k = .agg ys ∧ ys.all lit1 = true) (h : k ≠ .agg xs) : k.ren ε ≠ .agg xs := by
  obtain ⟨ys, rfl, hy⟩ := hk
  rw [AV.ren, lits_ren hy]
  exact h
theorem findX_sound {kt : Nat} {key : AV} {es : List (AV × AV)} {r : Option (Nat × AV)} (h : findX ti kt key es = some r) {K : Option (Nat × AV) → Prop} (k : K (renF ε r)) : findP ti kt (key.ren ε) (es.map (renP ε)) K := by
  unfold findX at h
  unfold findP
  split at h
  · cases h
  · rename_i dk hdk
    simp only [hdk]
    have agg : ∀ {key : AV}, (match key with
      | .agg xs => if (dk.key && keyRow ti kt (.agg xs, .u) && es.all (keyRow ti kt)) = true then findAX xs 0 es else none
      | _ => none) = some r → findPA ti kt dk (key.ren ε) (es.map (renP ε)) K := by
      intro key h
      split at h
      · rename_i xs
        split at h
        · rename_i hc
          simp only [Bool.and_eq_true] at hc
          obtain ⟨⟨h1, h2⟩, h3⟩ := hc
          obtain ⟨ys, e1, hx⟩ := keyRow_lits h2
          cases e1
          have hf := findAX_sound hx h3 h
          rw [AV.ren, lits_ren hx]
          unfold findPA
          refine ⟨⟨h1, h2, ?_⟩, ?_⟩
          · rw [List.all_map]
            refine List.all_eq_true.2 fun p hp => ?_
            have := List.all_eq_true.1 h3 p hp
            obtain ⟨zs, e2, hz⟩ := keyRow_lits this
            obtain ⟨p1, p2⟩ := p
            simp only at e2
            subst e2
            simp only [Function.comp_apply, renP, AV.ren, lits_ren hz]
            exact this
          · match r, hf with
            | none, hf =>
              refine .inl ⟨fun p hp => ?_, k⟩
              obtain ⟨q, hq, rfl⟩ := List.mem_map.1 hp
              exact agg_ren_ne (keyRow_lits (List.all_eq_true.1 h3 q hq)) (hf q hq)
            | some (a, v), ⟨_, h5, h6⟩ =>
              refine .inr ⟨a, v.ren ε, ?_, fun j p hj hp => ?_, k⟩
              · rw [List.getElem?_map]
                have h5 : es[a]? = some (.agg xs, v) := by simpa using h5
                rw [h5]
                simp only [Option.map_some, renP, AV.ren, lits_ren hx]
              · rw [List.getElem?_map, Option.map_eq_some_iff] at hp
                obtain ⟨q, hq, rfl⟩ := hp
                exact agg_ren_ne (keyRow_lits (List.all_eq_true.1 h3 q (List.mem_of_getElem? hq))) (h6 j q (by simpa using hj) hq)
        · cases h
      · cases h
    split at h
    · rename_i kd hkd
      simp only [hkd]
      split at h
      · rename_i q n
        split at h
        · rename_i hq
          exact ⟨hq, findIX_sound h k⟩
        · cases h
      · cases h
    · rename_i hkd
      simp only [hkd]
      exact agg h
    · rename_i hkd
      simp only [hkd]
      exact agg h
    · cases h
theorem zeroV_ren {P : Program} (tok : TOk P ti) {t : Nat} {d : TD} (hd : ti t = some d) {z : AV} (hz : zeroV d = some z) : z.ren ε = z := by
  have h := zero_ren (ε := ε) tok hd
  unfold zeroV at hz
  split at hz
  · cases hz
    rw [AV.ren, h]
  · have := renL_get (ε := ε) d.zero 0
    rw [h, hz] at this
    simpa using this.symm
theorem lookX_sound {P : Program} (tok : TOk P ti) {t : Nat} {m key : AV} {okf : Bool} {v : AV} (h : lookX ti dy t m key okf = some v) {K : AV → Prop} (k : K (v.ren ε)) : lookK ti (hp ε dy) t (m.ren ε) (key.ren ε) okf K := by
  unfold lookX at h
  unfold lookK
  split at h
  · rename_i kt vt hk
    simp only [hk]
    split at h
    · rename_i dv hdv
      simp only [hdv]
      split at h
      · rename_i z hz
        simp only [hz]
        have zr := zeroV_ren (ε := ε) tok hdv hz
        have tup : ∀ (a : AV) (b : Bool), (bif okf then AV.tup [a, .bool b] else a).ren ε = bif okf then AV.tup [a.ren ε, .bool b] else a.ren ε := fun a b => by
          cases okf <;> simp [AV.ren, renL]
        split at h
        · rw [Option.map_eq_some_iff] at h
          obtain ⟨r, h1, rfl⟩ := h
          rw [tup, zr] at k
          simp only [AV.ren]
          exact findX_sound (ε := ε) (es := []) h1 k
        · rename_i n ep
          split at h
          · rename_i ep' es ho
            rw [nthO_eq] at ho
            split at h
            · rename_i he
              subst he
              rw [Option.map_eq_some_iff] at h
              obtain ⟨r, h1, rfl⟩ := h
              simp only [AV.ren, hp_get, ho, Option.map_some, AObj.ren]
              refine ⟨trivial, findX_sound h1 ?_⟩
              cases r with
              | none => simp only [tup, zr] at k; exact k
              | some p => simp only [tup] at k; exact k
            · cases h
          · cases h
        · cases h
      · cases h
    · cases h
  · cases h
theorem updX_sound {c c' : Nat} {t : Nat} {m key v : AV} {w : AV} {ch : Option (Nat × AObj)} (h : updX ti dy c t m key v = some (w, ch, c')) {K : AV → Heap → Prop}
    (k : K (w.ren ε) (match ch with | none => hp ε dy | some (m, o) => (hp ε dy).set (.d m) (o.ren ε))) : updK ti (hp ε dy) t (m.ren ε) (key.ren ε) (v.ren ε) K := by
  unfold updX at h
  unfold updK
  split at h
  · rename_i kt vt hk
    simp only [hk]
    split at h
    · rename_i n ep
      split at h
      · rename_i ep' es ho
        rw [nthO_eq] at ho
        split at h
        · rename_i he
          subst he
          rw [Option.map_eq_some_iff] at h
          obtain ⟨r, h1, h2⟩ := h
          cases h2
          simp only [AV.ren, hp_get, ho, Option.map_some, AObj.ren]
          refine ⟨trivial, findX_sound h1 ?_⟩
          cases r with
          | none => simp only [AV.ren, AObj.ren, List.map_append, List.map_cons, List.map_nil] at k; exact k
          | some p => simp only [AV.ren, AObj.ren, List.map_set] at k; exact k
        · cases h
      · cases h
    · cases h
  · cases h
end

noncomputable def readX (ti : TI) (ev : Operand → AV) (dy : List AObj) (op : Op) : Option AV :=
  match op with
  | .load t p =>
    match ti t with
    | none => none
    | some d => match ev p with
      | .optr (.d n) ep _ i off => (match nthO dy n with
        | some (.vec ep' rows) => if ep' = ep then (match nthO rows i with | some row => aPart d.isAgg d.size off row | none => none) else none
        | _ => none)
      | .lptr _ rows i off => (match nthO rows i with
        | some row => (match aPart d.isAgg d.size off row with | some v => if v.isPure = true then some v else none | none => none)
        | none => none)
      | _ => none
  | .lookup t m ix okf => lookX ti dy t (ev m) (ev ix) okf
  | _ => none

section
variable {ti : TI} {ε : Nat → Nat} {ev : Operand → AV} {dy : List AObj}

theorem rowK_of {d : TD} {r : List AV} {off : Nat} {v : AV} (h : aPart d.isAgg d.size off r = some v) {K : AV → Prop} (k : K v) : rowK d (some r) off K := by
  unfold rowK
  simp only [h]
  exact k
theorem readX_sound {P : Program} (tok : TOk P ti) {op : Op} {v : AV} (h : readX ti ev dy op = some v) {K : AV → Prop} (k : K (v.ren ε)) : readK ti (fun x => (ev x).ren ε) (hp ε dy) op K := by
  unfold readX at h
  unfold readK
  split at h
  · split at h
    · cases h
    · rename_i d hd
      simp only [hd]
      split at h
      · rename_i n ep sz i off hp0
        simp only [hp0, AV.ren, hp_get]
        split at h
        · rename_i ep' rows ho
          rw [nthO_eq] at ho
          simp only [ho, Option.map_some, AObj.ren]
          split at h
          · rename_i he
            subst he
            split at h
            · rename_i row hr
              rw [nthO_eq] at hr
              refine ⟨rfl, ?_⟩
              rw [List.getElem?_map, hr]
              exact rowK_of (aPart_ren h) k
            · cases h
          · cases h
        · cases h
      · rename_i sz rows i off hp0
        simp only [hp0, AV.ren]
        split at h
        · rename_i row hr
          rw [nthO_eq] at hr
          split at h
          · rename_i v0 hv
            split at h
            · rename_i hpu
              cases h
              rw [hr]
              rw [ren_pure hpu] at k
              exact rowK_of hv k
            · cases h
          · cases h
        · cases h
      · cases h
  · exact lookX_sound tok h k
  · cases h

def allocX (ti : TI) (ev : Operand → AV) (n c : Nat) (op : Op) : Option (AV × AObj) :=
  match op with
  | .alloc t => match ti t with | some d => some (.optr (.d n) c d.size 0 0, .vec c [d.zero]) | none => none
  | .box t x => match ti t, (ev x).cells? with | some d, some cs => if cs.length = d.size then some (.optr (.d n) c d.size 0 0, .vec c [cs]) else none | _, _ => none
  | .buildSlice t len parts =>
    match kindOf ti t with
    | some (.slice e) => match ti e with
      | some d => if len * d.size > 2 ^ 24 ∨ d.size = 0 then none else
        match fillX (fun i => some (i * d.size, d.size)) ((List.replicate len d.zero).flatten) (parts.toList.map fun p => (p.1, ev p.2)) with
        | some cs => some (.oslc (.d n) c d.size 0 len false, .vec c (chunks d.size len cs))
        | none => none
      | none => none
    | _ => none
  | .makeSlice t l cp =>
    match kindOf ti t, ev l, ev cp with
    | some (.slice e), .int _ n', .int _ m => match ti e with
      | some d => if 0 ≤ n' ∧ n' ≤ m ∧ (d.bytes : Int) * m ≤ 281474976710656 ∧ m ≤ 9223372036854775807 then
          some (.oslc (.d n) c d.size 0 n'.toNat false, .vec c (List.replicate n'.toNat d.zero)) else none
      | none => none
    | _, _, _ => none
  | .makeMap t none => some (.mp (.d n) c, .map c [])
  | _ => none
/-- the cells bear epochs below c alone -/
def bdR (c : Nat) : AObj → Bool
  | .vec _ rows => rows.all fun r => r.all (bd1 c)
  | .map _ es => es.all fun p => bd1 c p.1 && bd1 c p.2
  | .hole => true

theorem chunks_ren (sz n : Nat) (cs : List AV) : (chunks sz n cs).map (renL ε) = chunks sz n (renL ε cs) := by
  unfold chunks
  rw [List.map_map]
  refine List.map_congr_left fun i _ => ?_
  simp only [Function.comp_apply]
  rw [renL_take, renL_drop]
theorem ren_new {c ep : Nat} {rows : List (List AV)} (h : bdR c (.vec c rows) = true) : AObj.ren (upd ε c ep) (.vec c rows) = .vec ep (rows.map (renL ε)) := by
  rw [AObj.ren, upd_at, rows_bd Agr.upd h]

theorem allocX_sound {P : Program} (tok : TOk P ti) {n c : Nat} {op : Op} {v : AV} {o : AObj} (h : allocX ti ev n c op = some (v, o)) {H : Heap} (ho : H[Id.d n]? = some .hole) (hb : bdR c o = true) {K : AV → Heap → Prop}
    (k : ∀ ep, K (v.ren (upd ε c ep)) (H.set (.d n) (o.ren (upd ε c ep)))) : allocK ti (fun x => (ev x).ren ε) (.d n) H op K := by
  unfold allocX at h
  unfold allocK
  simp only [ho]
  split at h
  · split at h
    · rename_i d hd
      cases h
      simp only [hd]
      intro ep
      have := k ep
      rw [ren_new hb, AV.ren, upd_at, List.map_cons, zero_ren tok hd] at this
      exact this
    · cases h
  · split at h
    · rename_i d cs hd hc
      split at h
      · rename_i hl
        cases h
        simp only [hd, ren_cells, hc, Option.map_some, renL_length]
        rw [if_pos hl]
        intro ep
        have := k ep
        rw [ren_new hb, AV.ren, upd_at] at this
        exact this
      · cases h
    · cases h
  · split at h
    · rename_i e he
      simp only [he]
      split at h
      · rename_i d hd
        simp only [hd]
        split at h
        · cases h
        · rename_i hsz
          rw [if_neg hsz]
          split at h
          · rename_i cs hf
            cases h
            have hz : ∀ len : Nat, renL ε (List.replicate len d.zero).flatten = (List.replicate len d.zero).flatten := fun len => by
              rw [renL_map, List.map_flatten, List.map_replicate, ← renL_map, zero_ren tok hd]
            have := fillX_sound (ε := ε) (K := fun cs => ∀ ep, K (.oslc (.d n) ep d.size 0 _ false) (H.set (.d n) (.vec ep (chunks d.size _ cs)))) hf (fun ep => by
              have := k ep
              rw [ren_new hb, AV.ren, upd_at, chunks_ren] at this
              exact this)
            rw [hz] at this
            simpa [List.map_map, Function.comp_def] using this
          · cases h
      · cases h
    · cases h
  · split at h
    · rename_i e k1 n' k2 m h1 h2 h3
      simp only [h1, h2, h3, AV.ren]
      split at h
      · rename_i d hd
        simp only [hd]
        split at h
        · rename_i hc
          cases h
          refine ⟨hc, fun ep => ?_⟩
          have := k ep
          rw [ren_new hb, AV.ren, upd_at, List.map_replicate, zero_ren tok hd] at this
          exact this
        · cases h
      · cases h
    · cases h
  · cases h
    intro ep
    have := k ep
    rw [AObj.ren, AV.ren, upd_at] at this
    exact this
  · cases h

noncomputable def elemsX (dy : List AObj) (size : Nat) (x : AV) : Option (List (List AV)) :=
  match x with
  | .oslc (.d n) ep sz off len _ => if sz = size then (match nthO dy n with | some (.vec ep' rows) => if ep' = ep then some ((rows.drop off).take len) else none | _ => none) else none
  | .lslc sz rows off len _ => if sz = size ∧ (rows.all fun r => r.all AV.pure1) = true then some ((rows.drop off).take len) else none
  | .nils => some []
  | _ => none
theorem map_take_drop {α β : Type} (f : α → β) (l : List α) (a b : Nat) : ((l.drop a).take b).map f = ((l.map f).drop a).take b := by rw [List.map_take, List.map_drop]
theorem rows_pure {rows : List (List AV)} (h : (rows.all fun r => r.all AV.pure1) = true) : rows.map (renL ε) = rows := by
  refine (List.map_congr_left fun r hr => ?_).trans (List.map_id _)
  exact renL_pure (List.all_eq_true.1 h r hr)
theorem elemsX_sound {size : Nat} {x : AV} {new : List (List AV)} (h : elemsX dy size x = some new) {K : List (List AV) → Prop} (k : K (new.map (renL ε))) : elemsOf (hp ε dy) size (x.ren ε) K := by
  unfold elemsX at h
  split at h
  · split at h
    · rename_i hs
      split at h
      · rename_i ep' rows ho
        rw [nthO_eq] at ho
        split at h
        · rename_i he
          cases h
          subst he
          simp only [AV.ren, elemsOf, if_pos hs, hp_get, ho, Option.map_some, AObj.ren]
          refine ⟨trivial, ?_⟩
          rw [← map_take_drop]
          exact k
        · cases h
      · cases h
    · cases h
  · split at h
    · rename_i hs
      cases h
      simp only [AV.ren, elemsOf, if_pos hs.1]
      rw [map_take_drop, rows_pure hs.2] at k
      exact k
    · cases h
  · cases h
    exact k
  · cases h
def nilX : AV → Option Bool
  | .nils => some true
  | .lslc _ _ _ n _ | .oslc _ _ _ _ n _ => if n = 0 then none else some false
  | _ => none

/-- what a writing operation does: its value, the object that it changes, the next epoch -/
noncomputable def effX (ti : TI) (ev : Operand → AV) (dy : List AObj) (n c : Nat) (op : Op) : Option (AV × Option (Nat × AObj) × Nat) :=
  match op with
  | .store t p v =>
    match ti t, (ev v).cells? with
    | some d, some cs => if cs.length = d.size then (match ev p with
      | .optr (.d m) ep _ i off => (match nthO dy m with
        | some (.vec ep' rows) => if ep' = ep then (match nthO rows i with
          | some row => if off + d.size ≤ row.length then some (.u, some (m, .vec ep (rows.set i (row.take off ++ cs ++ row.drop (off + d.size)))), c) else none
          | none => none) else none
        | _ => none)
      | _ => none) else none
    | _, _ => none
  | .call cl =>
    match cl.callee, cl.args.toList with
    | .builtin .append, [s, x] =>
      match kindOf0 ti cl.argTypes, (cl.argTypes[1]?).bind (kindOf ti) with
      | some (.slice e), some (.slice _) => match ti e with
        | some d => if d.size = 0 then none else match elemsX dy d.size (ev x) with
          | some new => match ev s with
            | .oslc (.d m) ep sz off len false => if sz = d.size then (match nthO dy m with
              | some (.vec ep' rows) => if ep' = ep ∧ (len + new.length) * d.bytes ≤ 140737488355328 ∧ len + new.length ≤ 9223372036854775807 then
                  some (.oslc (.d m) c sz 0 (len + new.length) false, some (m, .vec c ((rows.drop off).take len ++ new)), c + 1) else none
              | _ => none) else none
            | .nils | .oslc _ _ _ _ 0 true | .lslc _ _ _ 0 true => if new.length * d.bytes ≤ 140737488355328 ∧ new.length ≤ 9223372036854775807 then
                some (.oslc (.d n) c d.size 0 new.length false, some (n, .vec c new), c + 1) else none
            | _ => none
          | none => none
        | none => none
      | _, _ => none
    | .builtin .copy, [s, x] =>
      match kindOf0 ti cl.argTypes with
      | some (.slice e) => match ti e with
        | some d => match elemsX dy d.size (ev x) with
          | some new => match ev s with
            | .oslc (.d m) ep sz off len _ => if sz = d.size then (match nthO dy m with
              | some (.vec ep' rows) => if ep' = ep then some (.int .i64 ((min new.length len : Nat) : Int), some (m, .vec ep (rows.take off ++ new.take len ++ rows.drop (off + (new.take len).length))), c) else none
              | _ => none) else none
            | _ => none
          | none => none
        | none => none
      | _ => none
    | _, _ => none
  | .binOp op t x y _ =>
    match ev y, kindOf ti t with
    | .nils, some (.slice _) => (match op, nilX (ev x) with
      | .eql, some b => some (.bool b, none, c)
      | .neq, some b => some (.bool (!b), none, c)
      | _, _ => none)
    | _, _ => none
  | .mapUpdate t m k v => updX ti dy c t (ev m) (ev k) (ev v)
  | _ => none

def chg (ε : Nat → Nat) (H : Heap) : Option (Nat × AObj) → Heap
  | none => H
  | some (m, o) => H.set (.d m) (o.ren ε)
def bdC (c : Nat) : Option (Nat × AObj) → Bool
  | none => true
  | some (_, o) => bdR c o

theorem nilX_sound {x : AV} {b : Bool} (h : nilX x = some b) {K : Bool → Prop} (k : K b) : nilEqK (x.ren ε) K := by
  cases x <;> simp only [nilX, reduceCtorEq, Option.some.injEq] at h
  · subst h; exact k
  · split at h
    · cases h
    · rename_i hn
      simp only [Option.some.injEq] at h
      subst h
      exact ⟨fun e => absurd e hn, k⟩
  · split at h
    · cases h
    · rename_i hn
      simp only [Option.some.injEq] at h
      subst h
      exact ⟨fun e => absurd e hn, k⟩

theorem effX_sound {n c c' : Nat} {op : Op} {v : AV} {ch : Option (Nat × AObj)} (h : effX ti ev dy n c op = some (v, ch, c')) (hn : dy[n]? = some .hole ∨ ∀ cl, op ≠ .call cl) (hb : bdC c ch = true) {K : AV → Heap → Prop}
    (k : ∀ ε', Agr c ε ε' → K (v.ren ε') (chg ε' (hp ε dy) ch)) : effK ti (fun x => (ev x).ren ε) (.d n) (hp ε dy) op K := by
  unfold effX at h
  unfold effK
  split at h
  · split at h
    · rename_i d cs hd hc
      simp only [hd, ren_cells, hc, Option.map_some, renL_length]
      split at h
      · rename_i hl
        rw [if_pos hl]
        split at h
        · rename_i m ep sz i off hp0
          simp only [hp0, AV.ren, hp_get]
          split at h
          · rename_i ep' rows ho
            rw [nthO_eq] at ho
            simp only [ho, Option.map_some, AObj.ren]
            split at h
            · rename_i he
              subst he
              split at h
              · rename_i row hr
                rw [nthO_eq] at hr
                split at h
                · rename_i hlen
                  cases h
                  refine ⟨rfl, ?_⟩
                  simp only [List.getElem?_map, hr, Option.map_some, renL_length]
                  rw [if_pos hlen, forceL_eq]
                  have := k ε Agr.refl
                  simp only [AV.ren, chg, AObj.ren, List.map_set, renL_app, renL_take, renL_drop] at this
                  exact this
                · cases h
              · cases h
            · cases h
          · cases h
        · cases h
      · cases h
    · cases h
  · rename_i cl
    have hn : dy[n]? = some .hole := hn.resolve_right fun h => h cl rfl
    split at h
    · rename_i s x h1 h2
      simp only [h1, h2]
      split at h
      · rename_i e e2 h3 h4
        simp only [h3, h4]
        split at h
        · rename_i d hd
          simp only [hd]
          split at h
          · cases h
          · rename_i hz
            rw [if_neg hz]
            split at h
            · rename_i new hnew
              refine elemsX_sound hnew ?_
              have fresh : ∀ {m : Nat} {sz len : Nat} {rows : List (List AV)}, bdR c (.vec c rows) = true → (∀ ε', Agr c ε ε' → K ((AV.oslc (.d m) c sz 0 len false).ren ε') ((hp ε dy).set (.d m) (AObj.ren ε' (.vec c rows)))) →
                  ∀ ep2, K (.oslc (.d m) ep2 sz 0 len false) ((hp ε dy).set (.d m) (.vec ep2 (rows.map (renL ε)))) := fun hb k ep2 => by
                have := k (upd ε c ep2) Agr.upd
                rw [ren_new hb, AV.ren, upd_at] at this
                exact this
              split at h
              · rename_i m ep sz off len hs
                split at h
                · rename_i hsz
                  split at h
                  · rename_i ep' rows ho
                    rw [nthO_eq] at ho
                    split at h
                    · rename_i hc
                      cases h
                      simp only [hs, AV.ren, if_pos hsz, hp_get, ho, Option.map_some, AObj.ren, List.length_map]
                      refine ⟨by rw [hc.1], hc.2, ?_⟩
                      have := fresh hb k
                      rw [List.map_append, map_take_drop] at this
                      exact this
                    · cases h
                  · cases h
                · cases h
              all_goals first
                | (rename_i hs
                   split at h
                   · rename_i hc
                     cases h
                     have hh : Heap.has (hp ε dy) (.d n) = true := by
                       unfold Heap.has
                       rw [hp_get, hn]
                       rfl
                     simp only [hs, AV.ren, hh, List.length_map]
                     exact ⟨hc, fresh hb k⟩
                   · cases h)
                | cases h
            · cases h
        · cases h
      · cases h
    · rename_i s x h1 h2
      simp only [h1, h2]
      split at h
      · rename_i e h3
        simp only [h3]
        split at h
        · rename_i d hd
          simp only [hd]
          split at h
          · rename_i new hnew
            refine elemsX_sound hnew ?_
            split at h
            · rename_i m ep sz off len lim hs
              split at h
              · rename_i hsz
                split at h
                · rename_i ep' rows ho
                  rw [nthO_eq] at ho
                  split at h
                  · rename_i he
                    cases h
                    simp only [hs, AV.ren, if_pos hsz, hp_get, ho, Option.map_some, AObj.ren, List.length_map]
                    refine ⟨by rw [he], ?_⟩
                    have := k ε Agr.refl
                    simp only [AV.ren, chg, AObj.ren, List.map_append, List.map_take, List.map_drop] at this
                    simpa using this
                  · cases h
                · cases h
              · cases h
            · cases h
          · cases h
        · cases h
      · cases h
    · cases h
  · split at h
    · rename_i h1 h2
      simp only [h1, h2, AV.ren]
      split at h
      · rename_i b h3
        cases h
        exact nilX_sound h3 (by have := k ε Agr.refl; exact this)
      · rename_i b h3
        cases h
        exact nilX_sound h3 (by have := k ε Agr.refl; exact this)
      · cases h
    · cases h
  · refine updX_sound h ?_
    have := k ε Agr.refl
    cases ch with
    | none => exact this
    | some p => exact this
  · cases h
end
end Go.Ab
