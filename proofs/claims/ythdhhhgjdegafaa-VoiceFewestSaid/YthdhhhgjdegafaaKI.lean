/-
  What is proved here serves the law's text: each part says its own claim and its conditions. No condition is left open.
-/
import Derived.Test.YthdhhhgjdegafaaKH
set_option linter.unusedSimpArgs false
set_option linter.unusedVariables false

/-
  The operations that touch no memory, evaluated at once. No condition: what is evaluated is what the abstract terms ask for, under every naming of the epochs.
-/
namespace Go.Ab

def aOffX (n : Nat) : AV → Option AV
  | .optr id ep sz i o => some (.optr id ep sz i (o + n))
  | .lptr sz rows i o => some (.lptr sz rows i (o + n))
  | _ => none
def intX (op : BinOp) (k : IntKind) (a b : Int) : Option AV :=
  match op with
  | .add => some (.int k (k.wrap (a + b)))
  | .sub => some (.int k (k.wrap (a - b)))
  | .mul => some (.int k (k.wrap (a * b)))
  | .quo => if b = 0 then none else some (.int k (k.wrap (a.tdiv b)))
  | .rem => if b = 0 then none else some (.int k (a.tmod b))
  | .eql => some (.bool (a == b))
  | .neq => some (.bool (a != b))
  | .lss => some (.bool (decide (a < b)))
  | .leq => some (.bool (decide (a ≤ b)))
  | .gtr => some (.bool (decide (a > b)))
  | .geq => some (.bool (decide (a ≥ b)))
  | _ => none
def isBoolT (ti : TI) (t : Nat) : Bool := match kindOf ti t with | some .bool => true | _ => false
def isPtrT (ti : TI) (t : Nat) : Bool := match kindOf ti t with | some .ptr => true | _ => false
def eqCX (ti : TI) : List (Nat × Nat) → List AV → List AV → Option Bool
  | [], _, _ => some true
  | f :: l, x :: a, y :: b => match kindOf ti f.2, x, y with
    | some (.int _), .int k m, .int k' n => if k = k' then (eqCX ti l a b).map fun r => decide (m = n) && r else none
    | some .bool, .bool m, .bool n => (eqCX ti l a b).map fun r => m == n && r
    | _, _, _ => none
  | _, _, _ => none
def eqAX (ti : TI) (t : Nat) (a b : List AV) : Option Bool := match ti t with
  | some d => match d.flat, d.kind with
    | true, .struct l => eqCX ti (leafs ti l) a b
    | _, _ => none
  | none => none
def ptrNil : AV → Option Bool
  | .optr .. | .lptr .. => some false
  | .nilp => some true
  | _ => none
def binX (ti : TI) (op : BinOp) (t : Nat) (x y : AV) : Option AV :=
  match x, y with
  | .int k a, .int k' b => if k = k' then intX op k a b else none
  | .bool a, .bool b => match op, isBoolT ti t with
    | .eql, true => some (.bool (a == b))
    | .neq, true => some (.bool (!(a == b)))
    | _, _ => none
  | .agg a, .agg b => match op with
    | .eql => (eqAX ti t a b).map .bool
    | .neq => (eqAX ti t a b).map fun r => .bool (!r)
    | _ => none
  | x, .nilp => match op, isPtrT ti t, ptrNil x with
    | .eql, true, some b => some (.bool b)
    | .neq, true, some b => some (.bool (!b))
    | _, _, _ => none
  | _, _ => none

section
variable {ti : TI} {ε : Nat → Nat}

theorem aOffX_sound {n : Nat} {x v : AV} (h : aOffX n x = some v) {K : AV → Prop} (k : K (v.ren ε)) : aOff K n (x.ren ε) := by
  cases x <;> simp only [aOffX, Option.some.injEq, reduceCtorEq] at h
  · subst h; exact k
  · subst h; exact k
theorem intX_sound {op : BinOp} {kd : IntKind} {a b : Int} {v : AV} (h : intX op kd a b = some v) {K : AV → Prop} (k : K (v.ren ε)) : binInt op kd a b K := by
  unfold intX at h
  cases op <;> simp only [Option.some.injEq, reduceCtorEq] at h <;> first
    | (subst h; exact k)
    | (split at h
       · cases h
       · rename_i hb
         simp only [Option.some.injEq] at h
         subst h
         exact ⟨hb, k⟩)
theorem eqCX_sound : ∀ {l : List (Nat × Nat)} {a b : List AV} {r : Bool}, eqCX ti l a b = some r → ∀ {K : Bool → Prop}, K r → eqCK ti l (renL ε a) (renL ε b) K
  | [], _, _, r, h, K, k => by
    simp only [eqCX, Option.some.injEq] at h
    subst h
    simpa [eqCK] using k
  | f :: l, [], _, r, h, K, k => by simp [eqCX] at h
  | f :: l, x :: a, [], r, h, K, k => by simp [eqCX] at h
  | f :: l, x :: a, y :: b, r, h, K, k => by
    unfold eqCX at h
    rw [renL, renL]
    unfold eqCK
    split at h
    · rename_i hk
      simp only [hk, AV.ren]
      split at h
      · rename_i e
        subst e
        simp only [if_pos]
        rw [Option.map_eq_some_iff] at h
        obtain ⟨q, h1, rfl⟩ := h
        exact eqCX_sound h1 k
      · cases h
    · rename_i hk
      simp only [hk, AV.ren]
      rw [Option.map_eq_some_iff] at h
      obtain ⟨q, h1, rfl⟩ := h
      exact eqCX_sound h1 k
    · cases h
theorem eqAX_sound {t : Nat} {a b : List AV} {r : Bool} (h : eqAX ti t a b = some r) {K : Bool → Prop} (k : K r) : eqAK ti t (renL ε a) (renL ε b) K := by
  unfold eqAX at h
  unfold eqAK
  split at h
  · rename_i d hd
    try simp only [hd]
    split at h
    · rename_i l h1 h2
      try simp only [h1, h2]
      exact eqCX_sound h k
    · cases h
  · cases h
theorem isBoolT_sound {t : Nat} (h : isBoolT ti t = true) : kindOf ti t = some .bool := by
  unfold isBoolT at h
  split at h
  · assumption
  · cases h
theorem isPtrT_sound {t : Nat} (h : isPtrT ti t = true) : kindOf ti t = some .ptr := by
  unfold isPtrT at h
  split at h
  · assumption
  · cases h
theorem binX_sound {op : BinOp} {t : Nat} {x y v : AV} (h : binX ti op t x y = some v) {K : AV → Prop} (k : K (v.ren ε)) : binK ti op t (x.ren ε) (y.ren ε) K := by
  unfold binX at h
  split at h
  · split at h
    · rename_i e
      subst e
      have hi := intX_sound h k
      cases op <;> simp only [intX, reduceCtorEq] at h <;> simpa [binK, AV.ren] using hi
    · cases h
  · split at h
    · rename_i hb
      cases h
      exact ⟨isBoolT_sound hb, k⟩
    · rename_i hb
      cases h
      exact ⟨isBoolT_sound hb, k⟩
    · cases h
  · split at h
    · rw [Option.map_eq_some_iff] at h
      obtain ⟨r, h1, rfl⟩ := h
      rw [AV.ren, AV.ren]
      exact eqAX_sound h1 k
    · rw [Option.map_eq_some_iff] at h
      obtain ⟨r, h1, rfl⟩ := h
      rw [AV.ren, AV.ren]
      exact eqAX_sound h1 k
    · cases h
  · rename_i x0 hx
    split at h
    · rename_i b hp hn
      cases h
      have hp := isPtrT_sound hp
      cases x <;> simp only [ptrNil, reduceCtorEq, Option.some.injEq] at hn <;> subst hn <;> exact ⟨hp, by simpa [notNil, AV.ren] using k⟩
    · rename_i b hp hn
      cases h
      have hp := isPtrT_sound hp
      cases x <;> simp only [ptrNil, reduceCtorEq, Option.some.injEq] at hn <;> subst hn <;> exact ⟨hp, by simpa [notNil, AV.ren] using k⟩
    · cases h
  · cases h

def unX (op : UnOp) (x : AV) : Option AV :=
  match op, x with
  | .not, .bool b => some (.bool !b)
  | .neg, .int k n => some (.int k (k.wrap (0 - n)))
  | _, _ => none
theorem unX_sound {op : UnOp} {x v : AV} (h : unX op x = some v) {K : AV → Prop} (k : K (v.ren ε)) : unK op (x.ren ε) K := by
  unfold unX at h
  split at h <;> first | (cases h; exact k) | cases h
def minX (mx : Bool) : List AV → AV → Option AV
  | [], x => some x
  | y :: r, x => match y, x with
    | .int k' b, .int k a => if k = k' then minX mx r (.int k (if (if mx then a < b else b < a) then b else a)) else none
    | _, _ => none
theorem minX_sound {mx : Bool} : ∀ {l : List AV} {x v : AV}, minX mx l x = some v → ∀ {K : AV → Prop}, K (v.ren ε) → minK mx (l.map (AV.ren ε)) (x.ren ε) K
  | [], x, v, h, K, k => by cases h; exact k
  | y :: r, x, v, h, K, k => by
    unfold minX at h
    split at h
    · split at h
      · rename_i e
        subst e
        have := minX_sound h k
        simp only [List.map_cons, AV.ren, minK, if_pos] at this ⊢
        exact this
      · cases h
    · cases h
def sliceGoX (lo hi mx : Option AV) (len : Nat) (f : Nat → Nat → Bool → AV) : Option AV :=
  match lo, hi, mx with
  | none, none, none => some (f 0 len false)
  | some (.int _ l), none, none => if 0 ≤ l ∧ l ≤ len then some (f l.toNat (len - l.toNat) false) else none
  | none, some (.int _ h), none => if 0 ≤ h ∧ h ≤ len then some (f 0 h.toNat false) else none
  | some (.int _ l), some (.int _ h), none => if 0 ≤ l ∧ l ≤ h ∧ h ≤ len then some (f l.toNat (h.toNat - l.toNat) false) else none
  | none, some (.int _ h), some (.int _ m) => if 0 ≤ h ∧ h ≤ len ∧ m = h then some (f 0 h.toNat true) else none
  | some (.int _ l), some (.int _ h), some (.int _ m) => if l = 0 ∧ 0 ≤ h ∧ h ≤ len ∧ m = h then some (f 0 h.toNat true) else none
  | _, _, _ => none
theorem sliceGoX_sound {lo hi mx : Option AV} {len : Nat} {f g : Nat → Nat → Bool → AV} {v : AV} (hf : ∀ a b c, (f a b c).ren ε = g a b c) (h : sliceGoX lo hi mx len f = some v) {K : AV → Prop} (k : K (v.ren ε)) :
    sliceGo (lo.map (AV.ren ε)) (hi.map (AV.ren ε)) (mx.map (AV.ren ε)) K len g := by
  unfold sliceGoX at h
  split at h <;> first
    | (cases h; simp only [hf] at k; exact k)
    | (split at h
       · rename_i hc
         cases h
         simp only [hf] at k
         exact ⟨hc, k⟩
       · cases h)
    | cases h
def sliceX (x : AV) (lo hi mx : Option AV) : Option AV :=
  match x with
  | .oslc id ep sz off len false => sliceGoX lo hi mx len fun l n lim => .oslc id ep sz (off + l) n lim
  | .lslc sz rows off len false => sliceGoX lo hi mx len fun l n lim => .lslc sz rows (off + l) n lim
  | .nils => sliceGoX lo hi mx 0 fun _ _ _ => .nils
  | _ => none
theorem sliceX_sound {x v : AV} {lo hi mx : Option AV} (h : sliceX x lo hi mx = some v) {K : AV → Prop} (k : K (v.ren ε)) : sliceK (x.ren ε) (lo.map (AV.ren ε)) (hi.map (AV.ren ε)) (mx.map (AV.ren ε)) K := by
  unfold sliceX at h
  split at h
  · exact sliceGoX_sound (fun a b c => rfl) h k
  · exact sliceGoX_sound (fun a b c => rfl) h k
  · exact sliceGoX_sound (fun a b c => rfl) h k
  · cases h
theorem ren_cells {v : AV} : (v.ren ε).cells? = v.cells?.map (renL ε) := by
  cases v <;> simp [AV.ren, AV.cells?, renL]
theorem renL_length : ∀ l : List AV, (renL ε l).length = l.length
  | [] => by rw [renL]
  | a :: l => by rw [renL]; simp [renL_length l]
theorem renL_app (l m : List AV) : renL ε (l ++ m) = renL ε l ++ renL ε m := by simp [renL_map]
theorem renL_take (n : Nat) (l : List AV) : renL ε (l.take n) = (renL ε l).take n := by simp [renL_map, List.map_take]
theorem renL_drop (n : Nat) (l : List AV) : renL ε (l.drop n) = (renL ε l).drop n := by simp [renL_map, List.map_drop]
theorem renL_get (l : List AV) (i : Nat) : (renL ε l)[i]? = (l[i]?).map (AV.ren ε) := by simp [renL_map]
def fillX (place : Nat → Option (Nat × Nat)) : List AV → List (Nat × AV) → Option (List AV)
  | cells, [] => some cells
  | cells, (i, v) :: r =>
    match place i, v.cells? with
    | some (off, size), some cs => if cs.length = size ∧ off + size ≤ cells.length then fillX place (cells.take off ++ cs ++ cells.drop (off + size)) r else none
    | _, _ => none
theorem fillX_sound {place : Nat → Option (Nat × Nat)} : ∀ {parts : List (Nat × AV)} {cells cs : List AV}, fillX place cells parts = some cs → ∀ {K : List AV → Prop}, K (renL ε cs) → fillK place (renL ε cells) (parts.map fun p => (p.1, p.2.ren ε)) K
  | [], cells, cs, h, K, k => by cases h; exact k
  | (i, v) :: r, cells, cs, h, K, k => by
    unfold fillX at h
    split at h
    · rename_i off size cs0 h1 h2
      split at h
      · rename_i h3
        have ih := fillX_sound h k
        rw [renL_app, renL_app, renL_take, renL_drop] at ih
        simp only [List.map_cons]
        unfold fillK
        simp only [h1, ren_cells, h2, Option.map_some, renL_length]
        rw [if_pos h3]
        exact ih
      · cases h
    · cases h
def idxX (size : Nat) (n : Int) (x : AV) : Option AV :=
  match x with
  | .oslc id ep sz off len _ => if sz = size ∧ 0 ≤ n ∧ n < len then some (.optr id ep sz (off + n.toNat) 0) else none
  | .lslc sz rows off len _ => if sz = size ∧ 0 ≤ n ∧ n < len then some (.lptr sz rows (off + n.toNat) 0) else none
  | _ => none
theorem idxX_sound {size : Nat} {n : Int} {x v : AV} (h : idxX size n x = some v) {K : AV → Prop} (k : K (v.ren ε)) : idxK size n K (x.ren ε) := by
  unfold idxX at h
  split at h
  · split at h
    · rename_i hc
      cases h
      simp only [AV.ren, idxK, if_pos hc.1]
      exact ⟨hc.2, k⟩
    · cases h
  · split at h
    · rename_i hc
      cases h
      simp only [AV.ren, idxK, if_pos hc.1]
      exact ⟨hc.2, k⟩
    · cases h
  · cases h
theorem aPart_ren {ag : Bool} {size off : Nat} {cs : List AV} {v : AV} (h : aPart ag size off cs = some v) : aPart ag size off (renL ε cs) = some (v.ren ε) := by
  unfold aPart at h ⊢
  rw [renL_length]
  split at h
  · rename_i hl
    rw [if_pos hl]
    split at h
    · rename_i ha
      cases h
      rw [if_pos ha, AV.ren, renL_take, renL_drop]
    · rename_i ha
      rw [if_neg ha, renL_get, h]
      rfl
  · cases h
theorem slcSz_ren (n : Nat) (x : AV) : slcSz n (x.ren ε) = slcSz n x := by cases x <;> rfl
theorem isPtr_ren (x : AV) : isPtr (x.ren ε) = isPtr x := by cases x <;> rfl

def pureX (ti : TI) (ev : Operand → AV) (op : Op) : Option AV :=
  match op with
  | .move x | .assign x => some (ev x)
  | .pick c a b => match ev c with | .bool t => (match t with | true => some (ev a) | false => some (ev b)) | _ => none
  | .nilCheck x => if isPtr (ev x) then some (ev x) else match ev x with | .fn (.func f) a b => some (.fn (.func f) a b) | _ => none
  | .binOp op t x y _ => binX ti op t (ev x) (ev y)
  | .unOp op _ x => unX op (ev x)
  | .convert s d x =>
    match kindOf ti s, kindOf ti d, ev x with
    | some (.int _), some (.int k), .int _ n => some (.int k (k.wrap n))
    | _, _, _ => none
  | .fieldAddr t x f =>
    match kindOf ti t with
    | some (.struct fs) => match fs[f]? with
      | some (off, ft) => match ti ft with
        | some d => if d.size = 0 then none else aOffX off (ev x)
        | none => none
      | none => none
    | _ => none
  | .field t x f =>
    match kindOf ti t, ev x with
    | some (.struct fs), .agg cs => match fs[f]? with
      | some (off, ft) => match ti ft with
        | some d => aPart d.isAgg d.size off cs
        | none => none
      | none => none
    | _, _ => none
  | .indexAddr t x i =>
    match kindOf ti t, ev i with
    | some (.slice e), .int _ n => match ti e with
      | some d => idxX d.size n (ev x)
      | none => none
    | some (.arr m e), .int _ n => match ti e with
      | some d => if 0 ≤ n ∧ n < m then aOffX (n.toNat * d.size) (ev x) else none
      | none => none
    | _, _ => none
  | .index t x i =>
    match kindOf ti t, ev x, ev i with
    | some (.arr m e), .agg cs, .int _ n => match ti e with
      | some d => if 0 ≤ n ∧ n < m then aPart d.isAgg d.size (n.toNat * d.size) cs else none
      | none => none
    | _, _, _ => none
  | .extract x n => match ev x with | .tup vs => vs[n]? | _ => none
  | .slice t x lo hi mx =>
    match kindOf ti t with
    | some (.slice e) => match ti e with
      | some d => if slcSz d.size (ev x) = true then sliceX (ev x) (lo.map ev) (hi.map ev) (mx.map ev) else none
      | none => none
    | _ => none
  | .build t parts =>
    match ti t with
    | some d => match d.kind with
      | .struct fs => if fs.all (fun f => (ti f.2).isSome) = false then none else (fillX (structPlace ti fs) d.zero (parts.toList.map fun p => (p.1, ev p.2))).map .agg
      | .arr _ e => match ti e with
        | some de => (fillX (fun i => some (i * de.size, de.size)) d.zero (parts.toList.map fun p => (p.1, ev p.2))).map .agg
        | none => none
      | _ => none
    | none => none
  | .makeFunc fn first cap => some (.fn fn (first.toList.map ev) (cap.toList.map ev))
  | .call c =>
    match c.callee, c.args.toList with
    | .builtin .len, [x] => (match kindOf0 ti c.argTypes, ev x with
      | some (.slice _), .oslc _ _ _ _ len _ => some (.int .i64 len)
      | some (.slice _), .lslc _ _ _ len _ => some (.int .i64 len)
      | some (.slice _), .nils => some (.int .i64 0)
      | some (.arr n _), _ => some (.int .i64 n)
      | _, _ => none)
    | .builtin .min, x :: r => minX false (r.map ev) (ev x)
    | .builtin .max, x :: r => minX true (r.map ev) (ev x)
    | _, _ => none
  | _ => none

/-- zero values bear no epoch -/
theorem zero_ren {P : Program} (tok : TOk P ti) {t : Nat} {d : TD} (hd : ti t = some d) : renL ε d.zero = d.zero := by
  obtain ⟨i, z, h1, h2, h3, h4, h5, h6, h7⟩ := (tok t d hd).info
  rw [renL_map]
  refine (List.map_congr_left fun a ha => ?_).trans (List.map_id _)
  obtain ⟨j, hj, rfl⟩ := List.getElem_of_mem ha
  obtain ⟨v, _, hv⟩ := h7 j d.zero[j] (List.getElem?_eq_getElem hj)
  unfold ofVal at hv
  split at hv <;> first | (rw [← Option.some.inj hv]; rfl) | cases hv

theorem pureX_sound {P : Program} (tok : TOk P ti) {ev : Operand → AV} {op : Op} {v : AV} (h : pureX ti ev op = some v) {K : AV → Prop} (k : K (v.ren ε)) : pureK ti (fun x => (ev x).ren ε) op K := by
  unfold pureX at h
  unfold pureK
  split at h
  · cases h; exact k
  · cases h; exact k
  · split at h
    · rename_i t ht
      simp only [ht, AV.ren]
      cases t <;> (cases h; exact k)
    · cases h
  · rename_i x
    simp only [isPtr_ren]
    split at h
    · rename_i hp
      cases h
      rw [if_pos hp]
      exact k
    · rename_i hp
      rw [if_neg hp]
      split at h
      · rename_i f a b hx
        cases h
        simp only [hx, AV.ren] at k ⊢
        exact k
      · cases h
  · exact binX_sound h k
  · exact unX_sound h k
  · split at h
    · rename_i h1 h2 h3
      cases h
      simp only [h1, h2, h3, AV.ren]
      exact k
    · cases h
  · split at h
    · rename_i fs h1
      simp only [h1]
      split at h
      · rename_i off ft h2
        simp only [h2]
        split at h
        · rename_i d h3
          simp only [h3]
          split at h
          · cases h
          · rename_i h4
            rw [if_neg h4]
            exact aOffX_sound h k
        · cases h
      · cases h
    · cases h
  · split at h
    · rename_i fs cs h1 h2
      simp only [h1, h2, AV.ren]
      split at h
      · rename_i off ft h3
        simp only [h3]
        split at h
        · rename_i d h4
          simp only [h4, aPart_ren h]
          exact k
        · cases h
      · cases h
    · cases h
  · split at h
    · rename_i e kd n h1 h2
      simp only [h1, h2, AV.ren]
      split at h
      · rename_i d h3
        simp only [h3]
        exact idxX_sound h k
      · cases h
    · rename_i m e kd n h1 h2
      simp only [h1, h2, AV.ren]
      split at h
      · rename_i d h3
        simp only [h3]
        split at h
        · rename_i h4
          exact ⟨h4, aOffX_sound h k⟩
        · cases h
      · cases h
    · cases h
  · split at h
    · rename_i m e cs kd n h1 h2 h3
      simp only [h1, h2, h3, AV.ren]
      split at h
      · rename_i d h4
        simp only [h4]
        split at h
        · rename_i h5
          refine ⟨h5, ?_⟩
          simp only [aPart_ren h]
          exact k
        · cases h
      · cases h
    · cases h
  · split at h
    · rename_i vs h1
      simp only [h1, AV.ren, extK, renL_get, h, Option.map_some]
      exact k
    · cases h
  · split at h
    · rename_i e h1
      simp only [h1]
      split at h
      · rename_i d h2
        simp only [h2, slcSz_ren]
        split at h
        · rename_i h3
          rw [if_pos h3]
          have := sliceX_sound h k
          simpa [Option.map_map, Function.comp_def] using this
        · cases h
      · cases h
    · cases h
  · split at h
    · rename_i d hd
      simp only [hd]
      split at h
      · rename_i fs hk
        simp only [hk]
        split at h
        · cases h
        · rename_i h2
          rw [if_neg h2]
          rw [Option.map_eq_some_iff] at h
          obtain ⟨cs, h3, rfl⟩ := h
          have := fillX_sound (ε := ε) (K := fun cs => K (.agg cs)) h3 (by rw [AV.ren] at k; exact k)
          rw [zero_ren tok hd] at this
          simpa [List.map_map, Function.comp_def] using this
      · rename_i m e hk
        simp only [hk]
        split at h
        · rename_i de hde
          simp only [hde]
          rw [Option.map_eq_some_iff] at h
          obtain ⟨cs, h3, rfl⟩ := h
          have := fillX_sound (ε := ε) (K := fun cs => K (.agg cs)) h3 (by rw [AV.ren] at k; exact k)
          rw [zero_ren tok hd] at this
          simpa [List.map_map, Function.comp_def] using this
        · cases h
      · cases h
    · cases h
  · cases h
    rw [AV.ren, renL_map, renL_map, List.map_map, List.map_map] at k
    exact k
  · split at h
    · rename_i h1 h2
      simp only [h1, h2]
      split at h
      · rename_i h3 h4
        cases h
        simp only [h3, h4, AV.ren]; exact k
      · rename_i h3 h4
        cases h
        simp only [h3, h4, AV.ren]; exact k
      · rename_i h3 h4
        cases h
        simp only [h3, h4, AV.ren]; exact k
      · rename_i h3
        cases h
        simp only [h3]; exact k
      · cases h
    · rename_i h1 h2
      simp only [h1, h2]
      have := minX_sound h k
      simpa [List.map_map, Function.comp_def] using this
    · rename_i h1 h2
      simp only [h1, h2]
      have := minX_sound h k
      simpa [List.map_map, Function.comp_def] using this
    · cases h
  · cases h
end
end Go.Ab
