/-
  What is proved here serves the law's text: each part says its own claim and its conditions. No condition is left open.
-/
import Derived.Test.YthdhhhgjdegafaaKG
set_option linter.unusedSimpArgs false
set_option linter.unusedVariables false

/-
  Renaming of epochs; what is evaluated at once is the same under every naming. No condition.
-/
namespace Go.Ab

/-! ### values laid bare (it changes nothing) -/
section
variable {α β : Type}
noncomputable def fN (n : Nat) (k : Nat → α) : α := Nat.rec (motive := fun _ => α) (k 0) (fun m _ => k (m + 1)) n
noncomputable def fI (z : Int) (k : Int → α) : α := Int.rec (motive := fun _ => α) (fun m => fN m fun m => k (.ofNat m)) (fun m => fN m fun m => k (.negSucc m)) z
noncomputable def fB (b : Bool) (k : Bool → α) : α := Bool.rec (motive := fun _ => α) (k false) (k true) b
noncomputable def fId (i : Id) (k : Id → α) : α := Id.rec (motive := fun _ => α) (fun n => fN n fun n => k (.s n)) (fun n => fN n fun n => k (.d n)) i
noncomputable def fL (f : β → (β → α) → α) (l : List β) (k : List β → α) : α := List.rec (motive := fun _ => (List β → α) → α) (fun k => k []) (fun a _ ih k => f a fun a => ih fun l => k (a :: l)) l k
theorem fN_eq (n : Nat) (k : Nat → α) : fN n k = k n := by cases n <;> rfl
theorem fI_eq (z : Int) (k : Int → α) : fI z k = k z := by cases z <;> (unfold fI; simp only [fN_eq])
theorem fB_eq (b : Bool) (k : Bool → α) : fB b k = k b := by cases b <;> rfl
theorem fId_eq (i : Id) (k : Id → α) : fId i k = k i := by cases i <;> (unfold fId; simp only [fN_eq])
theorem fL_eq {f : β → (β → α) → α} (hf : ∀ b k, f b k = k b) : ∀ (l : List β) (k : List β → α), fL f l k = k l
  | [], _ => rfl
  | b :: l, k => by
    show f b (fun a => fL f l fun l => k (a :: l)) = _
    rw [hf, fL_eq hf l]
noncomputable def fV0 (v : AV) (k : AV → α) : α := match v with
  | .int kd z => fI z fun z => k (.int kd z)
  | .bool b => fB b fun b => k (.bool b)
  | .optr id ep sz i off => fId id fun id => fN ep fun ep => fN sz fun sz => fN i fun i => fN off fun off => k (.optr id ep sz i off)
  | .lptr sz rows i off => fN sz fun sz => fN i fun i => fN off fun off => k (.lptr sz rows i off)
  | .oslc id ep sz off len lim => fId id fun id => fN ep fun ep => fN sz fun sz => fN off fun off => fN len fun len => fB lim fun lim => k (.oslc id ep sz off len lim)
  | .lslc sz rows off len lim => fN sz fun sz => fN off fun off => fN len fun len => fB lim fun lim => k (.lslc sz rows off len lim)
  | .mp id ep => fId id fun id => fN ep fun ep => k (.mp id ep)
  | .fn f x y => k (.fn f x y)
  | .agg cs => k (.agg cs)
  | .tup cs => k (.tup cs)
  | .str s => k (.str s)
  | .nilp => k .nilp
  | .nils => k .nils
  | .nilm => k .nilm
  | .nilf => k .nilf
  | .u => k .u
theorem fV0_eq (v : AV) (k : AV → α) : fV0 v k = k v := by cases v <;> simp only [fV0, fI_eq, fB_eq, fId_eq, fN_eq]
noncomputable def fV1 (v : AV) (k : AV → α) : α := match v with
  | .fn f x y => fL fV0 x fun x => fL fV0 y fun y => k (.fn f x y)
  | .agg cs => fL fV0 cs fun cs => k (.agg cs)
  | v => fV0 v k
theorem fV1_eq (v : AV) (k : AV → α) : fV1 v k = k v := by
  cases v <;> simp only [fV1, fV0_eq, fL_eq fV0_eq]
noncomputable def fV (v : AV) (k : AV → α) : α := match v with
  | .tup cs => fL fV1 cs fun cs => k (.tup cs)
  | v => fV1 v k
theorem fV_eq (v : AV) (k : AV → α) : fV v k = k v := by
  cases v <;> simp only [fV, fV1_eq, fL_eq fV1_eq]
noncomputable def fP (p : AV × AV) (k : AV × AV → α) : α := fV1 p.1 fun x => fV1 p.2 fun y => k (x, y)
theorem fP_eq (p : AV × AV) (k : AV × AV → α) : fP p k = k p := by simp only [fP, fV1_eq]
noncomputable def fO (o : AObj) (k : AObj → α) : α := match o with
  | .vec ep rows => fN ep fun ep => fL (fL fV1) rows fun rows => k (.vec ep rows)
  | .map ep es => fN ep fun ep => fL fP es fun es => k (.map ep es)
  | .hole => k .hole
theorem fO_eq (o : AObj) (k : AObj → α) : fO o k = k o := by
  cases o <;> simp only [fO, fN_eq, fL_eq (fL_eq fV1_eq), fL_eq fP_eq]
/-- an entry of a list -/
noncomputable def nth (l : List β) (n : Nat) (d : β) : β := List.rec (motive := fun _ => Nat → β) (fun _ => d) (fun a _ ih n => Nat.rec (motive := fun _ => β) a (fun m _ => ih m) n) l n
theorem nth_eq : ∀ (l : List β) (n : Nat) (d : β), nth l n d = l.getD n d
  | [], _, _ => rfl
  | a :: l, 0, _ => rfl
  | a :: l, n + 1, d => by
    show nth l n d = _
    rw [nth_eq l n d]
    simp [List.getD]
noncomputable def nthO (l : List β) (n : Nat) : Option β := List.rec (motive := fun _ => Nat → Option β) (fun _ => none) (fun a _ ih n => Nat.rec (motive := fun _ => Option β) (some a) (fun m _ => ih m) n) l n
theorem nthO_eq : ∀ (l : List β) (n : Nat), nthO l n = l[n]?
  | [], _ => rfl
  | a :: l, 0 => rfl
  | a :: l, n + 1 => by
    show nthO l n = _
    rw [nthO_eq l n]
    simp
/-- an entry anew, the list being laid bare up to it -/
noncomputable def setK (l : List β) (n : Nat) (v : β) (k : List β → α) : α :=
  List.rec (motive := fun _ => Nat → (List β → α) → α) (fun _ k => k []) (fun a t ih n k => Nat.rec (motive := fun _ => α) (k (v :: t)) (fun m _ => ih m fun t => k (a :: t)) n) l n k
theorem setK_eq : ∀ (l : List β) (n : Nat) (v : β) (k : List β → α), setK l n v k = k (l.set n v)
  | [], _, _, _ => rfl
  | a :: l, 0, _, _ => rfl
  | a :: l, n + 1, v, k => by
    show setK l n v (fun t => k (a :: t)) = _
    rw [setK_eq l n v]
    rfl
noncomputable def appK (l m : List β) (k : List β → α) : α := List.rec (motive := fun _ => (List β → α) → α) (fun k => k m) (fun a _ ih k => ih fun t => k (a :: t)) l k
theorem appK_eq : ∀ (l m : List β) (k : List β → α), appK l m k = k (l ++ m)
  | [], _, _ => rfl
  | a :: l, m, k => by
    show appK l m (fun t => k (a :: t)) = _
    rw [appK_eq l m]
    rfl
end

/-! ### renaming -/
mutual
def AV.ren (ε : Nat → Nat) : AV → AV
  | .optr id ep sz i off => .optr id (ε ep) sz i off
  | .oslc id ep sz off len lim => .oslc id (ε ep) sz off len lim
  | .mp id ep => .mp id (ε ep)
  | .fn f x y => .fn f (renL ε x) (renL ε y)
  | .agg cs => .agg (renL ε cs)
  | .tup cs => .tup (renL ε cs)
  | .int k n => .int k n
  | .bool b => .bool b
  | .str s => .str s
  | .nilp => .nilp
  | .nils => .nils
  | .nilm => .nilm
  | .nilf => .nilf
  | .lptr sz rows i off => .lptr sz rows i off
  | .lslc sz rows off len lim => .lslc sz rows off len lim
  | .u => .u
def renL (ε : Nat → Nat) : List AV → List AV
  | [] => []
  | a :: l => a.ren ε :: renL ε l
end
theorem renL_map (ε : Nat → Nat) : ∀ l : List AV, renL ε l = l.map (AV.ren ε)
  | [] => by rw [renL]; rfl
  | a :: l => by rw [renL, renL_map ε l]; rfl
def AObj.ren (ε : Nat → Nat) : AObj → AObj
  | .vec ep rows => .vec (ε ep) (rows.map (renL ε))
  | .map ep es => .map (ε ep) (es.map fun p => (p.1.ren ε, p.2.ren ε))
  | .hole => .hole
def Heap.ren (ε : Nat → Nat) (h : Heap) : Heap := ⟨h.st.map (AObj.ren ε), h.dy.map (AObj.ren ε)⟩
theorem Heap.ren_get (ε : Nat → Nat) (h : Heap) (i : Id) : (h.ren ε)[i]? = (h[i]?).map (AObj.ren ε) := by
  cases i with
  | s n => show (h.st.map _)[n]? = (h.st[n]?).map _; simp
  | d n => show (h.dy.map _)[n]? = (h.dy[n]?).map _; simp
theorem Heap.ren_set (ε : Nat → Nat) (h : Heap) (i : Id) (o : AObj) : (h.set i o).ren ε = (h.ren ε).set i (o.ren ε) := by
  cases i <;> simp [Heap.ren, Heap.set, List.map_set]
theorem ren_pure1 {ε : Nat → Nat} {a : AV} (h : a.pure1 = true) : a.ren ε = a := by
  cases a <;> simp only [AV.ren] <;> simp [AV.pure1] at h
  obtain ⟨rfl, rfl⟩ := h
  simp [renL]
theorem renL_pure {ε : Nat → Nat} : ∀ {l : List AV}, l.all AV.pure1 = true → renL ε l = l
  | [], _ => by rw [renL]
  | a :: l, h => by
    simp only [List.all_cons, Bool.and_eq_true] at h
    rw [renL, ren_pure1 h.1, renL_pure h.2]
theorem ren_pure {ε : Nat → Nat} {a : AV} (h : a.isPure = true) : a.ren ε = a := by
  cases a with
  | agg cs => rw [AV.ren, renL_pure h]
  | tup cs => rw [AV.ren, renL_pure h]
  | _ => exact ren_pure1 h
theorem renL_pure' {ε : Nat → Nat} : ∀ {l : List AV}, l.all AV.isPure = true → renL ε l = l
  | [], _ => by rw [renL]
  | a :: l, h => by
    simp only [List.all_cons, Bool.and_eq_true] at h
    rw [renL, ren_pure h.1, renL_pure' h.2]
theorem ren_pure2 {ε : Nat → Nat} {a : AV} (h : a.isPure2 = true) : a.ren ε = a := by
  cases a with
  | tup cs => rw [AV.ren, renL_pure' h]
  | _ => exact ren_pure h

mutual
theorem ren_comp (ε π : Nat → Nat) : ∀ a : AV, (a.ren π).ren ε = a.ren fun k => ε (π k)
  | .optr .. => by simp only [AV.ren]
  | .oslc .. => by simp only [AV.ren]
  | .mp .. => by simp only [AV.ren]
  | .fn f x y => by simp only [AV.ren, renL_comp ε π x, renL_comp ε π y]
  | .agg cs => by simp only [AV.ren, renL_comp ε π cs]
  | .tup cs => by simp only [AV.ren, renL_comp ε π cs]
  | .int .. => by simp only [AV.ren]
  | .bool .. => by simp only [AV.ren]
  | .str .. => by simp only [AV.ren]
  | .nilp => by simp only [AV.ren]
  | .nils => by simp only [AV.ren]
  | .nilm => by simp only [AV.ren]
  | .nilf => by simp only [AV.ren]
  | .lptr .. => by simp only [AV.ren]
  | .lslc .. => by simp only [AV.ren]
  | .u => by simp only [AV.ren]
theorem renL_comp (ε π : Nat → Nat) : ∀ l : List AV, renL ε (renL π l) = renL (fun k => ε (π k)) l
  | [] => by simp only [renL]
  | a :: l => by simp only [renL, ren_comp ε π a, renL_comp ε π l]
end
theorem renO_comp (ε π : Nat → Nat) (o : AObj) : (o.ren π).ren ε = o.ren fun k => ε (π k) := by
  cases o <;> simp only [AObj.ren, List.map_map]
  · congr 1
    exact List.map_congr_left fun r _ => renL_comp ε π r
  · congr 1
    exact List.map_congr_left fun p _ => by simp only [Function.comp_apply, ren_comp]
theorem dy_comp (ε π : Nat → Nat) (dy : List AObj) : (dy.map (AObj.ren π)).map (AObj.ren ε) = dy.map (AObj.ren fun k => ε (π k)) := by
  rw [List.map_map]
  exact List.map_congr_left fun o _ => renO_comp ε π o

/-! ### epochs below a bound -/
def bd0 (c : Nat) : AV → Bool
  | .optr _ ep _ _ _ | .oslc _ ep _ _ _ _ | .mp _ ep => Nat.blt ep c
  | .fn _ x y => x.isEmpty && y.isEmpty
  | .agg _ | .tup _ => false
  | _ => true
def bd1 (c : Nat) : AV → Bool
  | .fn _ x y => x.all (bd0 c) && y.all (bd0 c)
  | .agg cs => cs.all (bd0 c)
  | a => bd0 c a
def bd (c : Nat) : AV → Bool
  | .tup cs => cs.all (bd1 c)
  | a => bd1 c a
def bdO (c : Nat) : AObj → Bool
  | .vec ep rows => Nat.blt ep c && rows.all fun r => r.all (bd1 c)
  | .map ep es => Nat.blt ep c && es.all fun p => bd1 c p.1 && bd1 c p.2
  | .hole => true
def Agr (c : Nat) (ε ε' : Nat → Nat) : Prop := ∀ k, k < c → ε' k = ε k
theorem Agr.refl {c : Nat} {ε : Nat → Nat} : Agr c ε ε := fun _ _ => rfl
theorem Agr.trans {c c' : Nat} {ε ε' ε'' : Nat → Nat} (hc : c ≤ c') (a : Agr c ε ε') (b : Agr c' ε' ε'') : Agr c ε ε'' := fun k hk => (b k (by omega)).trans (a k hk)
def upd (ε : Nat → Nat) (c ep : Nat) : Nat → Nat := fun k => if k = c then ep else ε k
theorem Agr.upd {c ep : Nat} {ε : Nat → Nat} : Agr c ε (upd ε c ep) := fun k hk => by unfold Go.Ab.upd; rw [if_neg (by omega)]
theorem upd_at {c ep : Nat} {ε : Nat → Nat} : upd ε c ep c = ep := by unfold upd; rw [if_pos rfl]
theorem blt_lt {a b : Nat} (h : Nat.blt a b = true) : a < b := by simpa [Nat.blt_eq] using h
section
variable {c : Nat} {ε ε' : Nat → Nat} (ha : Agr c ε ε')
include ha
theorem ren_bd0 {a : AV} (h : bd0 c a = true) : a.ren ε' = a.ren ε := by
  cases a <;> simp only [AV.ren] <;> simp only [bd0] at h <;> first | (rw [ha _ (blt_lt h)]) | skip
  · simp only [Bool.and_eq_true, List.isEmpty_iff] at h
    obtain ⟨rfl, rfl⟩ := h
    simp [renL]
  · cases h
  · cases h
theorem renL_bd0 : ∀ {l : List AV}, l.all (bd0 c) = true → renL ε' l = renL ε l
  | [], _ => by rw [renL, renL]
  | a :: l, h => by
    simp only [List.all_cons, Bool.and_eq_true] at h
    rw [renL, renL, ren_bd0 ha h.1, renL_bd0 h.2]
theorem ren_bd1 {a : AV} (h : bd1 c a = true) : a.ren ε' = a.ren ε := by
  cases a with
  | fn f x y =>
    simp only [bd1, Bool.and_eq_true] at h
    rw [AV.ren, AV.ren, renL_bd0 ha h.1, renL_bd0 ha h.2]
  | agg cs => rw [AV.ren, AV.ren, renL_bd0 ha h]
  | _ => exact ren_bd0 ha h
theorem renL_bd1 : ∀ {l : List AV}, l.all (bd1 c) = true → renL ε' l = renL ε l
  | [], _ => by rw [renL, renL]
  | a :: l, h => by
    simp only [List.all_cons, Bool.and_eq_true] at h
    rw [renL, renL, ren_bd1 ha h.1, renL_bd1 h.2]
theorem ren_bd {a : AV} (h : bd c a = true) : a.ren ε' = a.ren ε := by
  cases a with
  | tup cs => rw [AV.ren, AV.ren, renL_bd1 ha h]
  | _ => exact ren_bd1 ha h
theorem renL_bd : ∀ {l : List AV}, l.all (bd c) = true → renL ε' l = renL ε l
  | [], _ => by rw [renL, renL]
  | a :: l, h => by
    simp only [List.all_cons, Bool.and_eq_true] at h
    rw [renL, renL, ren_bd ha h.1, renL_bd h.2]
theorem rows_bd {rows : List (List AV)} (h : (rows.all fun r => r.all (bd1 c)) = true) : rows.map (renL ε') = rows.map (renL ε) := by
  refine List.map_congr_left fun r hr => renL_bd1 ha ?_
  exact List.all_eq_true.1 h r hr
theorem ren_bdO {o : AObj} (h : bdO c o = true) : o.ren ε' = o.ren ε := by
  cases o with
  | hole => rfl
  | vec ep rows =>
    simp only [bdO, Bool.and_eq_true] at h
    rw [AObj.ren, AObj.ren, ha _ (blt_lt h.1), rows_bd ha h.2]
  | map ep es =>
    simp only [bdO, Bool.and_eq_true] at h
    rw [AObj.ren, AObj.ren, ha _ (blt_lt h.1)]
    congr 1
    refine List.map_congr_left fun p hp => ?_
    have := List.all_eq_true.1 h.2 p hp
    simp only [Bool.and_eq_true] at this
    rw [ren_bd1 ha this.1, ren_bd1 ha this.2]
theorem dy_bd {dy : List AObj} (h : dy.all (bdO c) = true) : dy.map (AObj.ren ε') = dy.map (AObj.ren ε) := List.map_congr_left fun o ho => ren_bdO ha (List.all_eq_true.1 h o ho)
end
theorem bd0_le {c c' : Nat} (hc : c ≤ c') {a : AV} (h : bd0 c a = true) : bd0 c' a = true := by
  cases a <;> simp only [bd0] at h ⊢ <;> first | exact h | (have := blt_lt h; simp [Nat.blt_eq]; omega)
theorem all_le {α : Type} {p q : α → Bool} (h : ∀ a, p a = true → q a = true) {l : List α} (hl : l.all p = true) : l.all q = true := List.all_eq_true.2 fun a ha => h a (List.all_eq_true.1 hl a ha)
theorem bd1_le {c c' : Nat} (hc : c ≤ c') {a : AV} (h : bd1 c a = true) : bd1 c' a = true := by
  cases a <;> simp only [bd1] at h ⊢ <;> first
    | exact bd0_le hc h
    | exact all_le (fun _ => bd0_le hc) h
    | (simp only [Bool.and_eq_true] at h ⊢; exact ⟨all_le (fun _ => bd0_le hc) h.1, all_le (fun _ => bd0_le hc) h.2⟩)
theorem bd_le {c c' : Nat} (hc : c ≤ c') {a : AV} (h : bd c a = true) : bd c' a = true := by
  cases a <;> simp only [bd] at h ⊢ <;> first
    | exact bd1_le hc h
    | exact all_le (fun _ => bd1_le hc) h
theorem bdO_le {c c' : Nat} (hc : c ≤ c') {o : AObj} (h : bdO c o = true) : bdO c' o = true := by
  cases o with
  | hole => rfl
  | vec ep rows =>
    simp only [bdO, Bool.and_eq_true] at h ⊢
    have := blt_lt h.1
    exact ⟨by simp [Nat.blt_eq]; omega, all_le (fun _ => all_le fun _ => bd1_le hc) h.2⟩
  | map ep es =>
    simp only [bdO, Bool.and_eq_true] at h ⊢
    have := blt_lt h.1
    refine ⟨by simp [Nat.blt_eq]; omega, all_le (fun p hp => ?_) h.2⟩
    simp only [Bool.and_eq_true] at hp ⊢
    exact ⟨bd1_le hc hp.1, bd1_le hc hp.2⟩
end Go.Ab
