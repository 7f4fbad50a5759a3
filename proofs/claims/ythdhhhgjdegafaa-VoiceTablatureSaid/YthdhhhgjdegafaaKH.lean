/-
  What is proved here serves the law's text: each part says its own claim and its conditions. No condition is left open.
-/
import Derived.Test.YthdhhhgjdegafaaKG
set_option linter.unusedSimpArgs false
set_option linter.unusedVariables false

namespace Go.Ab
section
variable {α β : Type}
end
mutual
def AV.ren (ε : Nat → Nat) : AV → AV
 | .optr id ep sz i off => .optr id (ε ep) sz i off
 | .oslc id ep sz off len lim => .oslc id (ε ep) sz off len lim
 | .mp id ep => .mp id (ε ep)
 | .fn f x y => .fn f (renL ε x) (renL ε y)
 | .agg cs => .agg (renL ε cs)
 | .tup cs => .tup (renL ε cs)
 | .int k n => .int k n
 | .bool b => .bool b
 | .str s => .str s
 | .nilp => .nilp
 | .nils => .nils
 | .nilm => .nilm
 | .nilf => .nilf
 | .lptr sz rows i off => .lptr sz rows i off
 | .lslc sz rows off len lim => .lslc sz rows off len lim
 | .u => .u
def renL (ε : Nat → Nat) : List AV → List AV
 | [] => []
 | a :: l => a.ren ε :: renL ε l
end
def AObj.ren (ε : Nat → Nat) : AObj → AObj
 | .vec ep rows => .vec (ε ep) (rows.map (renL ε))
 | .map ep es => .map (ε ep) (es.map fun p => (p.1.ren ε, p.2.ren ε))
 | .hole => .hole
def Heap.ren (ε : Nat → Nat) (h : Heap) : Heap := ⟨h.st.map (AObj.ren ε), h.dy.map (AObj.ren ε)⟩
def bd0 (c : Nat) : AV → Bool
 | .optr _ ep _ _ _ | .oslc _ ep _ _ _ _ | .mp _ ep => Nat.blt ep c
 | .fn _ x y => x.isEmpty && y.isEmpty
 | .agg _ | .tup _ => false
 | _ => true
def bd1 (c : Nat) : AV → Bool
 | .fn _ x y => x.all (bd0 c) && y.all (bd0 c)
 | .agg cs => cs.all (bd0 c)
 | a => bd0 c a
def bd (c : Nat) : AV → Bool
 | .tup cs => cs.all (bd1 c)
 | a => bd1 c a
def bdO (c : Nat) : AObj → Bool
 | .vec ep rows => Nat.blt ep c && rows.all fun r => r.all (bd1 c)
 | .map ep es => Nat.blt ep c && es.all fun p => bd1 c p.1 && bd1 c p.2
 | .hole => true
def Agr (c : Nat) (ε ε' : Nat → Nat) : Prop := ∀ k, k < c → ε' k = ε k
theorem Agr.refl {c : Nat} {ε : Nat → Nat} : Agr c ε ε := fun _ _ => rfl
theorem Agr.trans {c c' : Nat} {ε ε' ε'' : Nat → Nat} (hc : c ≤ c') (a : Agr c ε ε') (b : Agr c' ε' ε'') : Agr c ε ε'' := fun k hk => (b k (by omega)).trans (a k hk)
theorem blt_lt {a b : Nat} (h : Nat.blt a b = true) : a < b := by simpa [Nat.blt_eq] using h
section
variable {c : Nat} {ε ε' : Nat → Nat} (ha : Agr c ε ε')
include ha
theorem ren_bd0 {a : AV} (h : bd0 c a = true) : a.ren ε' = a.ren ε := by
 cases a <;> simp only [AV.ren] <;> simp only [bd0] at h <;> first | (rw [ha _ (blt_lt h)]) | skip
 ·simp only [Bool.and_eq_true, List.isEmpty_iff] at h
  obtain ⟨rfl, rfl⟩ := h
  simp [renL]
 ·cases h
 ·cases h
theorem renL_bd0 : ∀ {l : List AV}, l.all (bd0 c) = true → renL ε' l = renL ε l
 | [], _ => by rw [renL, renL]
 | a :: l, h => by
  simp only [List.all_cons, Bool.and_eq_true] at h
  rw [renL, renL, ren_bd0 ha h.1, renL_bd0 h.2]
theorem ren_bd1 {a : AV} (h : bd1 c a = true) : a.ren ε' = a.ren ε := by
 cases a with
 | fn f x y =>
  simp only [bd1, Bool.and_eq_true] at h
  rw [AV.ren, AV.ren, renL_bd0 ha h.1, renL_bd0 ha h.2]
 | agg cs => rw [AV.ren, AV.ren, renL_bd0 ha h]
 | _ => exact ren_bd0 ha h
theorem renL_bd1 : ∀ {l : List AV}, l.all (bd1 c) = true → renL ε' l = renL ε l
 | [], _ => by rw [renL, renL]
 | a :: l, h => by
  simp only [List.all_cons, Bool.and_eq_true] at h
  rw [renL, renL, ren_bd1 ha h.1, renL_bd1 h.2]
theorem ren_bd {a : AV} (h : bd c a = true) : a.ren ε' = a.ren ε := by
 cases a with
 | tup cs => rw [AV.ren, AV.ren, renL_bd1 ha h]
 | _ => exact ren_bd1 ha h
theorem rows_bd {rows : List (List AV)} (h : (rows.all fun r => r.all (bd1 c)) = true) : rows.map (renL ε') = rows.map (renL ε) := by
 refine List.map_congr_left fun r hr => renL_bd1 ha ?_
 exact List.all_eq_true.1 h r hr
theorem ren_bdO {o : AObj} (h : bdO c o = true) : o.ren ε' = o.ren ε := by
 cases o with
 | hole => rfl
 | vec ep rows =>
  simp only [bdO, Bool.and_eq_true] at h
  rw [AObj.ren, AObj.ren, ha _ (blt_lt h.1), rows_bd ha h.2]
 | map ep es =>
  simp only [bdO, Bool.and_eq_true] at h
  rw [AObj.ren, AObj.ren, ha _ (blt_lt h.1)]
  congr 1
  refine List.map_congr_left fun p hp => ?_
  have := List.all_eq_true.1 h.2 p hp
  simp only [Bool.and_eq_true] at this
  rw [ren_bd1 ha this.1, ren_bd1 ha this.2]
theorem dy_bd {dy : List AObj} (h : dy.all (bdO c) = true) : dy.map (AObj.ren ε') = dy.map (AObj.ren ε) := List.map_congr_left fun o ho => ren_bdO ha (List.all_eq_true.1 h o ho)
end
theorem bd0_le {c c' : Nat} (hc : c ≤ c') {a : AV} (h : bd0 c a = true) : bd0 c' a = true := by
 cases a <;> simp only [bd0] at h ⊢ <;> first | exact h | (have := blt_lt h; simp [Nat.blt_eq]; omega)
theorem all_le {α : Type} {p q : α → Bool} (h : ∀ a, p a = true → q a = true) {l : List α} (hl : l.all p = true) : l.all q = true := List.all_eq_true.2 fun a ha => h a (List.all_eq_true.1 hl a ha)
theorem bd1_le {c c' : Nat} (hc : c ≤ c') {a : AV} (h : bd1 c a = true) : bd1 c' a = true := by
 cases a <;> simp only [bd1] at h ⊢ <;> first
  | exact bd0_le hc h
  | exact all_le (fun _ => bd0_le hc) h
  | (simp only [Bool.and_eq_true] at h ⊢; exact ⟨all_le (fun _ => bd0_le hc) h.1, all_le (fun _ => bd0_le hc) h.2⟩)
theorem bd_le {c c' : Nat} (hc : c ≤ c') {a : AV} (h : bd c a = true) : bd c' a = true := by
 cases a <;> simp only [bd] at h ⊢ <;> first
  | exact bd1_le hc h
  | exact all_le (fun _ => bd1_le hc) h
theorem bdO_le {c c' : Nat} (hc : c ≤ c') {o : AObj} (h : bdO c o = true) : bdO c' o = true := by
 cases o with
 | hole => rfl
 | vec ep rows =>
  simp only [bdO, Bool.and_eq_true] at h ⊢
  have := blt_lt h.1
  exact ⟨by simp [Nat.blt_eq]; omega, all_le (fun _ => all_le fun _ => bd1_le hc) h.2⟩
 | map ep es =>
  simp only [bdO, Bool.and_eq_true] at h ⊢
  have := blt_lt h.1
  refine ⟨by simp [Nat.blt_eq]; omega, all_le (fun p hp => ?_) h.2⟩
  simp only [Bool.and_eq_true] at hp ⊢
  exact ⟨bd1_le hc hp.1, bd1_le hc hp.2⟩
end Go.Ab
