/-
  What is proved here serves the law's text: each part says its own claim and its conditions. No condition is left open.
-/
import Derived.Test.YthdhhhgjdegafaaKN
import Derived.Test.YthdhhhgjdegafaaJB
import Derived.Test.YthdhhhgjdegafaaKO
import Derived.Test.YthdhhhgjdegafaaJA
set_option linter.unusedSimpArgs false
set_option linter.unusedVariables false

namespace Go.Ab.V
open Go.Proofs
theorem pureRows_of2 {rows : List (List AV)} (h : (rows.all fun r => r.all AV.pure1) = true) : pureRows rows :=
 fun row hr c hc => List.all_eq_true.1 (List.all_eq_true.1 h row hr) c hc
def cmpI (a b : Int) : Int := if a < b then -1 else if b < a then 1 else 0
def orI (a b : Int) : Int := if a ≠ 0 then a else b
structure Wy where
 c : Int
 m : Int
 j : Int
 r : Int
def wyR (x : Wy) : List AV := [.int .i64 x.c, .int .i64 x.m, .int .i64 x.j, .int .i64 x.r]
def wysA (l : List Wy) : AV := .lslc 4 (l.map wyR) 0 l.length false
abbrev rowsW (l : List Wy) : List (List AV) := l.map wyR
theorem pure_rowsW (l : List Wy) : pureRows (rowsW l) := pure_map l fun x => rfl
def cmpC (a b : Int × Int) : Int := orI (cmpI a.1 b.1) (cmpI a.2 b.2)
def wcmp (x y : Wy) : Int := orI (cmpC (x.c, x.m) (y.c, y.m)) (cmpI x.j y.j)
def costR (a : Int × Int) : List AV := [.int .i64 a.1, .int .i64 a.2]
def A80 : Ann := fun _ => {}
def A60 : Ann := fun r => match r with
 | 0 => { slots := [(0, 0), (1, 1)] }
 | 1 => { slots := [(10, 2)] }
 | _ => {}
def A59 : Ann := fun r => match r with
 | 0 => { slots := [(0, 0), (1, 1), (2, 2)] }
 | _ => {}
theorem nan90 (a : Int) : PRet C.P 90 [.int .i64 a] (.bool false) := by
 refine pret_of ok mixed (A := A80) 0 Try.func90 rfl ?_
 (repeat' (first | exact rfl | ((conv => whnf); first | exact rfl | exact ⟨rfl, rfl⟩ | refine go1 ?_ | (intro ep) | (refine ifB (fun hb => ?_) (fun hb => ?_) <;> (try simp only [qs] at hb) <;> (try simp (disch := omega) only [wrapI] at hb) <;> (try (exfalso; omega))) | fail)))
 all_goals (conv => whnf)
 all_goals simp
theorem cmp80 (a b : Int) : PRet C.P 80 [.int .i64 a, .int .i64 b] (.int .i64 (cmpI a b)) := by
 have n1 := nan90 a
 have n2 := nan90 b
 unfold cmpI
 by_cases c1 : a < b
 ·rw [if_pos c1]
  refine pret_of ok mixed (A := A80) 0 Try.func80 rfl ?_
  (repeat' (first | exact rfl | ((conv => whnf); first | refine ⟨_, n1, ?_⟩ | refine ⟨_, n2, ?_⟩ | exact rfl | exact ⟨rfl, rfl⟩ | refine go1 ?_ | (intro ep) | (refine ifB (fun hb => ?_) (fun hb => ?_) <;> (try simp only [qs] at hb) <;> (try simp (disch := omega) only [wrapI] at hb) <;> (try (exfalso; omega))) | fail)))
 rw [if_neg c1]
 by_cases c2 : b < a
 ·rw [if_pos c2]
  refine pret_of ok mixed (A := A80) 0 Try.func80 rfl ?_
  (repeat' (first | exact rfl | ((conv => whnf); first | refine ⟨_, n1, ?_⟩ | refine ⟨_, n2, ?_⟩ | exact rfl | exact ⟨rfl, rfl⟩ | refine go1 ?_ | (intro ep) | (refine ifB (fun hb => ?_) (fun hb => ?_) <;> (try simp only [qs] at hb) <;> (try simp (disch := omega) only [wrapI] at hb) <;> (try (exfalso; omega))) | fail)))
 rw [if_neg c2]
 refine pret_of ok mixed (A := A80) 0 Try.func80 rfl ?_
 (repeat' (first | exact rfl | ((conv => whnf); first | refine ⟨_, n1, ?_⟩ | refine ⟨_, n2, ?_⟩ | exact rfl | exact ⟨rfl, rfl⟩ | refine go1 ?_ | (intro ep) | (refine ifB (fun hb => ?_) (fun hb => ?_) <;> (try simp only [qs] at hb) <;> (try simp (disch := omega) only [wrapI] at hb) <;> (try (exfalso; omega))) | fail)))
set_option maxHeartbeats 2000000 in
theorem or79 (a b : Int) : PRet C.P 79 [.lslc 1 (ints [a, b]) 0 2 false] (.int .i64 (orI a b)) := by
 unfold orI
 by_cases c1 : a = 0
 ·rw [if_neg (by simp [c1])]
  subst c1
  by_cases c2 : b = 0
  ·subst c2
   refine pret_of ok mixed (A := fun _ => {}) 0 Try.func79 rfl ?_
   (repeat' (first | exact rfl | ((conv => whnf); first | refine loopU ok mixed (A := fun _ => {}) 10 ?_ | exact rfl | exact ⟨rfl, rfl⟩ | refine go1 ?_ | (intro ep) | (refine ifB (fun hb => ?_) (fun hb => ?_) <;> (try simp only [qs] at hb) <;> (try simp (disch := omega) only [wrapI] at hb) <;> (try (exfalso; omega))) | fail)))
  ·refine pret_of ok mixed (A := fun _ => {}) 0 Try.func79 rfl ?_
   (repeat' (first | exact rfl | ((conv => whnf); first | refine loopU ok mixed (A := fun _ => {}) 10 ?_ | exact rfl | exact ⟨rfl, rfl⟩ | refine go1 ?_ | (intro ep) | (refine ifB (fun hb => ?_) (fun hb => ?_) <;> (try simp only [qs] at hb) <;> (try simp (disch := omega) only [wrapI] at hb) <;> (try (exfalso; omega))) | fail)))
 ·rw [if_pos c1]
  refine pret_of ok mixed (A := fun _ => {}) 0 Try.func79 rfl ?_
  (repeat' (first | exact rfl | ((conv => whnf); first | refine loopU ok mixed (A := fun _ => {}) 10 ?_ | exact rfl | exact ⟨rfl, rfl⟩ | refine go1 ?_ | (intro ep) | (refine ifB (fun hb => ?_) (fun hb => ?_) <;> (try simp only [qs] at hb) <;> (try simp (disch := omega) only [wrapI] at hb) <;> (try (exfalso; omega))) | fail)))
set_option maxHeartbeats 2000000 in
theorem plus59 (a b : Int × Int) (h1 : 0 ≤ a.1 ∧ a.1 ≤ 4000000000000000000) (h2 : 0 ≤ a.2 ∧ a.2 ≤ 4000000000000000000) (h3 : 0 ≤ b.1 ∧ b.1 ≤ 4000000000000000000) (h4 : 0 ≤ b.2 ∧ b.2 ≤ 4000000000000000000) : PRet C.P 59 [.agg (costR a), .agg (costR b)] (.agg (costR (a.1 + b.1, a.2 + b.2))) := by
 obtain ⟨a1, a2⟩ := a
 obtain ⟨b1, b2⟩ := b
 simp only at h1 h2 h3 h4 ⊢
 have w1 : IntKind.i64.wrap (a1 + b1) = a1 + b1 := wrapI (by omega) (by omega)
 have w2 : IntKind.i64.wrap (a2 + b2) = a2 + b2 := wrapI (by omega) (by omega)
 rw [← w1, ← w2]
 refine pret_of ok mixed (A := A59) 3 Try.func59 rfl ?_
 (repeat' (first | exact rfl | ((conv => whnf); first | exact rfl | exact ⟨rfl, rfl⟩ | refine go1 ?_ | (intro ep) | (refine ifB (fun hb => ?_) (fun hb => ?_) <;> (try simp only [qs] at hb) <;> (try simp (disch := omega) only [wrapI] at hb) <;> (try (exfalso; omega))) | fail)))
set_option maxHeartbeats 4000000 in
set_option maxRecDepth 100000 in
theorem compare60 (a b : Int × Int) : PRet C.P 60 [.agg (costR a), .agg (costR b)] (.int .i64 (cmpC a b)) := by
 obtain ⟨a1, a2⟩ := a
 obtain ⟨b1, b2⟩ := b
 have n1 := cmp80 a1 b1
 have n2 := cmp80 a2 b2
 unfold cmpC
 simp only
 have hO := or79 (cmpI a1 b1) (cmpI a2 b2)
 generalize cmpI a1 b1 = p at n1 hO
 generalize cmpI a2 b2 = q at n2 hO
 refine pret_of (okx [] [79]) mixed (A := A60) 3 Try.func60 rfl ?_
 (repeat' (first | exact rfl | ((conv => whnf); first | refine ⟨_, n1, ?_⟩ | refine ⟨_, n2, ?_⟩ | refine ACalls.read1 (rows := ints [p, q]) hO rfl (pureRows_of2 (by kernel_rfl)) rfl (by exact rfl) ?_ | exact rfl | exact ⟨rfl, rfl⟩ | refine go1 ?_ | (intro ep) | (refine ifB (fun hb => ?_) (fun hb => ?_) <;> (try simp only [qs] at hb) <;> (try simp (disch := omega) only [wrapI] at hb) <;> (try (exfalso; omega))) | fail)))
set_option maxHeartbeats 4000000 in
set_option maxRecDepth 100000 in
theorem compare83 (x y : Wy) : PRet C.P 83 [.agg (wyR x), .agg (wyR y)] (.int .i64 (wcmp x y)) := by
 obtain ⟨a1, a2, a3, a4⟩ := x
 obtain ⟨b1, b2, b3, b4⟩ := y
 have n1 := compare60 (a1, a2) (b1, b2)
 have n2 := cmp80 a3 b3
 unfold wcmp
 simp only
 have hO := or79 (cmpC (a1, a2) (b1, b2)) (cmpI a3 b3)
 generalize cmpC (a1, a2) (b1, b2) = p at n1 hO
 generalize cmpI a3 b3 = q at n2 hO
 refine pret_of (okx [] [79]) mixed (A := A60) 3 Try.func83 rfl ?_
 (repeat' (first | exact rfl | ((conv => whnf); first | refine ⟨_, n1, ?_⟩ | refine ⟨_, n2, ?_⟩ | refine ACalls.read1 (rows := ints [p, q]) hO rfl (pureRows_of2 (by kernel_rfl)) rfl (by exact rfl) ?_ | exact rfl | exact ⟨rfl, rfl⟩ | refine go1 ?_ | (intro ep) | (refine ifB (fun hb => ?_) (fun hb => ?_) <;> (try simp only [qs] at hb) <;> (try simp (disch := omega) only [wrapI] at hb) <;> (try (exfalso; omega))) | fail)))
def befW (x : Wy) : List Wy → Nat
 | [] => 0
 | y :: r => if wcmp y x < 0 then befW x r + 1 else 0
def MonoW (x : Wy) (l : List Wy) : Prop := ∀ i j (hi : i < j) (hj : j < l.length), wcmp l[j] x < 0 → wcmp l[i] x < 0
theorem MonoW.tail {x y : Wy} {r : List Wy} (h : MonoW x (y :: r)) : MonoW x r := fun i j hi hj => by
 have := h (i + 1) (j + 1) (by omega) (by simpa using hj)
 simpa using this
theorem befW_le (x : Wy) : ∀ (l : List Wy), befW x l ≤ l.length
 | [] => by simp [befW]
 | y :: r => by
  unfold befW
  split
  ·have := befW_le x r; simp; omega
  ·simp
theorem befW_out (x : Wy) : ∀ (l : List Wy) (k : Nat) (hk : k < l.length), ¬ wcmp l[k] x < 0 → befW x l ≤ k
 | [], k, hk, h => by simp at hk
 | y :: r, 0, hk, h => by
  unfold befW
  rw [if_neg (by simpa using h)]; omega
 | y :: r, k + 1, hk, h => by
  unfold befW
  split
  ·have := befW_out x r k (by simpa using hk) (by simpa using h); omega
  ·omega
theorem befW_in (x : Wy) : ∀ (l : List Wy) (k : Nat) (hk : k < l.length), MonoW x l → wcmp l[k] x < 0 → k < befW x l
 | [], k, hk, ha, h => by simp at hk
 | y :: r, 0, hk, ha, h => by
  unfold befW
  rw [if_pos (by simpa using h)]; omega
 | y :: r, k + 1, hk, ha, h => by
  have h0 := ha 0 (k + 1) (by omega) hk h
  unfold befW
  rw [if_pos (by simpa using h0)]
  have := befW_in x r k (by simpa using hk) ha.tail (by simpa using h); omega
def fndW (x : Wy) (l : List Wy) : Bool := match l[befW x l]? with
 | some y => decide (wcmp y x = 0)
 | none => false
theorem wrapU {x : Int} (h1 : 0 ≤ x) (h2 : x < 18446744073709551616) : IntKind.u64.wrap x = x := by
 show x % 18446744073709551616 = x
 omega
def A91 : Ann := fun r => match r with
 | 0 => { slots := [(0, 0)] }
 | _ => {}
set_option maxHeartbeats 8000000 in
set_option maxRecDepth 100000 in
theorem bin91 (l : List Wy) (x : Wy) (ha : MonoW x l) (hl : l.length ≤ 4000000000000000000) : PRet C.P 91 [wysA l, .agg (wyR x), .fn (.func 83) [] []] (.tup [.int .i64 (befW x l : Int), .bool (fndW x l)]) := by
 obtain ⟨x1, x2, x3, x4⟩ := x
 generalize hxe : Wy.mk x1 x2 x3 x4 = x at *
 have hxr : wyR x = [.int .i64 x1, .int .i64 x2, .int .i64 x3, .int .i64 x4] := by rw [← hxe]; rfl
 rw [hxr]
 refine pret_of ok mixed (A := A91) 1 Try.func91 rfl ?_
 (repeat' (first | exact rfl | ((conv => whnf); first | exact rfl | exact ⟨rfl, rfl⟩ | refine go1 ?_ | (intro ep) | (refine ifB (fun hb => ?_) (fun hb => ?_) <;> (try simp only [qs] at hb) <;> (try simp (disch := omega) only [wrapI] at hb) <;> (try (exfalso; omega))) | fail)))
 all_goals (conv => whnf)
 refine loopY ok mixed (A := A91) [0, 2, 4, 8, 9, 10] [0] (S := { s : Nat × Nat // s.1 ≤ befW x l ∧ befW x l ≤ s.2 ∧ s.2 ≤ l.length })
  (fr := fun s => frOf 0 49 [(0, wysA l), (2, .fn (.func 83) [] []), (4, .optr (.s 0) ep 4 0 0), (8, .int .i64 (l.length : Int)), (9, .int .i64 (s.1.1 : Int)), (10, .int .i64 (s.1.2 : Int))])
  (h := fun s => ⟨[.vec ep [wyR x]], []⟩) (μ := fun s => s.1.2 - s.1.1) ⟨(0, l.length), by simp, befW_le x l, Nat.le_refl _⟩ ?_ ?_
  [0, 2, 4, 8, 9] [0] (S' := Unit) (X := fun _ => 0) (frX := fun s => frOf 0 49 [(0, wysA l), (2, .fn (.func 83) [] []), (4, .optr (.s 0) ep 4 0 0), (8, .int .i64 (l.length : Int)), (9, .int .i64 (befW x l : Int))]) (hX := fun s => ⟨[.vec ep [wyR x]], []⟩)
  [] [] (S2 := Empty) (frR := fun s => frOf 0 49 []) (hR := fun s => ⟨[], []⟩) ?_ (fun z => z.elim) ?_
 ·exact rfl
 ·rw [hxr]; exact rfl
 ·rintro ⟨⟨i, j⟩, hi, hj, hn⟩
  simp only at hi hj hn
  show aexR _ _ _ (frOf 0 49 [(0, wysA l), (2, .fn (.func 83) [] []), (4, .optr (.s 0) ep 4 0 0), (8, .int .i64 (l.length : Int)), (9, .int .i64 (i : Int)), (10, .int .i64 (j : Int))]) ⟨[.vec ep [wyR x]], []⟩ _
  (conv => whnf)
  refine ifB (fun g1 => ?_) (fun g1 => ?_)
  ·simp only [decide_eq_true_eq] at g1
   obtain ⟨m, hm⟩ : ∃ m, m = (i + j) / 2 := ⟨_, rfl⟩
   have h1 : m < l.length := by omega
   have hx := mapR (f := wyR) h1
   have hc := compare83 l[m] x
   have c1 := befW_out x l m h1
   have c2 := befW_in x l m h1 ha
   generalize l[m] = y at hx hc c1 c2
   (repeat' (first | exact rfl | ((conv => whnf); first | refine optS hx ?_ | refine ⟨_, hc, ?_⟩ | exact rfl | exact ⟨rfl, rfl⟩ | refine go1 ?_ | (intro ep) | (refine ifB (fun hb => ?_) (fun hb => ?_) <;> (try simp only [qs] at hb) <;> (try simp (disch := omega) only [wrapI] at hb) <;> (try (exfalso; omega))) | fail)))
   have hM : IntKind.i64.wrap ((IntKind.u64.wrap (IntKind.i64.wrap ((i : Int) + j))).fdiv (2 ^ min (Int.toNat 1) IntKind.u64.bits)) = (m : Int) := by
    rw [wrapI (x := (i : Int) + j) (by omega) (by omega), wrapU (by omega) (by omega), show (2 : Int) ^ min (Int.toNat 1) IntKind.u64.bits = 2 from rfl, Int.fdiv_eq_ediv_of_nonneg _ (by omega), wrapI (by omega) (by omega)]
    omega
   all_goals (conv => whnf)
   rw [hM]
   refine ⟨by omega, ?_⟩
   (repeat' (first | exact rfl | ((conv => whnf); first | refine optS hx ?_ | refine ⟨_, hc, ?_⟩ | exact rfl | exact ⟨rfl, rfl⟩ | refine go1 ?_ | (intro ep) | (refine ifB (fun hb => ?_) (fun hb => ?_) <;> (try simp only [qs] at hb) <;> (try simp (disch := omega) only [wrapI] at hb) <;> (try (exfalso; omega))) | fail)))
   ·skip
    (conv => whnf)
    have := c2 hb
    exact back_of ⟨(m + 1, j), by simp only; omega, by simp only; omega, by simp only; omega⟩ ⟨by (first | exact rfl | (simp (disch := omega) only [wrapI]; exact rfl)), rfl, by simp only; omega⟩
   ·skip
    (conv => whnf)
    have := c1 (by omega)
    exact back_of ⟨(i, m), by simp only; omega, by simp only; omega, by simp only; omega⟩ ⟨by (first | exact rfl | (simp (disch := omega) only [wrapI]; exact rfl)), rfl, by simp only; omega⟩
  ·simp only [decide_eq_false_iff_not] at g1
   have e : i = befW x l := by omega
   subst e
   (repeat' (first | exact rfl | ((conv => whnf); first | exact rfl | exact ⟨rfl, rfl⟩ | refine go1 ?_ | (intro ep) | fail)))
   all_goals (conv => whnf)
   exact back_of () ⟨rfl, rfl, rfl⟩
 ·rintro ⟨⟩
  have hle := befW_le x l
  unfold fndW
  by_cases c : befW x l < l.length
  ·have hx := mapR (f := wyR) c
   have hc := compare83 l[befW x l] x
   rw [List.getElem?_eq_getElem c]
   simp only
   generalize l[befW x l] = y at hx hc
   generalize befW x l = B at hx hle c
   (repeat' (first | exact rfl | ((conv => whnf); first | refine optS hx ?_ | refine ⟨_, hc, ?_⟩ | exact rfl | exact ⟨rfl, rfl⟩ | refine go1 ?_ | (intro ep) | (refine ifB (fun hb => ?_) (fun hb => ?_) <;> (try simp only [qs] at hb) <;> (try simp (disch := omega) only [wrapI] at hb) <;> (try (exfalso; omega))) | fail)))
  ·rw [List.getElem?_eq_none (by omega)]
   simp only
   generalize befW x l = B at hle c
   (repeat' (first | exact rfl | ((conv => whnf); first | exact rfl | exact ⟨rfl, rfl⟩ | refine go1 ?_ | (intro ep) | (refine ifB (fun hb => ?_) (fun hb => ?_) <;> (try simp only [qs] at hb) <;> (try simp (disch := omega) only [wrapI] at hb) <;> (try (exfalso; omega))) | fail)))
end Go.Ab.V

namespace Go.Ab.V
def cl (a b : Int × Int) : Bool := decide (a.1 < b.1) || (decide (a.1 = b.1) && decide (a.2 < b.2))
theorem cl_iff {a b : Int × Int} : cl a b = true ↔ a.1 < b.1 ∨ (a.1 = b.1 ∧ a.2 < b.2) := by unfold cl; simp
theorem cl_not {a b : Int × Int} (h : ¬ cl a b = true) : cl b a = true ∨ a = b := by
 rw [cl_iff] at h
 rw [cl_iff]
 obtain ⟨a1, a2⟩ := a
 obtain ⟨b1, b2⟩ := b
 simp only [Prod.mk.injEq] at h ⊢
 omega
section
variable {α : Type} (κ : α → Int × Int) (ls : List (List α))
def hdA (p : Nat → Nat) (j : Nat) : Option α := (ls.getD j [])[p j]?
def bst (p : Nat → Nat) : Nat → Option (Nat × α)
 | 0 => none
 | n + 1 => match hdA ls p n with
  | none => bst p n
  | some x => match bst p n with
   | none => some (n, x)
   | some by' => if cl (κ x) (κ by'.2) then some (n, x) else some by'
def bump (p : Nat → Nat) (j : Nat) : Nat → Nat := fun i => if i = j then p i + 1 else p i
def picks : Nat → (Nat → Nat) → List (Nat × α)
 | 0, _ => []
 | k + 1, p => match bst κ ls p ls.length with
  | none => []
  | some jx => jx :: picks k (bump p jx.1)
def Rem (p : Nat → Nat) (j : Nat) (x : α) : Prop := ∃ q, p j ≤ q ∧ (ls.getD j [])[q]? = some x
variable {κ ls}
theorem bst_none {p : Nat → Nat} : ∀ {n : Nat}, bst κ ls p n = none → ∀ j, j < n → hdA ls p j = none
 | 0, _, j, hj => by omega
 | n + 1, h, j, hj => by
  unfold bst at h
  split at h
  ·rename_i hn
   by_cases e : j = n
   ·subst e; exact hn
   ·exact bst_none h j (by omega)
  ·split at h
   ·cases h
   ·split at h <;> cases h
theorem bst_hd {p : Nat → Nat} : ∀ {n j : Nat} {x : α}, bst κ ls p n = some (j, x) → j < n ∧ hdA ls p j = some x
 | n + 1, j, x, h => by
  unfold bst at h
  split at h
  ·obtain ⟨a, b⟩ := bst_hd h; exact ⟨by omega, b⟩
  ·rename_i y hy
   split at h
   ·cases h; exact ⟨by omega, hy⟩
   ·rename_i z hz
    split at h
    ·cases h; exact ⟨by omega, hy⟩
    ·cases h; obtain ⟨a, b⟩ := bst_hd hz; exact ⟨by omega, b⟩
theorem rem_lt {p : Nat → Nat} {j : Nat} {x : α} (h : Rem ls p j x) : j < ls.length := by
 obtain ⟨q, _, hq⟩ := h
 by_cases c : j < ls.length
 ·exact c
 ·rw [List.getD_eq_getElem?_getD, List.getElem?_eq_none (l := ls) (i := j) (by omega)] at hq
  simp at hq
end
section
variable {α : Type} (lt : α → α → Prop)
variable {lt}
end
end Go.Ab.V

namespace Go.Ab.V
abbrev Co := Int × Int
theorem cl_cmpC {a b : Co} : cl a b = true ↔ cmpC a b < 0 := by
 obtain ⟨a1, a2⟩ := a
 obtain ⟨b1, b2⟩ := b
 rw [cl_iff]
 unfold cmpC orI cmpI
 simp only
 split <;> split <;> (try split) <;> (try split) <;> omega
def pkW (ls : List (List Co)) : Nat → (Nat → Nat) → List Wy
 | 0, _ => []
 | k + 1, p => match bst id ls p ls.length with
  | none => []
  | some jx => ⟨jx.2.1, jx.2.2, (jx.1 : Int), (p jx.1 : Int)⟩ :: pkW ls k (bump p jx.1)
def mrg (ls : List (List Co)) : List Wy := pkW ls (ls.map List.length).sum fun _ => 0
def lvOf (T : Nat → List Wy) (ms : List RMv) : List RMv := ms.filter fun h => !(T h.to).isEmpty
def lsOf (T : Nat → List Wy) (ms : List RMv) : List (List Co) := (lvOf T ms).map fun h => (T h.to).map fun w => (h.c + w.c, h.m + w.m)
def WG : Steps → Nat → List Wy
 | [], _ => [⟨0, 0, 0, 0⟩]
 | g :: G, k => mrg (lsOf (WG G) (g.getD k []))
def costF (l : List Wy) : Co := match l with
 | [] => (0, 0)
 | w :: _ => (w.c, w.m)
theorem pkW_mem {ls : List (List Co)} : ∀ {k : Nat} {p : Nat → Nat} {w : Wy}, w ∈ pkW ls k p → ∃ (j q : Nat) (x : Co), w = ⟨x.1, x.2, (j : Int), (q : Int)⟩ ∧ (ls.getD j [])[q]? = some x
 | k + 1, p, w, h => by
  unfold pkW at h
  split at h
  ·simp at h
  ·rename_i jx hb
   rcases List.mem_cons.1 h with rfl | h
   ·exact ⟨jx.1, p jx.1, jx.2, rfl, (bst_hd hb).2⟩
   ·exact pkW_mem h
theorem getD_mem {α : Type} {l : List (List α)} {j q : Nat} {x : α} (h : (l.getD j [])[q]? = some x) : ∃ m ∈ l, x ∈ m := by
 rw [List.getD_eq_getElem?_getD] at h
 cases e : l[j]? with
 | none => rw [e] at h; simp at h
 | some m => rw [e] at h; exact ⟨m, List.mem_of_getElem? e, List.mem_of_getElem? h⟩
theorem lsOf_mem {T : Nat → List Wy} {ms : List RMv} {m : List Co} (h : m ∈ lsOf T ms) : ∃ r ∈ ms, T r.to ≠ [] ∧ m = (T r.to).map fun w => (r.c + w.c, r.m + w.m) := by
 obtain ⟨r, hr, rfl⟩ := List.mem_map.1 h
 obtain ⟨h1, h2⟩ := List.mem_filter.1 hr
 exact ⟨r, h1, by intro e; rw [e] at h2; simp at h2, rfl⟩
def GBd (G : Steps) : Prop := ∀ g ∈ G, ∀ ms ∈ g, ∀ h ∈ ms, (0 ≤ h.c ∧ h.c ≤ 1000000) ∧ (0 ≤ h.m ∧ h.m ≤ 1000000)
theorem getD_memL {α : Type} {g : List (List α)} {k : Nat} {x : α} (h : x ∈ g.getD k []) : ∃ m ∈ g, x ∈ m := by
 rw [List.getD_eq_getElem?_getD] at h
 cases e : g[k]? with
 | none => rw [e] at h; simp at h
 | some m => rw [e] at h; exact ⟨m, List.mem_of_getElem? e, h⟩
theorem WG_bd : ∀ {G : Steps}, GBd G → ∀ (k : Nat), ∀ w ∈ WG G k, (0 ≤ w.c ∧ w.c ≤ 1000000 * G.length) ∧ (0 ≤ w.m ∧ w.m ≤ 1000000 * G.length)
 | [], _, k, w, h => by
  rw [WG, List.mem_singleton] at h
  subst h
  simp
 | g :: G, hb, k, w, h => by
  obtain ⟨j, q, x, rfl, hx⟩ := pkW_mem h
  obtain ⟨m, hm, hx⟩ := getD_mem hx
  obtain ⟨r, hr, _, rfl⟩ := lsOf_mem hm
  obtain ⟨w', hw', rfl⟩ := List.mem_map.1 hx
  obtain ⟨ms, hms, hr⟩ := getD_memL hr
  have h1 := hb g (List.mem_cons_self ..) ms hms r hr
  have h2 := WG_bd (fun g hg => hb g (List.mem_cons_of_mem _ hg)) r.to w' hw'
  simp only [List.length_cons]
  push_cast
  omega
theorem costF_bd {G : Steps} (h : GBd G) (k : Nat) : (0 ≤ (costF (WG G k)).1 ∧ (costF (WG G k)).1 ≤ 1000000 * G.length) ∧ (0 ≤ (costF (WG G k)).2 ∧ (costF (WG G k)).2 ≤ 1000000 * G.length) := by
 have := WG_bd h k
 unfold costF
 cases e : WG G k with
 | nil => simp only; omega
 | cons w r => exact this w (by rw [e]; exact List.mem_cons_self ..)
def tellB (rs : List Co) (ds : List Bool) (s : Co × Bool) (h : RMv) : Co × Bool := if ds.getD h.to true = true then s else
 if s.2 = true ∨ cmpC (h.c + (rs.getD h.to (0, 0)).1, h.m + (rs.getD h.to (0, 0)).2) s.1 < 0 then ((h.c + (rs.getD h.to (0, 0)).1, h.m + (rs.getD h.to (0, 0)).2), false) else s
def stepH (s : Co × Bool) (a : Co) : Co × Bool := if s.2 = true ∨ cmpC a s.1 < 0 then (a, false) else s
theorem bst_fold (ls : List (List Co)) (hne : ∀ l ∈ ls, l ≠ []) : ∀ (n : Nat), n ≤ ls.length → ((ls.take n).map fun l => l.headD (0, 0)).foldl stepH ((0, 0), true) = (match bst id ls (fun _ => 0) n with
  | none => ((0, 0), true)
  | some jx => (jx.2, false)) ∧ (bst id ls (fun _ => 0) n = none → n = 0)
 | 0, _ => ⟨rfl, fun _ => rfl⟩
 | n + 1, hn => by
  obtain ⟨ih, ih2⟩ := bst_fold ls hne n (by omega)
  have hh : ∃ x, hdA ls (fun _ => 0) n = some x ∧ ls[n].headD (0, 0) = x := by
   have := hne ls[n] (List.getElem_mem _)
   unfold hdA
   rw [List.getD_eq_getElem?_getD, List.getElem?_eq_getElem (l := ls) (i := n) (by omega)]
   cases e : ls[n] with
   | nil => exact absurd e this
   | cons a r => exact ⟨a, rfl, rfl⟩
  obtain ⟨x, hx, hx2⟩ := hh
  rw [List.take_succ_eq_append_getElem (by omega), List.map_append, List.foldl_append, ih, List.map_singleton, hx2]
  simp only [bst, hx, List.foldl_cons, List.foldl_nil]
  cases hb : bst id ls (fun _ => 0) n with
  | none => exact ⟨by simp [stepH], by simp⟩
  | some jx =>
   simp only [stepH, Bool.false_eq_true, false_or, id]
   by_cases c : cl x jx.2 = true
   ·rw [if_pos (cl_cmpC.1 c), if_pos c]; simp
   ·rw [if_neg (fun h => c (cl_cmpC.2 h)), if_neg c]; simp
theorem mrg_head (ls : List (List Co)) (hne : ∀ l ∈ ls, l ≠ []) : (ls.map fun l => l.headD (0, 0)).foldl stepH ((0, 0), true) = (costF (mrg ls), (mrg ls).isEmpty) := by
 obtain ⟨h1, h2⟩ := bst_fold ls hne ls.length (Nat.le_refl _)
 rw [List.take_length] at h1
 rw [h1]
 unfold mrg
 cases hb : bst id ls (fun _ => 0) ls.length with
 | none =>
  have := List.length_eq_zero_iff.1 (h2 hb)
  subst this
  rfl
 | some jx =>
  obtain ⟨k, hk⟩ : ∃ k, (ls.map List.length).sum = k + 1 := by
   cases ls with
   | nil => simp [bst] at hb
   | cons l r =>
    have := hne l (List.mem_cons_self ..)
    have : 0 < l.length := List.length_pos_iff.2 this
    exact ⟨(List.map List.length (l :: r)).sum - 1, by simp only [List.map_cons, List.sum_cons]; omega⟩
  rw [hk, pkW, hb]
  rfl
def restL (T : Nat → List Wy) (len : Nat) : List Co := (List.range len).map fun k => costF (T k)
def deadL (T : Nat → List Wy) (len : Nat) : List Bool := (List.range len).map fun k => (T k).isEmpty
theorem restL_at {T : Nat → List Wy} {len k : Nat} (h : k < len) : (restL T len).getD k (0, 0) = costF (T k) := by
 unfold restL
 rw [List.getD_eq_getElem?_getD, List.getElem?_map, List.getElem?_range h]; rfl
theorem deadL_at {T : Nat → List Wy} {len k : Nat} (h : k < len) : (deadL T len).getD k true = (T k).isEmpty := by
 unfold deadL
 rw [List.getD_eq_getElem?_getD, List.getElem?_map, List.getElem?_range h]; rfl
theorem tellB_fold {T : Nat → List Wy} {len : Nat} : ∀ (ms : List RMv) (hms : ∀ h ∈ ms, h.to < len) (s : Co × Bool), ms.foldl (tellB (restL T len) (deadL T len)) s = ((lsOf T ms).map fun l => l.headD (0, 0)).foldl stepH s
 | [], _, s => rfl
 | h :: ms, hms, s => by
  have hl := hms h (List.mem_cons_self ..)
  rw [List.foldl_cons, tellB_fold ms fun h' hh => hms h' (List.mem_cons_of_mem _ hh)]
  unfold tellB lsOf lvOf
  rw [deadL_at hl, restL_at hl, List.filter_cons]
  cases e : T h.to with
  | nil => simp
  | cons w r =>
   simp [e, costF, stepH]
   rfl
theorem settle_law {T : Nat → List Wy} {len : Nat} (ms : List RMv) (hms : ∀ h ∈ ms, h.to < len) : ms.foldl (tellB (restL T len) (deadL T len)) ((0, 0), true) = (costF (mrg (lsOf T ms)), (mrg (lsOf T ms)).isEmpty) := by
 rw [tellB_fold ms hms]
 refine mrg_head _ fun l hl => ?_
 obtain ⟨r, _, h1, rfl⟩ := lsOf_mem hl
 intro e
 exact h1 (List.map_eq_nil_iff.1 e)
end Go.Ab.V
