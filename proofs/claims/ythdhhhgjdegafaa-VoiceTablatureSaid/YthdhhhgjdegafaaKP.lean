/-
  What is proved here serves the law's text: each part says its own claim and its conditions. No condition is left open.
-/
import Derived.Test.YthdhhhgjdegafaaKN
import Derived.Test.YthdhhhgjdegafaaKO
set_option linter.unusedSimpArgs false
set_option linter.unusedVariables false

namespace Go.Ab.V
open Go.Proofs
def A34 : Ann := fun _ => {}
theorem within_spec (n a b : Int) : PRet C.P 34 [.int .i64 n, .int .i64 a, .int .i64 b] (.bool (decide (a ≤ n) && decide (n ≤ b))) := by
 by_cases h1 : a ≤ n <;> by_cases h2 : n ≤ b <;>
  (
   refine pret_of ok mixed (A := A34) 0 Try.func34 rfl ?_
   (repeat' (first | exact rfl | ((conv => whnf); first | exact rfl | refine ⟨by kernel_rfl, ?_⟩ | exact ⟨rfl, rfl⟩ | refine go0 ?_ | (intro ep) | (refine ifB (fun hb => ?_) (fun hb => ?_) <;> (try simp only [qs] at hb) <;> (try simp (disch := omega) only [wrapI] at hb) <;> (try (exfalso; omega))) | fail)))
   all_goals (conv => whnf)
   all_goals (simp [h1, h2]))
end Go.Ab.V

namespace Go.Ab.V
open Go.Proofs
theorem within_t {n a b : Int} (h : a ≤ n ∧ n ≤ b) : PRet C.P 34 [.int .i64 n, .int .i64 a, .int .i64 b] (.bool true) := by
 have := within_spec n a b
 rwa [show (decide (a ≤ n) && decide (n ≤ b)) = true by simp; omega] at this
theorem within_f {n a b : Int} (h : n < a ∨ b < n) : PRet C.P 34 [.int .i64 n, .int .i64 a, .int .i64 b] (.bool false) := by
 have := within_spec n a b
 rwa [show (decide (a ≤ n) && decide (n ≤ b)) = false by simp; omega] at this
def prs : List Int → List Int → Int
 | a :: r, b :: s => if a < 0 ∨ b < a ∨ 127 < b then 70 else prs r s
 | _, _ => 0
def chkL (x : Lm) : Int :=
 if x.lo.length < 1 ∨ 5 < x.lo.length then 70 else if x.hi.length ≠ x.lo.length then 70 else if x.leap < 0 ∨ 127 < x.leap then 70 else
 if x.gap < 0 ∨ 262144 < x.gap then 70 else if x.cross < 0 ∨ 10 < x.cross then 70 else prs x.lo x.hi
def A54 : Ann := fun r => match r with
 | 0 => { slots := [(0, 0)] }
 | _ => {}
set_option maxHeartbeats 8000000 in
set_option maxRecDepth 100000 in
theorem check_spec (x : Lm) (hl : x.lo.length ≤ 9223372036854775807) (hh : x.hi.length ≤ 9223372036854775807) : PRet C.P 54 [lmA x] (.int .i64 (chkL x)) := by
 obtain ⟨lo, hi, leap, gap, cross⟩ := x
 simp only at hl hh
 unfold chkL
 simp only
 by_cases c1 : lo.length < 1 ∨ 5 < lo.length
 ·rw [if_pos c1]
  have w1 := within_f (n := (lo.length : Int)) (a := 1) (b := 5) (by omega)
  have w3 := w1
  have w4 := w1
  have w5 := w1
  refine pret_of ok mixed (A := A54) 1 Try.func54 rfl ?_
  (repeat' (first | exact rfl | ((conv => whnf); first | refine ⟨_, w1, ?_⟩ | refine ⟨_, w3, ?_⟩ | refine ⟨_, w4, ?_⟩ | refine ⟨_, w5, ?_⟩ | exact rfl | refine ⟨by kernel_rfl, ?_⟩ | exact ⟨rfl, rfl⟩ | refine go0 ?_ | (intro ep) | (refine ifB (fun hb => ?_) (fun hb => ?_) <;> (try simp only [qs] at hb) <;> (try simp (disch := omega) only [wrapI] at hb) <;> (try (exfalso; omega))) | fail)))
 rw [if_neg c1]
 have w1 := within_t (n := (lo.length : Int)) (a := 1) (b := 5) (by omega)
 by_cases c2 : hi.length ≠ lo.length
 ·rw [if_pos c2]
  have w3 := w1
  have w4 := w1
  have w5 := w1
  refine pret_of ok mixed (A := A54) 1 Try.func54 rfl ?_
  (repeat' (first | exact rfl | ((conv => whnf); first | refine ⟨_, w1, ?_⟩ | refine ⟨_, w3, ?_⟩ | refine ⟨_, w4, ?_⟩ | refine ⟨_, w5, ?_⟩ | exact rfl | refine ⟨by kernel_rfl, ?_⟩ | exact ⟨rfl, rfl⟩ | refine go0 ?_ | (intro ep) | (refine ifB (fun hb => ?_) (fun hb => ?_) <;> (try simp only [qs] at hb) <;> (try simp (disch := omega) only [wrapI] at hb) <;> (try (exfalso; omega))) | fail)))
 rw [if_neg c2]
 by_cases c3 : leap < 0 ∨ 127 < leap
 ·rw [if_pos c3]
  have w3 := within_f (n := leap) (a := 0) (b := 127) (by omega)
  have w4 := w1
  have w5 := w1
  refine pret_of ok mixed (A := A54) 1 Try.func54 rfl ?_
  (repeat' (first | exact rfl | ((conv => whnf); first | refine ⟨_, w1, ?_⟩ | refine ⟨_, w3, ?_⟩ | refine ⟨_, w4, ?_⟩ | refine ⟨_, w5, ?_⟩ | exact rfl | refine ⟨by kernel_rfl, ?_⟩ | exact ⟨rfl, rfl⟩ | refine go0 ?_ | (intro ep) | (refine ifB (fun hb => ?_) (fun hb => ?_) <;> (try simp only [qs] at hb) <;> (try simp (disch := omega) only [wrapI] at hb) <;> (try (exfalso; omega))) | fail)))
 rw [if_neg c3]
 have w3 := within_t (n := leap) (a := 0) (b := 127) (by omega)
 by_cases c4 : gap < 0 ∨ 262144 < gap
 ·rw [if_pos c4]
  have w4 := within_f (n := gap) (a := 0) (b := 262144) (by omega)
  have w5 := w1
  refine pret_of ok mixed (A := A54) 1 Try.func54 rfl ?_
  (repeat' (first | exact rfl | ((conv => whnf); first | refine ⟨_, w1, ?_⟩ | refine ⟨_, w3, ?_⟩ | refine ⟨_, w4, ?_⟩ | refine ⟨_, w5, ?_⟩ | exact rfl | refine ⟨by kernel_rfl, ?_⟩ | exact ⟨rfl, rfl⟩ | refine go0 ?_ | (intro ep) | (refine ifB (fun hb => ?_) (fun hb => ?_) <;> (try simp only [qs] at hb) <;> (try simp (disch := omega) only [wrapI] at hb) <;> (try (exfalso; omega))) | fail)))
 rw [if_neg c4]
 have w4 := within_t (n := gap) (a := 0) (b := 262144) (by omega)
 by_cases c5 : cross < 0 ∨ 10 < cross
 ·rw [if_pos c5]
  have w5 := within_f (n := cross) (a := 0) (b := 10) (by omega)
  refine pret_of ok mixed (A := A54) 1 Try.func54 rfl ?_
  (repeat' (first | exact rfl | ((conv => whnf); first | refine ⟨_, w1, ?_⟩ | refine ⟨_, w3, ?_⟩ | refine ⟨_, w4, ?_⟩ | refine ⟨_, w5, ?_⟩ | exact rfl | refine ⟨by kernel_rfl, ?_⟩ | exact ⟨rfl, rfl⟩ | refine go0 ?_ | (intro ep) | (refine ifB (fun hb => ?_) (fun hb => ?_) <;> (try simp only [qs] at hb) <;> (try simp (disch := omega) only [wrapI] at hb) <;> (try (exfalso; omega))) | fail)))
 rw [if_neg c5]
 have w5 := within_t (n := cross) (a := 0) (b := 10) (by omega)
 obtain ⟨R, hR⟩ : ∃ R, R = prs lo hi := ⟨_, rfl⟩
 rw [← hR]
 refine pret_of ok mixed (A := A54) 1 Try.func54 rfl ?_
 (conv => whnf)
 intro e0
 (repeat' (first | exact rfl | ((conv => whnf); first | refine ⟨_, w1, ?_⟩ | refine ⟨_, w3, ?_⟩ | refine ⟨_, w4, ?_⟩ | refine ⟨_, w5, ?_⟩ | exact rfl | refine ⟨by kernel_rfl, ?_⟩ | exact ⟨rfl, rfl⟩ | refine go0 ?_ | (intro ep) | (refine ifB (fun hb => ?_) (fun hb => ?_) <;> (try simp only [qs] at hb) <;> (try simp (disch := omega) only [wrapI] at hb) <;> (try (exfalso; omega))) | fail)))
 all_goals (conv => whnf)
 refine loopY ok mixed (A := A54) [1, 36, 37] [0] (S := { k : Nat // k ≤ lo.length ∧ prs (lo.drop k) (hi.drop k) = R })
  (fr := fun s => frOf 0 68 [(1, .optr (.s 0) e0 5 0 0), (36, .int .i64 (lo.length : Int)), (37, .int .i64 (s.1 : Int))])
  (h := fun s => ⟨[.vec e0 [lmR ⟨lo, hi, leap, gap, cross⟩]], []⟩) (μ := fun s => lo.length - s.1) ⟨0, by simp [hR]⟩ ?_ ?_
  [] [] (S' := { k : Nat // 0 = R }) (X := fun _ => 0) (frX := fun s => frOf 0 68 []) (hX := fun s => ⟨[.hole], []⟩)
  [2] [] (S2 := { k : Nat // 70 = R }) (frR := fun s => frOf 0 68 [(2, .int .i64 70)]) (hR := fun s => ⟨[.hole], []⟩) ?_ ?_ ?_
 ·exact rfl
 ·exact rfl
 ·rintro ⟨k, hk, hu⟩
  show aexR _ _ _ (frOf 0 68 [(1, .optr (.s 0) e0 5 0 0), (36, .int .i64 (lo.length : Int)), (37, .int .i64 (k : Int))]) ⟨[.vec e0 [lmR ⟨lo, hi, leap, gap, cross⟩]], []⟩ _
  (conv => whnf)
  refine ifB (fun g1 => ?_) (fun g1 => ?_)
  ·simp only [decide_eq_true_eq] at g1
   have h1 : k < lo.length := by omega
   have h2 : k < hi.length := by omega
   have hm := intsR h1
   have hm2 := intsR h2
   rw [List.drop_eq_getElem_cons h1, List.drop_eq_getElem_cons h2, prs] at hu
   generalize lo[k] = a at hm hu
   generalize hi[k] = b at hm2 hu
   by_cases c6 : a < 0 ∨ b < a ∨ 127 < b
   ·rw [if_pos c6] at hu
    (repeat' (first | exact rfl | ((conv => whnf); first | refine optS hm ?_ | refine optS hm2 ?_ | exact rfl | refine ⟨by kernel_rfl, ?_⟩ | exact ⟨rfl, rfl⟩ | refine go0 ?_ | (intro ep) | (refine ifB (fun hb => ?_) (fun hb => ?_) <;> (try simp only [qs] at hb) <;> (try simp (disch := omega) only [wrapI] at hb) <;> (try (exfalso; omega))) | fail)))
    all_goals (conv => whnf)
    all_goals exact back_of ⟨0, hu⟩ ⟨rfl, rfl⟩
   ·rw [if_neg c6] at hu
    (repeat' (first | exact rfl | ((conv => whnf); first | refine optS hm ?_ | refine optS hm2 ?_ | exact rfl | refine ⟨by kernel_rfl, ?_⟩ | exact ⟨rfl, rfl⟩ | refine go0 ?_ | (intro ep) | (refine ifB (fun hb => ?_) (fun hb => ?_) <;> (try simp only [qs] at hb) <;> (try simp (disch := omega) only [wrapI] at hb) <;> (try (exfalso; omega))) | fail)))
    all_goals (conv => whnf)
    all_goals exact back_of ⟨k + 1, by omega, hu⟩ ⟨by (first | exact rfl | (simp (disch := omega) only [wrapI]; exact rfl)), rfl, by simp only; omega⟩
  ·simp only [decide_eq_false_iff_not] at g1
   rw [List.drop_eq_nil_of_le (by omega), prs] at hu
   ·(repeat' (first | exact rfl | ((conv => whnf); first | exact rfl | refine ⟨by kernel_rfl, ?_⟩ | exact ⟨rfl, rfl⟩ | refine go0 ?_ | (intro ep) | fail)))
    all_goals (conv => whnf)
    exact back_of ⟨0, hu⟩ ⟨rfl, rfl, rfl⟩
   ·intro a r b s h; cases h
 ·rintro ⟨x, hx⟩
  (repeat' (first | exact rfl | ((conv => whnf); first | exact rfl | refine ⟨by kernel_rfl, ?_⟩ | exact ⟨rfl, rfl⟩ | refine go0 ?_ | (intro ep) | fail)))
  all_goals (conv => whnf)
  all_goals (subst hx; rfl)
 ·rintro ⟨x, hx⟩
  (repeat' (first | exact rfl | ((conv => whnf); first | exact rfl | refine ⟨by kernel_rfl, ?_⟩ | exact ⟨rfl, rfl⟩ | refine go0 ?_ | (intro ep) | fail)))
  all_goals (conv => whnf)
  all_goals (subst hx; rfl)
end Go.Ab.V

namespace Go.Ab.V
open Go.Proofs
def ntBad (n : Nt) : Prop := n.e < 0 ∨ 399 < n.e ∨ n.c < 1 ∨ 14 < n.c ∨ n.p < 0 ∨ 127 < n.p ∨ n.f < 0 ∨ n.t ≤ n.f ∨ 262144 < n.t
instance (n : Nt) : Decidable (ntBad n) := by unfold ntBad; infer_instance
def ntOff (b n : Nt) : Prop := ¬ ((b.e = n.e ∧ b.c < n.c ∧ b.f = n.f) ∨ (b.e < n.e ∧ b.f < n.f))
instance (b n : Nt) : Decidable (ntOff b n) := by unfold ntOff; infer_instance
def chkNs : Option Nt → List Nt → Int
 | none, [] => 0
 | some _, [] => 0
 | none, n :: r => if ntBad n then 1 else chkNs (some n) r
 | some b, n :: r => if ntBad n then 1 else if ntOff b n then 1 else chkNs (some n) r
def chkN (l : List Nt) : Int := if 5600 < l.length then 2 else chkNs none l
def prv (l : List Nt) (k : Nat) : Option Nt := if k = 0 then none else l[k - 1]?
def A51 : Ann := fun r => match r with
 | 5 => { slots := [(3, 0)] }
 | 9 => { slots := [(5, 1)] }
 | _ => {}
set_option maxHeartbeats 8000000 in
set_option maxRecDepth 100000 in
theorem checkNotes_spec (l : List Nt) (hl : l.length ≤ 9223372036854775807) : PRet C.P 51 [ntsA l] (.int .i64 (chkN l)) := by
 unfold chkN
 by_cases c0 : 5600 < l.length
 ·rw [if_pos c0]
  refine pret_of ok mixed (A := A51) 2 Try.func51 rfl ?_
  (repeat' (first | exact rfl | ((conv => whnf); first | exact rfl | refine ⟨by kernel_rfl, ?_⟩ | exact ⟨rfl, rfl⟩ | refine go0 ?_ | (intro ep) | (refine ifB (fun hb => ?_) (fun hb => ?_) <;> (try simp only [qs] at hb) <;> (try simp (disch := omega) only [wrapI] at hb) <;> (try (exfalso; omega))) | fail)))
 rw [if_neg c0]
 obtain ⟨R, hR⟩ : ∃ R, R = chkNs none l := ⟨_, rfl⟩
 rw [← hR]
 refine pret_of ok mixed (A := A51) 2 Try.func51 rfl ?_
 (repeat' (first | exact rfl | ((conv => whnf); first | exact rfl | refine ⟨by kernel_rfl, ?_⟩ | exact ⟨rfl, rfl⟩ | refine go0 ?_ | (intro ep) | (refine ifB (fun hb => ?_) (fun hb => ?_) <;> (try simp only [qs] at hb) <;> (try simp (disch := omega) only [wrapI] at hb) <;> (try (exfalso; omega))) | fail)))
 all_goals (conv => whnf)
 refine loopY ok mixed (A := A51) [0, 9, 10, 11] [] (S := { k : Nat // k ≤ l.length ∧ chkNs (prv l k) (l.drop k) = R })
  (fr := fun s => frOf 0 96 [(0, ntsA l), (9, ntsA l), (10, .int .i64 (l.length : Int)), (11, .int .i64 (s.1 : Int))])
  (h := fun s => ⟨[.hole, .hole], []⟩) (μ := fun s => l.length - s.1) ⟨0, by simp [hR, prv]⟩ ?_ ?_
  [] [] (S' := { k : Nat // 0 = R }) (X := fun _ => 0) (frX := fun s => frOf 0 96 []) (hX := fun s => ⟨[.hole, .hole], []⟩)
  [2] [] (S2 := { k : Nat // 1 = R }) (frR := fun s => frOf 0 96 [(2, .int .i64 1)]) (hR := fun s => ⟨[.hole, .hole], []⟩) ?_ ?_ ?_
 ·exact rfl
 ·exact rfl
 ·rintro ⟨k, hk, hu⟩
  show aexR _ _ _ (frOf 0 96 [(0, ntsA l), (9, ntsA l), (10, .int .i64 (l.length : Int)), (11, .int .i64 (k : Int))]) ⟨[.hole, .hole], []⟩ _
  (conv => whnf)
  refine ifB (fun g1 => ?_) (fun g1 => ?_)
  ·simp only [decide_eq_true_eq] at g1
   have h1 : k < l.length := by omega
   have hm := mapR (f := ntR) h1
   rw [List.drop_eq_getElem_cons h1] at hu
   have hp : prv l (k + 1) = some l[k] := by unfold prv; rw [if_neg (by omega)]; simp
   obtain ⟨n, hn⟩ : ∃ n, l[k] = n := ⟨_, rfl⟩
   rw [hn] at hu hm hp
   obtain ⟨e, c, p, f, t⟩ := n
   replace hm : (l.map ntR)[0 + ((k : Nat) : Int).toNat]? = some [.int .i64 e, .int .i64 c, .int .i64 p, .int .i64 f, .int .i64 t] := hm
   by_cases c1 : ntBad ⟨e, c, p, f, t⟩
   ·have hu2 : 1 = R := by
     cases hq : prv l k with
     | none => rw [hq, chkNs, if_pos c1] at hu; exact hu
     | some b => rw [hq, chkNs, if_pos c1] at hu; exact hu
    unfold ntBad at c1
    simp only at c1
    by_cases b0 : e < 0 ∨ 399 < e
    ·have w1 := within_f (n := e) (a := 0) (b := 399) b0
     have w2 := w1
     have w3 := w1
     (repeat' (first | exact rfl | ((conv => whnf); first | refine optS hm ?_ | refine ⟨_, w1, ?_⟩ | refine ⟨_, w2, ?_⟩ | refine ⟨_, w3, ?_⟩ | exact rfl | refine ⟨by kernel_rfl, ?_⟩ | exact ⟨rfl, rfl⟩ | refine go0 ?_ | (intro ep) | (refine ifB (fun hb => ?_) (fun hb => ?_) <;> (try simp only [qs] at hb) <;> (try simp (disch := omega) only [wrapI] at hb) <;> (try (exfalso; omega))) | fail)))
     all_goals (conv => whnf)
     all_goals exact back_of ⟨0, hu2⟩ ⟨rfl, rfl⟩
    have w1 := within_t (n := e) (a := 0) (b := 399) (by omega)
    by_cases b1 : c < 1 ∨ 14 < c
    ·have w2 := within_f (n := c) (a := 1) (b := 14) b1
     have w3 := w2
     (repeat' (first | exact rfl | ((conv => whnf); first | refine optS hm ?_ | refine ⟨_, w1, ?_⟩ | refine ⟨_, w2, ?_⟩ | refine ⟨_, w3, ?_⟩ | exact rfl | refine ⟨by kernel_rfl, ?_⟩ | exact ⟨rfl, rfl⟩ | refine go0 ?_ | (intro ep) | (refine ifB (fun hb => ?_) (fun hb => ?_) <;> (try simp only [qs] at hb) <;> (try simp (disch := omega) only [wrapI] at hb) <;> (try (exfalso; omega))) | fail)))
     all_goals (conv => whnf)
     all_goals exact back_of ⟨0, hu2⟩ ⟨rfl, rfl⟩
    have w2 := within_t (n := c) (a := 1) (b := 14) (by omega)
    by_cases b2 : p < 0 ∨ 127 < p
    ·have w3 := within_f (n := p) (a := 0) (b := 127) b2
     (repeat' (first | exact rfl | ((conv => whnf); first | refine optS hm ?_ | refine ⟨_, w1, ?_⟩ | refine ⟨_, w2, ?_⟩ | refine ⟨_, w3, ?_⟩ | exact rfl | refine ⟨by kernel_rfl, ?_⟩ | exact ⟨rfl, rfl⟩ | refine go0 ?_ | (intro ep) | (refine ifB (fun hb => ?_) (fun hb => ?_) <;> (try simp only [qs] at hb) <;> (try simp (disch := omega) only [wrapI] at hb) <;> (try (exfalso; omega))) | fail)))
     all_goals (conv => whnf)
     all_goals exact back_of ⟨0, hu2⟩ ⟨rfl, rfl⟩
    have w3 := within_t (n := p) (a := 0) (b := 127) (by omega)
    (repeat' (first | exact rfl | ((conv => whnf); first | refine optS hm ?_ | refine ⟨_, w1, ?_⟩ | refine ⟨_, w2, ?_⟩ | refine ⟨_, w3, ?_⟩ | exact rfl | refine ⟨by kernel_rfl, ?_⟩ | exact ⟨rfl, rfl⟩ | refine go0 ?_ | (intro ep) | (refine ifB (fun hb => ?_) (fun hb => ?_) <;> (try simp only [qs] at hb) <;> (try simp (disch := omega) only [wrapI] at hb) <;> (try (exfalso; omega))) | fail)))
    all_goals (conv => whnf)
    all_goals exact back_of ⟨0, hu2⟩ ⟨rfl, rfl⟩
   have c1' := c1
   unfold ntBad at c1
   simp only at c1
   have w1 := within_t (n := e) (a := 0) (b := 399) (by omega)
   have w2 := within_t (n := c) (a := 1) (b := 14) (by omega)
   have w3 := within_t (n := p) (a := 0) (b := 127) (by omega)
   cases k with
   | zero =>
    have hu2 : chkNs (some ⟨e, c, p, f, t⟩) (l.drop 1) = R := by
     rw [show prv l 0 = none from rfl, chkNs, if_neg c1'] at hu; exact hu
    (repeat' (first | exact rfl | ((conv => whnf); first | refine optS hm ?_ | refine ⟨_, w1, ?_⟩ | refine ⟨_, w2, ?_⟩ | refine ⟨_, w3, ?_⟩ | exact rfl | refine ⟨by kernel_rfl, ?_⟩ | exact ⟨rfl, rfl⟩ | refine go0 ?_ | (intro ep) | (refine ifB (fun hb => ?_) (fun hb => ?_) <;> (try simp only [qs] at hb) <;> (try simp (disch := omega) only [wrapI] at hb) <;> (try (exfalso; omega))) | fail)))
    all_goals (conv => whnf)
    all_goals exact back_of ⟨1, by omega, by rw [hp]; exact hu2⟩ ⟨by (first | exact rfl | (simp (disch := omega) only [wrapI]; exact rfl)), rfl, by simp only; omega⟩
   | succ j =>
    have h2 : j < l.length := by omega
    have hm2 := mapR (f := ntR) h2
    have hq : prv l (j + 1) = some l[j] := by unfold prv; rw [if_neg (by omega)]; simp
    rw [hq] at hu
    generalize l[j] = b at hm2 hu
    obtain ⟨e', c', p', f', t'⟩ := b
    replace hm2 : (l.map ntR)[0 + (IntKind.i64.wrap (((j + 1 : Nat) : Int) - 1)).toNat]? = some [.int .i64 e', .int .i64 c', .int .i64 p', .int .i64 f', .int .i64 t'] := by
     rw [wrapI (by omega) (by omega), show ((j + 1 : Nat) : Int) - 1 = (j : Int) by omega]; exact hm2
    rw [chkNs, if_neg c1'] at hu
    by_cases c2 : ntOff ⟨e', c', p', f', t'⟩ ⟨e, c, p, f, t⟩
    ·rw [if_pos c2] at hu
     unfold ntOff at c2
     simp only at c2
     (repeat' (first | exact rfl | ((conv => whnf); first | refine optS hm ?_ | refine optS hm2 ?_ | refine ⟨_, w1, ?_⟩ | refine ⟨_, w2, ?_⟩ | refine ⟨_, w3, ?_⟩ | exact rfl | refine ⟨by kernel_rfl, ?_⟩ | exact ⟨rfl, rfl⟩ | refine go0 ?_ | (intro ep) | (refine ifB (fun hb => ?_) (fun hb => ?_) <;> (try simp only [qs] at hb) <;> (try simp (disch := omega) only [wrapI] at hb) <;> (try (exfalso; omega))) | fail)))
     all_goals (conv => whnf)
     all_goals exact back_of ⟨0, hu⟩ ⟨rfl, rfl⟩
    ·rw [if_neg c2] at hu
     unfold ntOff at c2
     simp only at c2
     (repeat' (first | exact rfl | ((conv => whnf); first | refine optS hm ?_ | refine optS hm2 ?_ | refine ⟨_, w1, ?_⟩ | refine ⟨_, w2, ?_⟩ | refine ⟨_, w3, ?_⟩ | exact rfl | refine ⟨by kernel_rfl, ?_⟩ | exact ⟨rfl, rfl⟩ | refine go0 ?_ | (intro ep) | (refine ifB (fun hb => ?_) (fun hb => ?_) <;> (try simp only [qs] at hb) <;> (try simp (disch := omega) only [wrapI] at hb) <;> (try (exfalso; omega))) | fail)))
     all_goals (conv => whnf)
     all_goals exact back_of ⟨j + 1 + 1, by omega, by rw [hp]; exact hu⟩ ⟨by (first | exact rfl | (simp (disch := omega) only [wrapI]; exact rfl)), rfl, by simp only; omega⟩
  ·simp only [decide_eq_false_iff_not] at g1
   rw [List.drop_eq_nil_of_le (by omega)] at hu
   have hu2 : 0 = R := by
    cases hq : prv l k with
    | none => rw [hq, chkNs] at hu; exact hu
    | some b => rw [hq, chkNs] at hu; exact hu
   (repeat' (first | exact rfl | ((conv => whnf); first | exact rfl | refine ⟨by kernel_rfl, ?_⟩ | exact ⟨rfl, rfl⟩ | refine go0 ?_ | (intro ep) | fail)))
   all_goals (conv => whnf)
   exact back_of ⟨0, hu2⟩ ⟨rfl, rfl, rfl⟩
 ·rintro ⟨x, hx⟩
  (repeat' (first | exact rfl | ((conv => whnf); first | exact rfl | refine ⟨by kernel_rfl, ?_⟩ | exact ⟨rfl, rfl⟩ | refine go0 ?_ | (intro ep) | fail)))
  all_goals (conv => whnf)
  all_goals (subst hx; rfl)
 ·rintro ⟨x, hx⟩
  (repeat' (first | exact rfl | ((conv => whnf); first | exact rfl | refine ⟨by kernel_rfl, ?_⟩ | exact ⟨rfl, rfl⟩ | refine go0 ?_ | (intro ep) | fail)))
  all_goals (conv => whnf)
  all_goals (subst hx; rfl)
end Go.Ab.V

namespace Go.Ab.V
open Go.Proofs
end Go.Ab.V

namespace Go.Ab.V
open Go.Proofs
def A20 : Ann := fun r => match r with
 | 0 => { slots := [(0, 0)] }
 | _ => {}
set_option maxHeartbeats 8000000 in
set_option maxRecDepth 100000 in
theorem refCheck_spec (x : Lm) (hl : x.lo.length ≤ 9223372036854775807) (hh : x.hi.length ≤ 9223372036854775807) : PRet C.P 20 [lmA x] (.int .i64 (chkL x)) := by
 obtain ⟨lo, hi, leap, gap, cross⟩ := x
 simp only at hl hh
 unfold chkL
 simp only
 by_cases c1 : lo.length < 1 ∨ 5 < lo.length
 ·rw [if_pos c1]
  refine pret_of ok mixed (A := A20) 1 Try.func20 rfl ?_
  (repeat' (first | exact rfl | ((conv => whnf); first | exact rfl | refine ⟨by kernel_rfl, ?_⟩ | exact ⟨rfl, rfl⟩ | refine go0 ?_ | (intro ep) | (refine ifB (fun hb => ?_) (fun hb => ?_) <;> (try simp only [qs] at hb) <;> (try simp (disch := omega) only [wrapI] at hb) <;> (try (exfalso; omega))) | fail)))
 rw [if_neg c1]
 by_cases c2 : hi.length ≠ lo.length
 ·rw [if_pos c2]
  refine pret_of ok mixed (A := A20) 1 Try.func20 rfl ?_
  (repeat' (first | exact rfl | ((conv => whnf); first | exact rfl | refine ⟨by kernel_rfl, ?_⟩ | exact ⟨rfl, rfl⟩ | refine go0 ?_ | (intro ep) | (refine ifB (fun hb => ?_) (fun hb => ?_) <;> (try simp only [qs] at hb) <;> (try simp (disch := omega) only [wrapI] at hb) <;> (try (exfalso; omega))) | fail)))
 rw [if_neg c2]
 by_cases c3 : leap < 0 ∨ 127 < leap
 ·rw [if_pos c3]
  refine pret_of ok mixed (A := A20) 1 Try.func20 rfl ?_
  (repeat' (first | exact rfl | ((conv => whnf); first | exact rfl | refine ⟨by kernel_rfl, ?_⟩ | exact ⟨rfl, rfl⟩ | refine go0 ?_ | (intro ep) | (refine ifB (fun hb => ?_) (fun hb => ?_) <;> (try simp only [qs] at hb) <;> (try simp (disch := omega) only [wrapI] at hb) <;> (try (exfalso; omega))) | fail)))
 rw [if_neg c3]
 by_cases c4 : gap < 0 ∨ 262144 < gap
 ·rw [if_pos c4]
  refine pret_of ok mixed (A := A20) 1 Try.func20 rfl ?_
  (repeat' (first | exact rfl | ((conv => whnf); first | exact rfl | refine ⟨by kernel_rfl, ?_⟩ | exact ⟨rfl, rfl⟩ | refine go0 ?_ | (intro ep) | (refine ifB (fun hb => ?_) (fun hb => ?_) <;> (try simp only [qs] at hb) <;> (try simp (disch := omega) only [wrapI] at hb) <;> (try (exfalso; omega))) | fail)))
 rw [if_neg c4]
 by_cases c5 : cross < 0 ∨ 10 < cross
 ·rw [if_pos c5]
  refine pret_of ok mixed (A := A20) 1 Try.func20 rfl ?_
  (repeat' (first | exact rfl | ((conv => whnf); first | exact rfl | refine ⟨by kernel_rfl, ?_⟩ | exact ⟨rfl, rfl⟩ | refine go0 ?_ | (intro ep) | (refine ifB (fun hb => ?_) (fun hb => ?_) <;> (try simp only [qs] at hb) <;> (try simp (disch := omega) only [wrapI] at hb) <;> (try (exfalso; omega))) | fail)))
 rw [if_neg c5]
 obtain ⟨R, hR⟩ : ∃ R, R = prs lo hi := ⟨_, rfl⟩
 rw [← hR]
 refine pret_of ok mixed (A := A20) 1 Try.func20 rfl ?_
 (conv => whnf)
 intro e0
 (repeat' (first | exact rfl | ((conv => whnf); first | exact rfl | refine ⟨by kernel_rfl, ?_⟩ | exact ⟨rfl, rfl⟩ | refine go0 ?_ | (intro ep) | (refine ifB (fun hb => ?_) (fun hb => ?_) <;> (try simp only [qs] at hb) <;> (try simp (disch := omega) only [wrapI] at hb) <;> (try (exfalso; omega))) | fail)))
 all_goals (conv => whnf)
 refine loopY ok mixed (A := A20) [1, 3, 4] [0] (S := { k : Nat // k ≤ lo.length ∧ prs (lo.drop k) (hi.drop k) = R })
  (fr := fun s => frOf 0 83 [(1, .optr (.s 0) e0 5 0 0), (3, .int .i64 (lo.length : Int)), (4, .int .i64 (s.1 : Int))])
  (h := fun s => ⟨[.vec e0 [lmR ⟨lo, hi, leap, gap, cross⟩]], []⟩) (μ := fun s => lo.length - s.1) ⟨0, by simp [hR]⟩ ?_ ?_
  [] [] (S' := { k : Nat // 0 = R }) (X := fun _ => 0) (frX := fun s => frOf 0 83 []) (hX := fun s => ⟨[.hole], []⟩)
  [2] [] (S2 := { k : Nat // 70 = R }) (frR := fun s => frOf 0 83 [(2, .int .i64 70)]) (hR := fun s => ⟨[.hole], []⟩) ?_ ?_ ?_
 ·exact rfl
 ·exact rfl
 ·rintro ⟨k, hk, hu⟩
  show aexR _ _ _ (frOf 0 83 [(1, .optr (.s 0) e0 5 0 0), (3, .int .i64 (lo.length : Int)), (4, .int .i64 (k : Int))]) ⟨[.vec e0 [lmR ⟨lo, hi, leap, gap, cross⟩]], []⟩ _
  (conv => whnf)
  refine ifB (fun g1 => ?_) (fun g1 => ?_)
  ·simp only [decide_eq_true_eq] at g1
   have h1 : k < lo.length := by omega
   have h2 : k < hi.length := by omega
   have hm := intsR h1
   have hm2 := intsR h2
   rw [List.drop_eq_getElem_cons h1, List.drop_eq_getElem_cons h2, prs] at hu
   generalize lo[k] = a at hm hu
   generalize hi[k] = b at hm2 hu
   by_cases c6 : a < 0 ∨ b < a ∨ 127 < b
   ·rw [if_pos c6] at hu
    (repeat' (first | exact rfl | ((conv => whnf); first | refine optS hm ?_ | refine optS hm2 ?_ | exact rfl | refine ⟨by kernel_rfl, ?_⟩ | exact ⟨rfl, rfl⟩ | refine go0 ?_ | (intro ep) | (refine ifB (fun hb => ?_) (fun hb => ?_) <;> (try simp only [qs] at hb) <;> (try simp (disch := omega) only [wrapI] at hb) <;> (try (exfalso; omega))) | fail)))
    all_goals (conv => whnf)
    all_goals exact back_of ⟨0, hu⟩ ⟨rfl, rfl⟩
   ·rw [if_neg c6] at hu
    (repeat' (first | exact rfl | ((conv => whnf); first | refine optS hm ?_ | refine optS hm2 ?_ | exact rfl | refine ⟨by kernel_rfl, ?_⟩ | exact ⟨rfl, rfl⟩ | refine go0 ?_ | (intro ep) | (refine ifB (fun hb => ?_) (fun hb => ?_) <;> (try simp only [qs] at hb) <;> (try simp (disch := omega) only [wrapI] at hb) <;> (try (exfalso; omega))) | fail)))
    all_goals (conv => whnf)
    all_goals exact back_of ⟨k + 1, by omega, hu⟩ ⟨by (first | exact rfl | (simp (disch := omega) only [wrapI]; exact rfl)), rfl, by simp only; omega⟩
  ·simp only [decide_eq_false_iff_not] at g1
   rw [List.drop_eq_nil_of_le (by omega), prs] at hu
   ·(repeat' (first | exact rfl | ((conv => whnf); first | exact rfl | refine ⟨by kernel_rfl, ?_⟩ | exact ⟨rfl, rfl⟩ | refine go0 ?_ | (intro ep) | fail)))
    all_goals (conv => whnf)
    exact back_of ⟨0, hu⟩ ⟨rfl, rfl, rfl⟩
   ·intro a r b s h; cases h
 ·rintro ⟨x, hx⟩
  (repeat' (first | exact rfl | ((conv => whnf); first | exact rfl | refine ⟨by kernel_rfl, ?_⟩ | exact ⟨rfl, rfl⟩ | refine go0 ?_ | (intro ep) | fail)))
  all_goals (conv => whnf)
  all_goals (subst hx; rfl)
 ·rintro ⟨x, hx⟩
  (repeat' (first | exact rfl | ((conv => whnf); first | exact rfl | refine ⟨by kernel_rfl, ?_⟩ | exact ⟨rfl, rfl⟩ | refine go0 ?_ | (intro ep) | fail)))
  all_goals (conv => whnf)
  all_goals (subst hx; rfl)
end Go.Ab.V
