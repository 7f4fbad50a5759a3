/-
  What is proved here serves the law's text: each part says its own claim and its conditions. No condition is left open.
-/
import Derived.Test.YtgnhnapnjmbieaaKI
set_option linter.unusedSimpArgs false
set_option linter.unusedVariables false

/-
  Equality of lists, of instruments and of pieces, on both sides. No condition.
-/
namespace Go.Ab.V
open Go.Proofs

/-- two lists, element by element -/
def eqBy {α : Type} (f : α → α → Bool) : List α → List α → Bool
  | [], [] => true
  | a :: l, b :: m => f a b && eqBy f l m
  | _, _ => false
theorem eqBy_len {α : Type} {f : α → α → Bool} : ∀ {l m : List α}, l.length ≠ m.length → eqBy f l m = false
  | [], [], h => absurd rfl h
  | [], _ :: _, _ => rfl
  | _ :: _, [], _ => rfl
  | a :: l, b :: m, h => by
    have := eqBy_len (f := f) (l := l) (m := m) (by simp only [List.length_cons] at h; omega)
    simp [eqBy, this]
theorem eqBy_drop {α : Type} {f : α → α → Bool} {l m : List α} {k : Nat} (h1 : k < l.length) (h2 : k < m.length) :
    eqBy f (l.drop k) (m.drop k) = (f l[k] m[k] && eqBy f (l.drop (k + 1)) (m.drop (k + 1))) := by
  rw [List.drop_eq_getElem_cons h1, List.drop_eq_getElem_cons h2]
  rfl
theorem eqBy_end {α : Type} {f : α → α → Bool} {l m : List α} {k : Nat} (h : l.length = m.length) (hk : l.length ≤ k) {R : Bool} (e : R = eqBy f (l.drop k) (m.drop k)) : R = true := by
  rw [e, List.drop_eq_nil_of_le hk, List.drop_eq_nil_of_le (h ▸ hk)]
  rfl
theorem eqBy_step {α : Type} {f : α → α → Bool} {l m : List α} {k : Nat} (h1 : k < l.length) (h2 : k < m.length) (hf : f l[k] m[k] = true) {R : Bool} (e : R = eqBy f (l.drop k) (m.drop k)) : R = eqBy f (l.drop (k + 1)) (m.drop (k + 1)) := by
  rw [e, eqBy_drop h1 h2, hf, Bool.true_and]
theorem eqBy_not {α : Type} {f : α → α → Bool} {l m : List α} {k : Nat} (h1 : k < l.length) (h2 : k < m.length) (hf : f l[k] m[k] = false) {R : Bool} (e : R = eqBy f (l.drop k) (m.drop k)) : R = false := by
  rw [e, eqBy_drop h1 h2, hf, Bool.false_and]
/-- a state of such a loop: R is what comes out -/
abbrev EqS {α : Type} (f : α → α → Bool) (l m : List α) (R : Bool) : Type := { k : Nat // k ≤ l.length ∧ R = eqBy f (l.drop k) (m.drop k) }

theorem bT {x : Bool} (h : (!x) = true) : x = false := by cases x <;> first | rfl | cases h
theorem bF {x : Bool} (h : (!x) = false) : x = true := by cases x <;> first | rfl | cases h

end Go.Ab.V

/-
  Equality of pieces, on both sides: the functions that compare. No condition but the machine's bounds on lengths.
-/
namespace Go.Ab.V
open Go.Proofs

end Go.Ab.V

/-
  Equality of pieces, on both sides: the functions that compare. No condition but the machine's bounds on lengths.
-/
namespace Go.Ab.V
open Go.Proofs

structure Pc.Sm2 (p : Pc) : Prop where
  cs : p.ins.cs.length ≤ 100000
  st : p.ins.steps.length ≤ 100000
  ev : p.evs.length ≤ 100000
  sp : ∀ e ∈ p.evs, e.stops.length ≤ 100000
theorem Pc.Sm.two {p : Pc} (h : p.Sm) : p.Sm2 := ⟨by have := h.cs; omega, by have := h.st; omega, by have := h.ev; omega, fun e he => by have := h.sp e he; omega⟩
def A43 : Ann := fun r => match r with
  | 0 => { slots := [(0, 0), (1, 1)] }
  | _ => {}
def plB (s t : Stp) : Bool := decide (s.c = t.c) && decide (s.f = t.f)
theorem plB_eq (s t : Stp) : plB s t = (s.c == t.c && s.f == t.f) := by unfold plB; rfl
def A53 : Ann := fun r => match r with
  | 0 => { slots := [(0, 0), (1, 1)] }
  | _ => {}
set_option maxHeartbeats 1000000 in
set_option maxRecDepth 100000 in
theorem samePlaces_spec (x y : Evt) (hx : x.stops.length ≤ 100000) : PRet C.P 53 [.agg (evR x), .agg (evR y)] (.bool (eqBy plB x.stops y.stops)) := by
  obtain ⟨R1, hR1⟩ : ∃ R, R = eqBy plB x.stops y.stops := ⟨_, rfl⟩
  rw [← hR1]
  refine pret_of ok mixed (A := A53) 2 Try.func53 rfl ?_
  (conv => whnf)
  intro e0
  (conv => whnf)
  intro e1
  (repeat' (first | exact rfl | ((conv => whnf); first | exact rfl | refine ⟨by kernel_rfl, ?_⟩ | exact ⟨rfl, rfl⟩ | refine ⟨rfl, ?_⟩ | refine ⟨by (first | omega | (simp (disch := omega) only [wrapI]; omega) | (simp (disch := omega) only [wrapI]; simp; omega) | (simp; omega)), ?_⟩ | (intro ep) | refine ifB (fun hb => ?_) (fun hb => ?_) | fail)))
  · refine congrArg AV.bool ?_
    rw [hR1, eqBy_len (by intro e; simp [e] at hb)]
  have hlenR1 : x.stops.length = y.stops.length := by simp at hb; omega
  (conv => whnf)
  refine loopM ok mixed (A := A53) [2, 3, 5] [0, 1] (S := EqS plB (x.stops) (y.stops) R1)
    (fr := fun s => frOf 0 48 [(2, .optr (.s 0) e0 6 0 0), (3, .optr (.s 1) e1 6 0 0), (5, .int .i64 (s.1 : Int))])
    (h := fun s => ⟨[.vec e0 [evR x], .vec e1 [evR y]], []⟩) (μ := fun s => (x.stops).length - s.1) ⟨0, by omega, hR1⟩ rfl rfl ?_
  rintro ⟨k, hk, he⟩
  show aexR _ _ _ (frOf 0 48 [(2, .optr (.s 0) e0 6 0 0), (3, .optr (.s 1) e1 6 0 0), (5, .int .i64 (k : Int))]) ⟨[.vec e0 [evR x], .vec e1 [evR y]], []⟩ _
  (repeat' (first | exact rfl | ((conv => whnf); first | exact rfl | refine ⟨by kernel_rfl, ?_⟩ | exact ⟨rfl, rfl⟩ | refine ⟨rfl, ?_⟩ | refine ⟨by (first | omega | (simp (disch := omega) only [wrapI]; omega) | (simp (disch := omega) only [wrapI]; simp; omega) | (simp; omega)), ?_⟩ | (intro ep) | fail)))
  (conv => whnf)
  refine ifB (fun h1 => ?_) (fun h1 => ?_)
  · simp only [decide_eq_true_eq] at h1
    have h2 : k < (x.stops).length := by omega
    have h3 : k < (y.stops).length := by omega
    
    (repeat' (first | exact rfl | ((conv => whnf); first | exact rfl | refine ⟨by kernel_rfl, ?_⟩ | exact ⟨rfl, rfl⟩ | refine ⟨rfl, ?_⟩ | refine ⟨by (first | omega | (simp (disch := omega) only [wrapI]; omega) | (simp (disch := omega) only [wrapI]; simp; omega) | (simp; omega)), ?_⟩ | (intro ep) | refine optS (mapR h2) ?_ | refine optS (mapR h3) ?_ | fail)))
    (conv => whnf)
    refine ifB (fun g => ?_) (fun g => ?_)
    · obtain rfl := eqBy_not h2 h3 (by rw [plB_eq]; rw [bT g]; rfl) he
      (repeat' (first | exact rfl | ((conv => whnf); first | exact rfl | refine ⟨by kernel_rfl, ?_⟩ | exact ⟨rfl, rfl⟩ | refine ⟨rfl, ?_⟩ | refine ⟨by (first | omega | (simp (disch := omega) only [wrapI]; omega) | (simp (disch := omega) only [wrapI]; simp; omega) | (simp; omega)), ?_⟩ | (intro ep) | fail)))
    · (repeat' (first | exact rfl | ((conv => whnf); first | exact rfl | refine ⟨by kernel_rfl, ?_⟩ | exact ⟨rfl, rfl⟩ | refine ⟨rfl, ?_⟩ | refine ⟨by (first | omega | (simp (disch := omega) only [wrapI]; omega) | (simp (disch := omega) only [wrapI]; simp; omega) | (simp; omega)), ?_⟩ | (intro ep) | refine optS (mapR h2) ?_ | refine optS (mapR h3) ?_ | refine ifB (fun hb => ?_) (fun hb => ?_) | fail)))
      · refine congrArg AV.bool ?_
        rw [eqBy_not h2 h3 (by rw [plB_eq]; rw [bT hb]; simp) he]
      (conv => whnf)
      refine back_of ⟨k + 1, by omega, eqBy_step h2 h3 (by rw [plB_eq, bF g, bF hb]; rfl) he⟩ ⟨by (first | exact rfl | (simp (disch := omega) only [wrapI]; exact rfl)), rfl, by simp only; omega⟩
  simp only [decide_eq_false_iff_not] at h1
  have e := eqBy_end (f := plB) hlenR1 (by omega) he
  subst e
  (repeat' (first | exact rfl | ((conv => whnf); first | exact rfl | refine ⟨by kernel_rfl, ?_⟩ | exact ⟨rfl, rfl⟩ | refine ⟨rfl, ?_⟩ | refine ⟨by (first | omega | (simp (disch := omega) only [wrapI]; omega) | (simp (disch := omega) only [wrapI]; simp; omega) | (simp; omega)), ?_⟩ | (intro ep) | fail)))

end Go.Ab.V

/-
  Equality of pieces, on both sides: the functions that compare. No condition but the machine's bounds on lengths.
-/
namespace Go.Ab.V
open Go.Proofs

end Go.Ab.V
