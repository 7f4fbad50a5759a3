/-
  What is proved here serves the law's text: each part says its own claim and its conditions. No condition is left open.
-/
import Derived.Test.YtchkiolagohnlaaKX
import Derived.Test.YtchkiolagohnlaaJD
set_option linter.unusedSimpArgs false
set_option linter.unusedVariables false

/-
  Equality of lists, of instruments and of pieces, on both sides. No condition.
-/
namespace Go.Ab.V
open Go.Proofs

/-- two lists, element by element -/
def eqBy {α : Type} (f : α → α → Bool) : List α → List α → Bool
  | [], [] => true
  | a :: l, b :: m => f a b && eqBy f l m
  | _, _ => false
theorem eqBy_len {α : Type} {f : α → α → Bool} : ∀ {l m : List α}, l.length ≠ m.length → eqBy f l m = false
  | [], [], h => absurd rfl h
  | [], _ :: _, _ => rfl
  | _ :: _, [], _ => rfl
  | a :: l, b :: m, h => by
    have := eqBy_len (f := f) (l := l) (m := m) (by simp only [List.length_cons] at h; omega)
    simp [eqBy, this]
theorem eqBy_drop {α : Type} {f : α → α → Bool} {l m : List α} {k : Nat} (h1 : k < l.length) (h2 : k < m.length) :
    eqBy f (l.drop k) (m.drop k) = (f l[k] m[k] && eqBy f (l.drop (k + 1)) (m.drop (k + 1))) := by
  rw [List.drop_eq_getElem_cons h1, List.drop_eq_getElem_cons h2]
  rfl
theorem eqBy_end {α : Type} {f : α → α → Bool} {l m : List α} {k : Nat} (h : l.length = m.length) (hk : l.length ≤ k) {R : Bool} (e : R = eqBy f (l.drop k) (m.drop k)) : R = true := by
  rw [e, List.drop_eq_nil_of_le hk, List.drop_eq_nil_of_le (h ▸ hk)]
  rfl
theorem eqBy_step {α : Type} {f : α → α → Bool} {l m : List α} {k : Nat} (h1 : k < l.length) (h2 : k < m.length) (hf : f l[k] m[k] = true) {R : Bool} (e : R = eqBy f (l.drop k) (m.drop k)) : R = eqBy f (l.drop (k + 1)) (m.drop (k + 1)) := by
  rw [e, eqBy_drop h1 h2, hf, Bool.true_and]
theorem eqBy_not {α : Type} {f : α → α → Bool} {l m : List α} {k : Nat} (h1 : k < l.length) (h2 : k < m.length) (hf : f l[k] m[k] = false) {R : Bool} (e : R = eqBy f (l.drop k) (m.drop k)) : R = false := by
  rw [e, eqBy_drop h1 h2, hf, Bool.false_and]
theorem eqBy_decide {α : Type} [DecidableEq α] : ∀ (l m : List α), eqBy (fun a b => decide (a = b)) l m = decide (l = m)
  | [], [] => by simp [eqBy]
  | [], _ :: _ => by simp [eqBy]
  | _ :: _, [] => by simp [eqBy]
  | a :: l, b :: m => by
    rw [eqBy, eqBy_decide l m]
    by_cases h : a = b <;> by_cases h2 : l = m <;> simp [h, h2]

/-- a state of such a loop: R is what comes out -/
abbrev EqS {α : Type} (f : α → α → Bool) (l m : List α) (R : Bool) : Type := { k : Nat // k ≤ l.length ∧ R = eqBy f (l.drop k) (m.drop k) }

theorem stp_dec (s t : Stp) : (decide (s.c = t.c) && (decide (s.f = t.f) && (decide (s.r = t.r) && (decide (s.g = t.g) && (decide (s.h = t.h) && true))))) = decide (s = t) := by
  cases s; cases t; simp
theorem crs_dec (s t : Crs) : (decide (s.pitch = t.pitch) && (decide (s.frets = t.frets) && ((s.oct == t.oct) && true))) = decide (s = t) := by
  cases s; cases t; simp; rename_i a b c d e f; cases c <;> cases f <;> rfl
theorem bT {x : Bool} (h : (!x) = true) : x = false := by cases x <;> first | rfl | cases h
theorem bF {x : Bool} (h : (!x) = false) : x = true := by cases x <;> first | rfl | cases h

theorem evt_dec (x y : Evt) : decide (x = y) = (x.bar == y.bar && (decide (x.v = y.v) && ((x.d == y.d) && ((x.t == y.t) && true))) && x.tie == y.tie && decide (x.stops = y.stops)) := by
  obtain ⟨a, b, c, d, e, f⟩ := x
  obtain ⟨a', b', c', d', e', f'⟩ := y
  cases a <;> cases a' <;> cases c <;> cases c' <;> cases d <;> cases d' <;> cases e <;> cases e' <;> simp
set_option maxHeartbeats 1000000 in
set_option maxRecDepth 100000 in

def A64 : Ann := fun r => match r with
  | 0 => { slots := [(0, 0), (1, 1)] }
  | _ => {}
set_option maxHeartbeats 1000000 in
set_option maxRecDepth 100000 in
theorem sameIn62_spec (a b : Ins) (ha : a.cs.length ≤ 100000) (ha2 : a.steps.length ≤ 100000) : PRet C.P 64 [inA a, inA b] (.bool (decide (a = b))) := by
  obtain ⟨R, hR⟩ : ∃ R, R = decide (a = b) := ⟨_, rfl⟩
  obtain ⟨R1, hR1⟩ : ∃ R, R = eqBy (fun a b => decide (a = b)) a.cs b.cs := ⟨_, rfl⟩
  obtain ⟨R2, hR2⟩ : ∃ R, R = eqBy (fun a b => decide (a = b)) a.steps b.steps := ⟨_, rfl⟩
  rw [← hR]
  have hRR : R = (R1 && R2) := by rw [hR, hR1, hR2, eqBy_decide, eqBy_decide]; cases a; cases b; simp
  refine pret_of ok mixed (A := A64) 2 Try.func64 rfl ?_
  (conv => whnf)
  intro e0
  (conv => whnf)
  intro e1
  (repeat' (first | exact rfl | ((conv => whnf); first | exact rfl | refine ⟨by kernel_rfl, ?_⟩ | exact ⟨rfl, rfl⟩ | refine ⟨rfl, ?_⟩ | refine ⟨by (first | omega | (simp (disch := omega) only [wrapI]; omega) | (simp (disch := omega) only [wrapI]; simp; omega) | (simp; omega)), ?_⟩ | (intro ep) | refine ifB (fun hb => ?_) (fun hb => ?_) | fail)))
  · refine congrArg AV.bool ?_
    rw [hRR, hR1, eqBy_len (by intro e; simp [e] at hb)]; rfl
  · refine congrArg AV.bool ?_
    rw [hRR, hR2, eqBy_len (l := a.steps) (by intro e; simp [e] at hb), Bool.and_false]
  rename_i hb1
  have hlenR1 : a.cs.length = b.cs.length := by simp at hb1; omega
  have hlenR2 : a.steps.length = b.steps.length := by simp at hb; omega
  (repeat' (first | exact rfl | ((conv => whnf); first | exact rfl | refine ⟨by kernel_rfl, ?_⟩ | exact ⟨rfl, rfl⟩ | refine ⟨rfl, ?_⟩ | refine ⟨by (first | omega | (simp (disch := omega) only [wrapI]; omega) | (simp (disch := omega) only [wrapI]; simp; omega) | (simp; omega)), ?_⟩ | (intro ep) | fail)))
  (conv => whnf)
  refine loopM ok mixed (A := A64) [2, 3, 5] [0, 1] (S := EqS (fun a b => decide (a = b)) (a.cs) (b.cs) R1)
    (fr := fun s => frOf 0 59 [(2, .optr (.s 0) e0 2 0 0), (3, .optr (.s 1) e1 2 0 0), (5, .int .i64 (s.1 : Int))])
    (h := fun s => ⟨[.vec e0 [[crsA a.cs, intsA a.steps]], .vec e1 [[crsA b.cs, intsA b.steps]]], []⟩) (μ := fun s => (a.cs).length - s.1) ⟨0, by omega, hR1⟩ rfl rfl ?_
  rintro ⟨k, hk, he⟩
  show aexR _ _ _ (frOf 0 59 [(2, .optr (.s 0) e0 2 0 0), (3, .optr (.s 1) e1 2 0 0), (5, .int .i64 (k : Int))]) ⟨[.vec e0 [[crsA a.cs, intsA a.steps]], .vec e1 [[crsA b.cs, intsA b.steps]]], []⟩ _
  (repeat' (first | exact rfl | ((conv => whnf); first | exact rfl | refine ⟨by kernel_rfl, ?_⟩ | exact ⟨rfl, rfl⟩ | refine ⟨rfl, ?_⟩ | refine ⟨by (first | omega | (simp (disch := omega) only [wrapI]; omega) | (simp (disch := omega) only [wrapI]; simp; omega) | (simp; omega)), ?_⟩ | (intro ep) | fail)))
  (conv => whnf)
  refine ifB (fun h1 => ?_) (fun h1 => ?_)
  · simp only [decide_eq_true_eq] at h1
    have h2 : k < (a.cs).length := by omega
    have h3 : k < (b.cs).length := by omega
    
    (repeat' (first | exact rfl | ((conv => whnf); first | exact rfl | refine ⟨by kernel_rfl, ?_⟩ | exact ⟨rfl, rfl⟩ | refine ⟨rfl, ?_⟩ | refine ⟨by (first | omega | (simp (disch := omega) only [wrapI]; omega) | (simp (disch := omega) only [wrapI]; simp; omega) | (simp; omega)), ?_⟩ | (intro ep) | refine optS (mapR h2) ?_ | refine optS (mapR h3) ?_ | fail)))
    (conv => whnf)
    refine ifB (fun g => ?_) (fun g => ?_)
    · obtain e := eqBy_not h2 h3 ((crs_dec _ _).symm.trans (bT g)) he
      rw [e, Bool.false_and] at hRR
      subst hRR
      (repeat' (first | exact rfl | ((conv => whnf); first | exact rfl | refine ⟨by kernel_rfl, ?_⟩ | exact ⟨rfl, rfl⟩ | refine ⟨rfl, ?_⟩ | refine ⟨by (first | omega | (simp (disch := omega) only [wrapI]; omega) | (simp (disch := omega) only [wrapI]; simp; omega) | (simp; omega)), ?_⟩ | (intro ep) | fail)))
    · (repeat' (first | exact rfl | ((conv => whnf); first | exact rfl | refine ⟨by kernel_rfl, ?_⟩ | exact ⟨rfl, rfl⟩ | refine ⟨rfl, ?_⟩ | refine ⟨by (first | omega | (simp (disch := omega) only [wrapI]; omega) | (simp (disch := omega) only [wrapI]; simp; omega) | (simp; omega)), ?_⟩ | (intro ep) | fail)))
      (conv => whnf)
      refine back_of ⟨k + 1, by omega, eqBy_step h2 h3 ((crs_dec _ _).symm.trans (bF g)) he⟩ ⟨by (first | exact rfl | (simp (disch := omega) only [wrapI]; exact rfl)), rfl, by simp only; omega⟩
  simp only [decide_eq_false_iff_not] at h1
  have e := eqBy_end (f := (fun a b => decide (a = b))) hlenR1 (by omega) he
  rw [e, Bool.true_and] at hRR
  (repeat' (first | exact rfl | ((conv => whnf); first | exact rfl | refine ⟨by kernel_rfl, ?_⟩ | exact ⟨rfl, rfl⟩ | refine ⟨rfl, ?_⟩ | refine ⟨by (first | omega | (simp (disch := omega) only [wrapI]; omega) | (simp (disch := omega) only [wrapI]; simp; omega) | (simp; omega)), ?_⟩ | (intro ep) | fail)))
  (conv => whnf)
  refine loopM ok mixed (A := A64) [2, 3, 6] [0, 1] (S := EqS (fun a b => decide (a = b)) (a.steps) (b.steps) R2)
    (fr := fun s => frOf 0 59 [(2, .optr (.s 0) e0 2 0 0), (3, .optr (.s 1) e1 2 0 0), (6, .int .i64 (s.1 : Int))])
    (h := fun s => ⟨[.vec e0 [[crsA a.cs, intsA a.steps]], .vec e1 [[crsA b.cs, intsA b.steps]]], []⟩) (μ := fun s => (a.steps).length - s.1) ⟨0, by omega, hR2⟩ rfl rfl ?_
  rintro ⟨k, hk, he⟩
  show aexR _ _ _ (frOf 0 59 [(2, .optr (.s 0) e0 2 0 0), (3, .optr (.s 1) e1 2 0 0), (6, .int .i64 (k : Int))]) ⟨[.vec e0 [[crsA a.cs, intsA a.steps]], .vec e1 [[crsA b.cs, intsA b.steps]]], []⟩ _
  (repeat' (first | exact rfl | ((conv => whnf); first | exact rfl | refine ⟨by kernel_rfl, ?_⟩ | exact ⟨rfl, rfl⟩ | refine ⟨rfl, ?_⟩ | refine ⟨by (first | omega | (simp (disch := omega) only [wrapI]; omega) | (simp (disch := omega) only [wrapI]; simp; omega) | (simp; omega)), ?_⟩ | (intro ep) | fail)))
  (conv => whnf)
  refine ifB (fun h1 => ?_) (fun h1 => ?_)
  · simp only [decide_eq_true_eq] at h1
    have h2 : k < (a.steps).length := by omega
    have h3 : k < (b.steps).length := by omega
    
    (repeat' (first | exact rfl | ((conv => whnf); first | exact rfl | refine ⟨by kernel_rfl, ?_⟩ | exact ⟨rfl, rfl⟩ | refine ⟨rfl, ?_⟩ | refine ⟨by (first | omega | (simp (disch := omega) only [wrapI]; omega) | (simp (disch := omega) only [wrapI]; simp; omega) | (simp; omega)), ?_⟩ | (intro ep) | refine optS (intsR h2) ?_ | refine optS (intsR h3) ?_ | fail)))
    (conv => whnf)
    refine ifB (fun g => ?_) (fun g => ?_)
    · obtain e := eqBy_not h2 h3 (by simpa using g) he
      rw [e] at hRR
      subst hRR
      (repeat' (first | exact rfl | ((conv => whnf); first | exact rfl | refine ⟨by kernel_rfl, ?_⟩ | exact ⟨rfl, rfl⟩ | refine ⟨rfl, ?_⟩ | refine ⟨by (first | omega | (simp (disch := omega) only [wrapI]; omega) | (simp (disch := omega) only [wrapI]; simp; omega) | (simp; omega)), ?_⟩ | (intro ep) | fail)))
    · (repeat' (first | exact rfl | ((conv => whnf); first | exact rfl | refine ⟨by kernel_rfl, ?_⟩ | exact ⟨rfl, rfl⟩ | refine ⟨rfl, ?_⟩ | refine ⟨by (first | omega | (simp (disch := omega) only [wrapI]; omega) | (simp (disch := omega) only [wrapI]; simp; omega) | (simp; omega)), ?_⟩ | (intro ep) | fail)))
      (conv => whnf)
      refine back_of ⟨k + 1, by omega, eqBy_step h2 h3 (by simpa using g) he⟩ ⟨by (first | exact rfl | (simp (disch := omega) only [wrapI]; exact rfl)), rfl, by simp only; omega⟩
  simp only [decide_eq_false_iff_not] at h1
  have e := eqBy_end (f := (fun a b => decide (a = b))) hlenR2 (by omega) he
  rw [e] at hRR
  subst hRR
  (repeat' (first | exact rfl | ((conv => whnf); first | exact rfl | refine ⟨by kernel_rfl, ?_⟩ | exact ⟨rfl, rfl⟩ | refine ⟨rfl, ?_⟩ | refine ⟨by (first | omega | (simp (disch := omega) only [wrapI]; omega) | (simp (disch := omega) only [wrapI]; simp; omega) | (simp; omega)), ?_⟩ | (intro ep) | fail)))
def A65 : Ann := fun r => match r with
  | 0 => { slots := [(0, 0), (1, 1)] }
  | _ => {}
set_option maxHeartbeats 1000000 in
set_option maxRecDepth 100000 in
theorem refSameEv_spec (x y : Evt) (hx : x.stops.length ≤ 100000) : PRet C.P 65 [.agg (evR x), .agg (evR y)] (.bool (decide (x = y))) := by
  obtain ⟨R, hR⟩ : ∃ R, R = decide (x = y) := ⟨_, rfl⟩
  obtain ⟨R1, hR1⟩ : ∃ R, R = eqBy (fun a b => decide (a = b)) x.stops y.stops := ⟨_, rfl⟩
  rw [← hR]
  rw [evt_dec, ← eqBy_decide, ← hR1] at hR
  refine pret_of ok mixed (A := A65) 2 Try.func65 rfl ?_
  (conv => whnf)
  intro e0
  (conv => whnf)
  intro e1
  (repeat' (first | exact rfl | ((conv => whnf); first | exact rfl | refine ⟨by kernel_rfl, ?_⟩ | exact ⟨rfl, rfl⟩ | refine ⟨rfl, ?_⟩ | refine ⟨by (first | omega | (simp (disch := omega) only [wrapI]; omega) | (simp (disch := omega) only [wrapI]; simp; omega) | (simp; omega)), ?_⟩ | (intro ep) | refine ifB (fun hb => ?_) (fun hb => ?_) | fail)))
  · refine congrArg AV.bool ?_
    rw [hR, bT hb]; simp
  · refine congrArg AV.bool ?_
    rw [hR, bT hb]; simp
  · refine congrArg AV.bool ?_
    rw [hR, bT hb]; simp
  · refine congrArg AV.bool ?_
    rw [hR, hR1, eqBy_len (by intro e; simp [e] at hb)]; simp
  · rename_i hb3 hb2 hb1
    have hlenR1 : x.stops.length = y.stops.length := by simp at hb; omega
    rw [bF hb3, bF hb2, bF hb1] at hR
    simp only [Bool.true_and] at hR
    (repeat' (first | exact rfl | ((conv => whnf); first | exact rfl | refine ⟨by kernel_rfl, ?_⟩ | exact ⟨rfl, rfl⟩ | refine ⟨rfl, ?_⟩ | refine ⟨by (first | omega | (simp (disch := omega) only [wrapI]; omega) | (simp (disch := omega) only [wrapI]; simp; omega) | (simp; omega)), ?_⟩ | (intro ep) | fail)))
    (conv => whnf)
    refine loopM ok mixed (A := A65) [2, 3, 5] [0, 1] (S := EqS (fun a b => decide (a = b)) (x.stops) (y.stops) R1)
      (fr := fun s => frOf 0 52 [(2, .optr (.s 0) e0 6 0 0), (3, .optr (.s 1) e1 6 0 0), (5, .int .i64 (s.1 : Int))])
      (h := fun s => ⟨[.vec e0 [evR x], .vec e1 [evR y]], []⟩) (μ := fun s => (x.stops).length - s.1) ⟨0, by omega, hR1⟩ rfl rfl ?_
    rintro ⟨k, hk, he⟩
    show aexR _ _ _ (frOf 0 52 [(2, .optr (.s 0) e0 6 0 0), (3, .optr (.s 1) e1 6 0 0), (5, .int .i64 (k : Int))]) ⟨[.vec e0 [evR x], .vec e1 [evR y]], []⟩ _
    (repeat' (first | exact rfl | ((conv => whnf); first | exact rfl | refine ⟨by kernel_rfl, ?_⟩ | exact ⟨rfl, rfl⟩ | refine ⟨rfl, ?_⟩ | refine ⟨by (first | omega | (simp (disch := omega) only [wrapI]; omega) | (simp (disch := omega) only [wrapI]; simp; omega) | (simp; omega)), ?_⟩ | (intro ep) | fail)))
    (conv => whnf)
    refine ifB (fun h1 => ?_) (fun h1 => ?_)
    · simp only [decide_eq_true_eq] at h1
      have h2 : k < (x.stops).length := by omega
      have h3 : k < (y.stops).length := by omega
      
      (repeat' (first | exact rfl | ((conv => whnf); first | exact rfl | refine ⟨by kernel_rfl, ?_⟩ | exact ⟨rfl, rfl⟩ | refine ⟨rfl, ?_⟩ | refine ⟨by (first | omega | (simp (disch := omega) only [wrapI]; omega) | (simp (disch := omega) only [wrapI]; simp; omega) | (simp; omega)), ?_⟩ | (intro ep) | refine optS (mapR h2) ?_ | refine optS (mapR h3) ?_ | fail)))
      (conv => whnf)
      refine ifB (fun g => ?_) (fun g => ?_)
      · obtain e := eqBy_not h2 h3 ((stp_dec _ _).symm.trans (bT g)) he
        rw [e] at hR
        subst hR
        (repeat' (first | exact rfl | ((conv => whnf); first | exact rfl | refine ⟨by kernel_rfl, ?_⟩ | exact ⟨rfl, rfl⟩ | refine ⟨rfl, ?_⟩ | refine ⟨by (first | omega | (simp (disch := omega) only [wrapI]; omega) | (simp (disch := omega) only [wrapI]; simp; omega) | (simp; omega)), ?_⟩ | (intro ep) | fail)))
      · (repeat' (first | exact rfl | ((conv => whnf); first | exact rfl | refine ⟨by kernel_rfl, ?_⟩ | exact ⟨rfl, rfl⟩ | refine ⟨rfl, ?_⟩ | refine ⟨by (first | omega | (simp (disch := omega) only [wrapI]; omega) | (simp (disch := omega) only [wrapI]; simp; omega) | (simp; omega)), ?_⟩ | (intro ep) | fail)))
        (conv => whnf)
        refine back_of ⟨k + 1, by omega, eqBy_step h2 h3 ((stp_dec _ _).symm.trans (bF g)) he⟩ ⟨by (first | exact rfl | (simp (disch := omega) only [wrapI]; exact rfl)), rfl, by simp only; omega⟩
    simp only [decide_eq_false_iff_not] at h1
    have e := eqBy_end (f := (fun a b => decide (a = b))) hlenR1 (by omega) he
    rw [e] at hR
    subst hR
    (repeat' (first | exact rfl | ((conv => whnf); first | exact rfl | refine ⟨by kernel_rfl, ?_⟩ | exact ⟨rfl, rfl⟩ | refine ⟨rfl, ?_⟩ | refine ⟨by (first | omega | (simp (disch := omega) only [wrapI]; omega) | (simp (disch := omega) only [wrapI]; simp; omega) | (simp; omega)), ?_⟩ | (intro ep) | fail)))


theorem pc_dec (p q : Pc) : decide (p = q) = (decide (p.ins = q.ins) && decide (p.evs = q.evs)) := by
  cases p; cases q; simp
structure Pc.Sm2 (p : Pc) : Prop where
  cs : p.ins.cs.length ≤ 100000
  st : p.ins.steps.length ≤ 100000
  ev : p.evs.length ≤ 100000
  sp : ∀ e ∈ p.evs, e.stops.length ≤ 100000
theorem Pc.Sm.two {p : Pc} (h : p.Sm) : p.Sm2 := ⟨by have := h.cs; omega, by have := h.st; omega, by have := h.ev; omega, fun e he => by have := h.sp e he; omega⟩
def A31 : Ann := fun r => match r with
  | 0 => { slots := [(0, 0), (1, 1)] }
  | _ => {}
set_option maxHeartbeats 1000000 in
set_option maxRecDepth 100000 in
theorem refSame_spec (p q : Pc) (hp : p.Sm2) : PRet C.P 31 [pcA p, pcA q] (.bool (decide (p = q))) := by
  obtain ⟨R, hR⟩ : ∃ R, R = decide (p = q) := ⟨_, rfl⟩
  obtain ⟨R1, hR1⟩ : ∃ R, R = eqBy (fun a b => decide (a = b)) p.evs q.evs := ⟨_, rfl⟩
  rw [← hR]
  rw [pc_dec, ← eqBy_decide p.evs, ← hR1] at hR
  have hi := sameIn62_spec p.ins q.ins hp.cs hp.st
  have hle := hp.ev
  refine pret_of ok mixed (A := A31) 2 Try.func31 rfl ?_
  (conv => whnf)
  intro e0
  (conv => whnf)
  intro e1
  (repeat' (first | exact rfl | ((conv => whnf); first | exact rfl | refine ⟨by kernel_rfl, ?_⟩ | exact ⟨rfl, rfl⟩ | refine ⟨rfl, ?_⟩ | refine ⟨by (first | omega | (simp (disch := omega) only [wrapI]; omega) | (simp (disch := omega) only [wrapI]; simp; omega) | (simp; omega)), ?_⟩ | (intro ep) | refine ⟨_, hi, ?_⟩ | refine ifB (fun hb => ?_) (fun hb => ?_) | fail)))
  · refine congrArg AV.bool ?_
    rw [hR, bT hb]; simp
  · refine congrArg AV.bool ?_
    rw [hR, hR1, eqBy_len (by intro e; simp [e] at hb)]; simp
  rename_i hb1
  have hlenR1 : p.evs.length = q.evs.length := by simp at hb; omega
  rw [bF hb1] at hR
  simp only [Bool.true_and] at hR
  (repeat' (first | exact rfl | ((conv => whnf); first | exact rfl | refine ⟨by kernel_rfl, ?_⟩ | exact ⟨rfl, rfl⟩ | refine ⟨rfl, ?_⟩ | refine ⟨by (first | omega | (simp (disch := omega) only [wrapI]; omega) | (simp (disch := omega) only [wrapI]; simp; omega) | (simp; omega)), ?_⟩ | (intro ep) | fail)))
  (conv => whnf)
  refine loopM ok mixed (A := A31) [2, 3, 5] [0, 1] (S := EqS (fun a b => decide (a = b)) (p.evs) (q.evs) R1)
    (fr := fun s => frOf 0 40 [(2, .optr (.s 0) e0 3 0 0), (3, .optr (.s 1) e1 3 0 0), (5, .int .i64 (s.1 : Int))])
    (h := fun s => ⟨[.vec e0 [[crsA p.ins.cs, intsA p.ins.steps, evsA p.evs]], .vec e1 [[crsA q.ins.cs, intsA q.ins.steps, evsA q.evs]]], []⟩) (μ := fun s => (p.evs).length - s.1) ⟨0, by omega, hR1⟩ rfl rfl ?_
  rintro ⟨k, hk, he⟩
  show aexR _ _ _ (frOf 0 40 [(2, .optr (.s 0) e0 3 0 0), (3, .optr (.s 1) e1 3 0 0), (5, .int .i64 (k : Int))]) ⟨[.vec e0 [[crsA p.ins.cs, intsA p.ins.steps, evsA p.evs]], .vec e1 [[crsA q.ins.cs, intsA q.ins.steps, evsA q.evs]]], []⟩ _
  (repeat' (first | exact rfl | ((conv => whnf); first | exact rfl | refine ⟨by kernel_rfl, ?_⟩ | exact ⟨rfl, rfl⟩ | refine ⟨rfl, ?_⟩ | refine ⟨by (first | omega | (simp (disch := omega) only [wrapI]; omega) | (simp (disch := omega) only [wrapI]; simp; omega) | (simp; omega)), ?_⟩ | (intro ep) | fail)))
  (conv => whnf)
  refine ifB (fun h1 => ?_) (fun h1 => ?_)
  · simp only [decide_eq_true_eq] at h1
    have h2 : k < (p.evs).length := by omega
    have h3 : k < (q.evs).length := by omega
    have hF := refSameEv_spec p.evs[k] q.evs[k] (hp.sp _ (List.getElem_mem h2))
    (repeat' (first | exact rfl | ((conv => whnf); first | exact rfl | refine ⟨by kernel_rfl, ?_⟩ | exact ⟨rfl, rfl⟩ | refine ⟨rfl, ?_⟩ | refine ⟨by (first | omega | (simp (disch := omega) only [wrapI]; omega) | (simp (disch := omega) only [wrapI]; simp; omega) | (simp; omega)), ?_⟩ | (intro ep) | refine optS (mapR h2) ?_ | refine optS (mapR h3) ?_ | refine ⟨_, hF, ?_⟩ | fail)))
    (conv => whnf)
    refine ifB (fun g => ?_) (fun g => ?_)
    · obtain e := eqBy_not h2 h3 (bT g) he
      rw [e] at hR
      subst hR
      (repeat' (first | exact rfl | ((conv => whnf); first | exact rfl | refine ⟨by kernel_rfl, ?_⟩ | exact ⟨rfl, rfl⟩ | refine ⟨rfl, ?_⟩ | refine ⟨by (first | omega | (simp (disch := omega) only [wrapI]; omega) | (simp (disch := omega) only [wrapI]; simp; omega) | (simp; omega)), ?_⟩ | (intro ep) | fail)))
    · (repeat' (first | exact rfl | ((conv => whnf); first | exact rfl | refine ⟨by kernel_rfl, ?_⟩ | exact ⟨rfl, rfl⟩ | refine ⟨rfl, ?_⟩ | refine ⟨by (first | omega | (simp (disch := omega) only [wrapI]; omega) | (simp (disch := omega) only [wrapI]; simp; omega) | (simp; omega)), ?_⟩ | (intro ep) | fail)))
      (conv => whnf)
      refine back_of ⟨k + 1, by omega, eqBy_step h2 h3 (bF g) he⟩ ⟨by (first | exact rfl | (simp (disch := omega) only [wrapI]; exact rfl)), rfl, by simp only; omega⟩
  simp only [decide_eq_false_iff_not] at h1
  have e := eqBy_end (f := (fun a b => decide (a = b))) hlenR1 (by omega) he
  rw [e] at hR
  subst hR
  (repeat' (first | exact rfl | ((conv => whnf); first | exact rfl | refine ⟨by kernel_rfl, ?_⟩ | exact ⟨rfl, rfl⟩ | refine ⟨rfl, ?_⟩ | refine ⟨by (first | omega | (simp (disch := omega) only [wrapI]; omega) | (simp (disch := omega) only [wrapI]; simp; omega) | (simp; omega)), ?_⟩ | (intro ep) | fail)))
end Go.Ab.V
