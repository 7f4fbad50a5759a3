/-
  What is proved here serves the law's text: each part says its own claim and its conditions. No condition is left open.
-/
import Derived.Test.YtchkiolagohnlaaGreatKM
set_option linter.unusedSimpArgs false
set_option linter.unusedVariables false

/-
  The ticks of a sign, as the program and as the document say it. No condition.
-/
namespace Go.Ab.V
open Go.Proofs

/-- a sign -/
abbrev sg (v : Int) (d t : Bool) : AV := .agg [.int .i64 v, .bool d, .bool t]

def ticks (v : Int) (d t : Bool) : Int :=
  if v < 1 ∨ 7 < v ∨ (d && t) = true then 0 else
    let n : Int := if v = 1 then 384 else if v = 2 then 192 else if v = 3 then 96 else if v = 4 then 48 else if v = 5 then 24 else if v = 6 then 12 else 6
    if d = true then n / 2 * 3 else if t = true then n / 3 * 2 else n

def A29 : Ann := fun r => match r with
  | 0 => { slots := [(0, 0)] }
  | _ => {}

theorem seven {v : Int} (h1 : ¬ v < 1) (h2 : ¬ 7 < v) : v = 1 ∨ v = 2 ∨ v = 3 ∨ v = 4 ∨ v = 5 ∨ v = 6 ∨ v = 7 := by omega

theorem ticks_spec (v : Int) (d t : Bool) : PRet C.P 29 [sg v d t] (.int .i64 (ticks v d t)) := by
  by_cases h1 : v < 1
  · refine pret_of ok mixed (A := A29) 1 Tryz.func29 rfl ?_
    (repeat ((conv => whnf); first | exact rfl | exact ⟨rfl, rfl⟩ | refine ⟨rfl, ?_⟩ | refine ⟨by decide, ?_⟩ | refine ⟨by kernel_rfl, ?_⟩ | (intro ep)))
    conv => whnf
    rw [decide_eq_true h1]
    exact ⟨rfl, by simp [ticks, h1]⟩
  by_cases h2 : 7 < v
  · refine pret_of ok mixed (A := A29) 1 Tryz.func29 rfl ?_
    (repeat ((conv => whnf); first | exact rfl | exact ⟨rfl, rfl⟩ | refine ⟨rfl, ?_⟩ | refine ⟨by decide, ?_⟩ | refine ⟨by kernel_rfl, ?_⟩ | (intro ep)))
    conv => whnf
    rw [decide_eq_false h1]
    (repeat ((conv => whnf); first | exact rfl | exact ⟨rfl, rfl⟩ | refine ⟨rfl, ?_⟩ | refine ⟨by decide, ?_⟩ | refine ⟨by kernel_rfl, ?_⟩ | (intro ep)))
    conv => whnf
    rw [show decide (v > 7) = true from decide_eq_true h2]
    exact ⟨rfl, by simp [ticks, h2]⟩
  rcases seven h1 h2 with rfl | rfl | rfl | rfl | rfl | rfl | rfl <;> cases d <;> cases t <;>
    (refine pret_of ok mixed (A := A29) 1 Tryz.func29 rfl ?_; (repeat ((conv => whnf); first | exact rfl | exact ⟨rfl, rfl⟩ | refine ⟨rfl, ?_⟩ | refine ⟨by decide, ?_⟩ | refine ⟨by kernel_rfl, ?_⟩ | (intro ep))))

end Go.Ab.V

/-
  Whether a sign is valid, and its ticks, in the document's words. No condition.
-/
namespace Go.Ab.V
open Go.Proofs

def right (v : Int) (d t : Bool) : Bool :=
  if v = 0 then !d && !t else decide (1 ≤ v) && decide (v ≤ 7) && !(d && t)

theorem right_spec (v : Int) (d t : Bool) : PRet C.P 35 [sg v d t] (.bool (right v d t)) := by
  refine pret_of ok mixed (A := A29) 1 Tryz.func35 rfl ?_
  (repeat ((conv => whnf); first | exact rfl | exact ⟨rfl, rfl⟩ | refine ⟨rfl, ?_⟩ | refine ⟨by decide, ?_⟩ | refine ⟨by kernel_rfl, ?_⟩ | (intro ep)))
  conv => whnf
  refine ifB (fun h0 => ?_) (fun h0 => ?_)
  · simp only [beq_iff_eq] at h0
    subst h0
    cases d <;> cases t <;> (repeat ((conv => whnf); first | exact rfl | exact ⟨rfl, rfl⟩ | refine ⟨rfl, ?_⟩ | refine ⟨by decide, ?_⟩ | refine ⟨by kernel_rfl, ?_⟩ | (intro ep)))
  simp only [beq_eq_false_iff_ne, ne_eq] at h0
  (repeat ((conv => whnf); first | exact rfl | exact ⟨rfl, rfl⟩ | refine ⟨rfl, ?_⟩ | refine ⟨by decide, ?_⟩ | refine ⟨by kernel_rfl, ?_⟩ | (intro ep)))
  conv => whnf
  refine ifB (fun h1 => ?_) (fun h1 => ?_)
  · (repeat ((conv => whnf); first | exact rfl | exact ⟨rfl, rfl⟩ | refine ⟨rfl, ?_⟩ | refine ⟨by decide, ?_⟩ | refine ⟨by kernel_rfl, ?_⟩ | (intro ep)))
    conv => whnf
    refine ifB (fun h2 => ?_) (fun h2 => ?_)
    · cases d <;> cases t <;> (repeat ((conv => whnf); first | exact rfl | exact ⟨rfl, rfl⟩ | refine ⟨rfl, ?_⟩ | refine ⟨by decide, ?_⟩ | refine ⟨by kernel_rfl, ?_⟩ | (intro ep)))
      all_goals (conv => whnf); simp_all [right]
    · refine ⟨rfl, ?_⟩
      simp_all [right]
      intros; exfalso; omega
  · refine ⟨rfl, ?_⟩
    simp_all [right]
    intros; exfalso; omega

end Go.Ab.V

/-
  Pieces as plain data, and as values; the check of an instrument. No condition.
-/
namespace Go.Ab.V
open Go.Proofs

structure Stp where
  c : Int
  f : Int
  r : Int
  g : Int
  h : Int
  deriving DecidableEq
structure Evt where
  bar : Bool
  v : Int
  d : Bool
  t : Bool
  tie : Bool
  stops : List Stp
  deriving DecidableEq
structure Crs where
  pitch : Int
  frets : Int
  oct : Bool
  deriving DecidableEq
structure Ins where
  cs : List Crs
  steps : List Int
  deriving DecidableEq
structure Pc where
  ins : Ins
  evs : List Evt
  deriving DecidableEq

def ints (l : List Int) : List (List AV) := l.map fun x => [.int .i64 x]
def stR (s : Stp) : List AV := [.int .i64 s.c, .int .i64 s.f, .int .i64 s.r, .int .i64 s.g, .int .i64 s.h]
def stsA (l : List Stp) : AV := .lslc 5 (l.map stR) 0 l.length false
def evR (e : Evt) : List AV := [.bool e.bar, .int .i64 e.v, .bool e.d, .bool e.t, .bool e.tie, stsA e.stops]
def evsA (l : List Evt) : AV := .lslc 6 (l.map evR) 0 l.length false
def crR (c : Crs) : List AV := [.int .i64 c.pitch, .int .i64 c.frets, .bool c.oct]
def crsA (l : List Crs) : AV := .lslc 3 (l.map crR) 0 l.length false
def intsA (l : List Int) : AV := .lslc 1 (ints l) 0 l.length false
def inA (i : Ins) : AV := .agg [crsA i.cs, intsA i.steps]
def pcA (p : Pc) : AV := .agg [crsA p.ins.cs, intsA p.ins.steps, evsA p.evs]

theorem mapR {α : Type} {f : α → List AV} {l : List α} {i : Nat} (h : i < l.length) : (l.map f)[0 + ((i : Nat) : Int).toNat]? = some (f l[i]) := by
  rw [Nat.zero_add, Int.toNat_natCast, List.getElem?_map, List.getElem?_eq_getElem h]; rfl
theorem intsR {l : List Int} {i : Nat} (h : i < l.length) : (ints l)[0 + ((i : Nat) : Int).toNat]? = some [.int .i64 l[i]] := mapR h

/-- the steps ascend, from 1 to 127 -/
def chkSteps (last : Int) : List Int → Bool
  | [] => true
  | s :: r => decide (last < s) && decide (s ≤ 127) && chkSteps s r
def highest (steps : List Int) (c : Crs) : Int := c.pitch + (if 0 < c.frets then steps.getD (c.frets - 1).toNat 0 else 0) + if c.oct = true then 12 else 0
def chkCs (steps : List Int) : List Crs → Int
  | [] => 0
  | c :: r => if c.frets < 0 ∨ (steps.length : Int) < c.frets then 13 else if c.pitch < 0 ∨ 127 < c.pitch ∨ 127 < highest steps c then 10 else chkCs steps r
def chkIn (i : Ins) : Int := if 14 < i.cs.length ∨ 18 < i.steps.length then 2 else if i.cs.length = 0 then 11 else if chkSteps 0 i.steps = false then 11 else chkCs i.steps i.cs

theorem chkSteps_bd : ∀ (l : List Int) (last : Int), chkSteps last l = true → ∀ x ∈ l, last < x ∧ x ≤ 127 := by
  intro l
  induction l with
  | nil => intro last _ x hx; cases hx
  | cons s r ih =>
    intro last h x hx
    simp only [chkSteps, Bool.and_eq_true, decide_eq_true_eq] at h
    rcases List.mem_cons.1 hx with rfl | hx
    · exact h.1
    · have := ih s h.2 x hx
      omega

def A94 : Ann := fun r => match r with
  | 0 => { slots := [(0, 0), (1, 1)] }
  | _ => {}

set_option maxHeartbeats 1000000 in
set_option maxRecDepth 100000 in
theorem highest_spec (i : Ins) (c : Crs) (h1 : chkSteps 0 i.steps = true) (h2 : 0 ≤ c.frets) (h3 : c.frets ≤ i.steps.length) (hl : i.steps.length ≤ 18) (h4 : 0 ≤ c.pitch) (h5 : c.pitch ≤ 127) :
    PRet C.P 94 [inA i, .agg (crR c)] (.int .i64 (highest i.steps c)) := by
  have hf : 0 < c.frets → ∃ x, (ints i.steps)[0 + (c.frets - 1).toNat]? = some [.int .i64 x] ∧ i.steps.getD (c.frets - 1).toNat 0 = x ∧ 0 < x ∧ x ≤ 127 := by
    intro h
    have hlt : (c.frets - 1).toNat < i.steps.length := by omega
    refine ⟨i.steps[(c.frets - 1).toNat], ?_, ?_, ?_⟩
    · rw [Nat.zero_add]
      simp [ints, hlt]
    · rw [List.getD, List.getElem?_eq_getElem hlt]; rfl
    · exact chkSteps_bd _ _ h1 _ (List.getElem_mem hlt)
  refine pret_of ok mixed (A := A94) 2 Tryz.func94 rfl ?_
  unfold highest
  by_cases hc : 0 < c.frets
  · obtain ⟨x, x1, x2, x3, x4⟩ := hf hc
    rw [if_pos hc, x2]
    (repeat' (first | exact rfl | ((conv => whnf); first | exact rfl | refine ⟨by kernel_rfl, ?_⟩ | exact ⟨rfl, rfl⟩ | refine ⟨rfl, ?_⟩ | refine ⟨by (first | omega | (simp (disch := omega) only [wrapI]; omega) | (simp (disch := omega) only [wrapI]; simp; omega) | (simp; omega)), ?_⟩ | (intro ep) | refine optS (by (try simp (disch := omega) only [wrapI]); exact x1) ?_ | (refine ifB (fun hb => ?_) (fun hb => ?_) <;> (try simp only [decide_eq_true_eq, decide_eq_false_iff_not, beq_iff_eq, beq_eq_false_iff_ne, bne_iff_ne, bne_eq_false_iff_eq, ne_eq, not_false_eq_true, not_true_eq_false, Bool.not_eq_true, Bool.not_eq_true', Bool.not_eq_false', Int.not_lt, Int.not_le] at hb) <;> (try simp (disch := omega) only [wrapI] at hb) <;> (try (exfalso; omega))) | fail)))
    all_goals (simp (disch := omega) only [wrapI]; simp [hb])
  · rw [if_neg hc]
    (repeat' (first | exact rfl | ((conv => whnf); first | exact rfl | refine ⟨by kernel_rfl, ?_⟩ | exact ⟨rfl, rfl⟩ | refine ⟨rfl, ?_⟩ | refine ⟨by (first | omega | (simp (disch := omega) only [wrapI]; omega) | (simp (disch := omega) only [wrapI]; simp; omega) | (simp; omega)), ?_⟩ | (intro ep) | (refine ifB (fun hb => ?_) (fun hb => ?_) <;> (try simp only [decide_eq_true_eq, decide_eq_false_iff_not, beq_iff_eq, beq_eq_false_iff_ne, bne_iff_ne, bne_eq_false_iff_eq, ne_eq, not_false_eq_true, not_true_eq_false, Bool.not_eq_true, Bool.not_eq_true', Bool.not_eq_false', Int.not_lt, Int.not_le] at hb) <;> (try simp (disch := omega) only [wrapI] at hb) <;> (try (exfalso; omega))) | fail)))
    all_goals ((try simp (disch := omega) only [wrapI]); simp [hb])

def A70 : Ann := fun r => match r with
  | 0 => { slots := [(0, 0)] }
  | 15 => { slots := [(2, 1)] }
  | _ => {}

theorem drop_at {α : Type} {l : List α} {i : Nat} (h : i < l.length) : l.drop i = l[i] :: l.drop (i + 1) := List.drop_eq_getElem_cons h

set_option maxHeartbeats 2000000 in
set_option maxRecDepth 100000 in
theorem inCheck_spec (i : Ins) : PRet C.P 70 [inA i] (.int .i64 (chkIn i)) := by
  refine pret_of ok mixed (A := A70) 2 Tryz.func70 rfl ?_
  (repeat' (first | exact rfl | ((conv => whnf); first | exact rfl | refine ⟨by kernel_rfl, ?_⟩ | exact ⟨rfl, rfl⟩ | refine ⟨rfl, ?_⟩ | refine ⟨by (first | omega | (simp (disch := omega) only [wrapI]; omega) | (simp (disch := omega) only [wrapI]; simp; omega) | (simp; omega)), ?_⟩ | (intro ep) | (refine ifB (fun hb => ?_) (fun hb => ?_) <;> (try simp only [decide_eq_true_eq, decide_eq_false_iff_not, beq_iff_eq, beq_eq_false_iff_ne, bne_iff_ne, bne_eq_false_iff_eq, ne_eq, not_false_eq_true, not_true_eq_false, Bool.not_eq_true, Bool.not_eq_true', Bool.not_eq_false', Int.not_lt, Int.not_le] at hb) <;> (try simp (disch := omega) only [wrapI] at hb) <;> (try (exfalso; omega))) | fail)))
  · unfold chkIn; rw [if_pos (by omega)]
  · unfold chkIn; rw [if_pos (by omega)]
  · unfold chkIn; rw [if_neg (by omega), if_pos (by omega)]
  obtain ⟨e0, he0⟩ : ∃ e0, e0 = ep := ⟨_, rfl⟩
  subst he0
  (conv => whnf)
  refine loopM ok mixed (A := A70) [1, 3, 23, 24, 25] [0] (S := { x : Nat × Int // x.1 ≤ i.steps.length ∧ chkSteps x.2 (i.steps.drop x.1) = chkSteps 0 i.steps })
    (fr := fun s => frOf 0 71 [(1, .optr (.s 0) e0 2 0 0), (3, .int .i64 s.1.2), (23, intsA i.steps), (24, .int .i64 i.steps.length), (25, .int .i64 (s.1.1 : Int))])
    (h := fun s => ⟨[.vec e0 [[crsA i.cs, intsA i.steps]], .hole], []⟩) (μ := fun s => i.steps.length - s.1.1) ⟨(0, 0), by omega, rfl⟩ rfl rfl ?_
  rintro ⟨⟨k, last⟩, hk, hs⟩
  simp only at hk hs
  show aexR _ _ _ (frOf 0 71 [(1, .optr (.s 0) e0 2 0 0), (3, .int .i64 last), (23, intsA i.steps), (24, .int .i64 i.steps.length), (25, .int .i64 (k : Int))]) ⟨[.vec e0 [[crsA i.cs, intsA i.steps]], .hole], []⟩ _
  (conv => whnf)
  refine ifB (fun h1 => ?_) (fun h1 => ?_)
  · simp only [decide_eq_true_eq] at h1
    have hlt : k < i.steps.length := by omega
    rw [drop_at hlt] at hs
    simp only [chkSteps] at hs
    (repeat' (first | exact rfl | ((conv => whnf); first | exact rfl | refine ⟨by kernel_rfl, ?_⟩ | exact ⟨rfl, rfl⟩ | refine ⟨rfl, ?_⟩ | refine ⟨by (first | omega | (simp (disch := omega) only [wrapI]; omega) | (simp (disch := omega) only [wrapI]; simp; omega) | (simp; omega)), ?_⟩ | (intro ep) | refine optS (intsR hlt) ?_ | (refine ifB (fun hb => ?_) (fun hb => ?_) <;> (try simp only [decide_eq_true_eq, decide_eq_false_iff_not, beq_iff_eq, beq_eq_false_iff_ne, bne_iff_ne, bne_eq_false_iff_eq, ne_eq, not_false_eq_true, not_true_eq_false, Bool.not_eq_true, Bool.not_eq_true', Bool.not_eq_false', Int.not_lt, Int.not_le] at hb) <;> (try simp (disch := omega) only [wrapI] at hb) <;> (try (exfalso; omega))) | fail)))
    · rw [decide_eq_false (by omega)] at hs
      unfold chkIn; rw [if_neg (by omega), if_neg (by omega), if_pos (by rw [← hs]; simp)]
    · rw [decide_eq_false (show ¬ i.steps[k] ≤ 127 by omega)] at hs
      unfold chkIn; rw [if_neg (by omega), if_neg (by omega), if_pos (by rw [← hs]; simp)]
    · rw [decide_eq_true (by omega), decide_eq_true (by omega)] at hs
      refine back_of ⟨(k + 1, i.steps[k]), by omega, by simpa using hs⟩ ⟨by (first | exact rfl | (simp (disch := omega) only [wrapI]; exact rfl)), rfl, by simp only; omega⟩
  simp only [decide_eq_false_iff_not] at h1
  have hS : chkSteps 0 i.steps = true := by rw [← hs, List.drop_eq_nil_of_le (by omega)]; rfl
  (repeat' (first | exact rfl | ((conv => whnf); first | exact rfl | refine ⟨by kernel_rfl, ?_⟩ | exact ⟨rfl, rfl⟩ | refine ⟨rfl, ?_⟩ | refine ⟨by (first | omega | (simp (disch := omega) only [wrapI]; omega) | (simp (disch := omega) only [wrapI]; simp; omega) | (simp; omega)), ?_⟩ | (intro ep) | (refine ifB (fun hb => ?_) (fun hb => ?_) <;> (try simp only [decide_eq_true_eq, decide_eq_false_iff_not, beq_iff_eq, beq_eq_false_iff_ne, bne_iff_ne, bne_eq_false_iff_eq, ne_eq, not_false_eq_true, not_true_eq_false, Bool.not_eq_true, Bool.not_eq_true', Bool.not_eq_false', Int.not_lt, Int.not_le] at hb) <;> (try simp (disch := omega) only [wrapI] at hb) <;> (try (exfalso; omega))) | fail)))
  (conv => whnf)
  refine loopM ok mixed (A := A70) [1, 39, 40, 41] [0] (S := { k : Nat // k ≤ i.cs.length ∧ chkCs i.steps (i.cs.drop k) = chkCs i.steps i.cs })
    (fr := fun s => frOf 0 71 [(1, .optr (.s 0) e0 2 0 0), (39, crsA i.cs), (40, .int .i64 i.cs.length), (41, .int .i64 (s.1 : Int))])
    (h := fun s => ⟨[.vec e0 [[crsA i.cs, intsA i.steps]], .hole], []⟩) (μ := fun s => i.cs.length - s.1) ⟨0, by omega, rfl⟩ rfl rfl ?_
  have hA : chkIn i = chkCs i.steps i.cs := by unfold chkIn; rw [if_neg (by omega), if_neg (by omega), if_neg (by rw [hS]; simp)]
  rw [hA]
  rintro ⟨k, hk, hs⟩
  show aexR _ _ _ (frOf 0 71 [(1, .optr (.s 0) e0 2 0 0), (39, crsA i.cs), (40, .int .i64 i.cs.length), (41, .int .i64 (k : Int))]) ⟨[.vec e0 [[crsA i.cs, intsA i.steps]], .hole], []⟩ _
  (conv => whnf)
  refine ifB (fun h1 => ?_) (fun h1 => ?_)
  · simp only [decide_eq_true_eq] at h1
    have hlt : k < i.cs.length := by omega
    rw [drop_at hlt] at hs
    simp only [chkCs] at hs
    (repeat' (first | exact rfl | ((conv => whnf); first | exact rfl | refine ⟨by kernel_rfl, ?_⟩ | exact ⟨rfl, rfl⟩ | refine ⟨rfl, ?_⟩ | refine ⟨by (first | omega | (simp (disch := omega) only [wrapI]; omega) | (simp (disch := omega) only [wrapI]; simp; omega) | (simp; omega)), ?_⟩ | (intro ep) | refine optS (mapR hlt) ?_ | refine ⟨_, highest_spec i i.cs[k] hS (by omega) (by omega) (by omega) (by omega) (by omega), ?_⟩ | (refine ifB (fun hb => ?_) (fun hb => ?_) <;> (try simp only [decide_eq_true_eq, decide_eq_false_iff_not, beq_iff_eq, beq_eq_false_iff_ne, bne_iff_ne, bne_eq_false_iff_eq, ne_eq, not_false_eq_true, not_true_eq_false, Bool.not_eq_true, Bool.not_eq_true', Bool.not_eq_false', Int.not_lt, Int.not_le] at hb) <;> (try simp (disch := omega) only [wrapI] at hb) <;> (try (exfalso; omega))) | fail)))
    · rw [← hs, if_pos (by omega)]
    · rw [← hs, if_pos (by omega)]
    · rw [← hs, if_neg (by omega), if_pos (by omega)]
    · rw [← hs, if_neg (by omega), if_pos (by omega)]
    · rw [← hs, if_neg (by omega), if_pos (by omega)]
    · rw [if_neg (by omega), if_neg (by omega)] at hs
      refine back_of ⟨k + 1, by omega, hs⟩ ⟨by (first | exact rfl | (simp (disch := omega) only [wrapI]; exact rfl)), rfl, by simp only; omega⟩
  · simp only [decide_eq_false_iff_not] at h1
    have h0 : chkCs i.steps i.cs = 0 := by rw [← hs, List.drop_eq_nil_of_le (by omega)]; rfl
    (repeat' (first | exact rfl | ((conv => whnf); first | exact rfl | refine ⟨by kernel_rfl, ?_⟩ | exact ⟨rfl, rfl⟩ | refine ⟨rfl, ?_⟩ | refine ⟨by (first | omega | (simp (disch := omega) only [wrapI]; omega) | (simp (disch := omega) only [wrapI]; simp; omega) | (simp; omega)), ?_⟩ | (intro ep) | (refine ifB (fun hb => ?_) (fun hb => ?_) <;> (try simp only [decide_eq_true_eq, decide_eq_false_iff_not, beq_iff_eq, beq_eq_false_iff_ne, bne_iff_ne, bne_eq_false_iff_eq, ne_eq, not_false_eq_true, not_true_eq_false, Bool.not_eq_true, Bool.not_eq_true', Bool.not_eq_false', Int.not_lt, Int.not_le] at hb) <;> (try simp (disch := omega) only [wrapI] at hb) <;> (try (exfalso; omega))) | fail)))
    rw [h0]

end Go.Ab.V

/-
  Rests, stops on a course, holds. No condition.
-/
namespace Go.Ab.V
open Go.Proofs

def hasC (l : List Stp) (c : Int) : Bool := l.any fun s => s.c == c
def restE (e : Evt) : Bool := decide (e.stops.length = 0) && !e.tie

def A34 : Ann := fun r => match r with
  | 0 => { slots := [(0, 0)] }
  | _ => {}
def A102 : Ann := fun r => match r with
  | 0 => { slots := [(0, 0), (1, 1)] }
  | _ => {}
def A113 : Ann := fun r => match r with
  | 0 => { slots := [(0, 2)] }
  | _ => {}

theorem isRest_spec (e : Evt) : PRet C.P 34 [.agg (evR e)] (.bool (restE e)) := by
  refine pret_of ok mixed (A := A34) 1 Tryz.func34 rfl ?_
  (repeat' (first | exact rfl | ((conv => whnf); first | exact rfl | refine ⟨by kernel_rfl, ?_⟩ | exact ⟨rfl, rfl⟩ | refine ⟨rfl, ?_⟩ | refine ⟨by (first | omega | (simp (disch := omega) only [wrapI]; omega) | (simp (disch := omega) only [wrapI]; simp; omega) | (simp; omega)), ?_⟩ | (intro ep) | (refine ifB (fun hb => ?_) (fun hb => ?_) <;> (try simp only [decide_eq_true_eq, decide_eq_false_iff_not, beq_iff_eq, beq_eq_false_iff_ne, bne_iff_ne, bne_eq_false_iff_eq, ne_eq, not_false_eq_true, not_true_eq_false, Bool.not_eq_true, Bool.not_eq_true', Bool.not_eq_false', Int.not_lt, Int.not_le] at hb) <;> (try simp (disch := omega) only [wrapI] at hb) <;> (try (exfalso; omega))) | fail)))
  all_goals simp_all [restE]

def A71 : Ann := fun r => match r with
  | 0 => { slots := [(0, 0)] }
  | _ => {}
theorem ticks_pos (v : Int) (d t : Bool) : (0 < ticks v d t) = (1 ≤ v ∧ v ≤ 7 ∧ (d && t) = false) := by
  apply propext
  constructor
  · intro h
    unfold ticks at h
    split at h
    · omega
    · rename_i hc
      refine ⟨by omega, by omega, ?_⟩
      cases hdt : (d && t) with
      | false => rfl
      | true => exact absurd (.inr (.inr hdt)) hc
  · rintro ⟨h1, h2, h3⟩
    rcases seven (v := v) (by omega) (by omega) with rfl | rfl | rfl | rfl | rfl | rfl | rfl <;> cases d <;> cases t <;> first | (exfalso; cases h3; done) | decide
theorem valid_spec (v : Int) (d t : Bool) : PRet C.P 71 [sg v d t] (.bool (right v d t)) := by
  refine pret_of ok mixed (A := A71) 1 Tryz.func71 rfl ?_
  (repeat' (first | exact rfl | ((conv => whnf); first | exact rfl | refine ⟨by kernel_rfl, ?_⟩ | exact ⟨rfl, rfl⟩ | refine ⟨rfl, ?_⟩ | refine ⟨by (first | omega | (simp (disch := omega) only [wrapI]; omega) | (simp (disch := omega) only [wrapI]; simp; omega) | (simp; omega)), ?_⟩ | (intro ep) | refine ⟨_, ticks_spec v d t, ?_⟩ | (refine ifB (fun hb => ?_) (fun hb => ?_) <;> (try simp only [decide_eq_true_eq, decide_eq_false_iff_not, beq_iff_eq, beq_eq_false_iff_ne, bne_iff_ne, bne_eq_false_iff_eq, ne_eq, not_false_eq_true, not_true_eq_false, Bool.not_eq_true, Bool.not_eq_true', Bool.not_eq_false', Int.not_lt, Int.not_le] at hb) <;> (try simp (disch := omega) only [wrapI] at hb) <;> (try (exfalso; omega))) | fail)))
  · simp only [Bool.and_eq_true, decide_eq_true_eq, beq_iff_eq] at hb
    obtain ⟨rfl, rfl, rfl, _⟩ := hb
    rfl
  · refine congrArg AV.bool ?_
    have tp := ticks_pos v d t
    by_cases h0 : v = 0
    · subst h0
      have : ticks 0 d t = 0 := by simp [ticks]
      rw [this]
      cases d <;> cases t <;> first | rfl | (exfalso; revert hb; decide)
    · unfold right
      rw [if_neg h0]
      by_cases hp : 0 < ticks v d t
      · rw [decide_eq_true hp]
        rw [tp] at hp
        simp [hp]
      · rw [decide_eq_false hp]
        rw [tp] at hp
        by_cases h1 : 1 ≤ v <;> by_cases h2 : v ≤ 7 <;> simp_all <;> (intros; exfalso; omega)

theorem has_drop {l : List Stp} {k : Nat} (h : k < l.length) (c : Int) : hasC (l.drop k) c = (l[k].c == c || hasC (l.drop (k + 1)) c) := by
  rw [drop_at h]; rfl

set_option maxHeartbeats 1000000 in
set_option maxRecDepth 100000 in
theorem plucks_spec (e : Evt) (c : Int) (hl : e.stops.length ≤ 9223372036854775807) : PRet C.P 102 [.agg (evR e), .int .i64 c] (.bool (hasC e.stops c)) := by
  refine pret_of (okx [] [112, 113, 117]) mixed (A := A102) 2 Tryz.func102 rfl ?_
  (repeat' (first | exact rfl | ((conv => whnf); first | exact rfl | refine ⟨by kernel_rfl, ?_⟩ | exact ⟨rfl, rfl⟩ | refine ⟨rfl, ?_⟩ | refine ⟨by (first | omega | (simp (disch := omega) only [wrapI]; omega) | (simp (disch := omega) only [wrapI]; simp; omega) | (simp; omega)), ?_⟩ | (intro ep) | (refine ifB (fun hb => ?_) (fun hb => ?_) <;> (try simp only [decide_eq_true_eq, decide_eq_false_iff_not, beq_iff_eq, beq_eq_false_iff_ne, bne_iff_ne, bne_eq_false_iff_eq, ne_eq, not_false_eq_true, not_true_eq_false, Bool.not_eq_true, Bool.not_eq_true', Bool.not_eq_false', Int.not_lt, Int.not_le] at hb) <;> (try simp (disch := omega) only [wrapI] at hb) <;> (try (exfalso; omega))) | refine fn_of (okx [] [112, 113, 117]) mixed (A := fun _ => {}) 0 Tryz.func112 rfl ?_ | refine fn_of (okx [] [112, 113, 117]) mixed (A := fun _ => {}) 0 Tryz.func117 rfl ?_ | fail)))
  rename_i e0
  obtain ⟨e1, he⟩ : ∃ e1, e1 = ep := ⟨_, rfl⟩
  subst he
  (conv => whnf)
  refine loopM (okx [] [112, 113, 117]) mixed (A := fun _ => {}) [0, 1, 7, 8] [0, 1] (S := { k : Nat // k ≤ e.stops.length ∧ hasC (e.stops.drop k) c = hasC e.stops c })
    (fr := fun s => frOf 0 19 [(0, stsA e.stops), (1, .fn (.func 113) [] [.optr (.s 1) e1 1 0 0]), (7, .int .i64 e.stops.length), (8, .int .i64 (s.1 : Int))])
    (h := fun s => ⟨[.vec e0 [evR e], .vec e1 [[.int .i64 c]]], []⟩) (μ := fun s => e.stops.length - s.1) ⟨0, by omega, rfl⟩ rfl rfl ?_
  rintro ⟨k, hk, hs⟩
  show aexR _ _ _ (frOf 0 19 [(0, stsA e.stops), (1, .fn (.func 113) [] [.optr (.s 1) e1 1 0 0]), (7, .int .i64 e.stops.length), (8, .int .i64 (k : Int))]) ⟨[.vec e0 [evR e], .vec e1 [[.int .i64 c]]], []⟩ _
  (conv => whnf)
  refine ifB (fun h1 => ?_) (fun h1 => ?_)
  · simp only [decide_eq_true_eq] at h1
    have hlt : k < e.stops.length := by omega
    rw [has_drop hlt] at hs
    (repeat' (first | exact rfl | ((conv => whnf); first | exact rfl | refine ⟨by kernel_rfl, ?_⟩ | exact ⟨rfl, rfl⟩ | refine ⟨rfl, ?_⟩ | refine ⟨by (first | omega | (simp (disch := omega) only [wrapI]; omega) | (simp (disch := omega) only [wrapI]; simp; omega) | (simp; omega)), ?_⟩ | (intro ep) | refine optS (mapR hlt) ?_ | (refine ifB (fun hb => ?_) (fun hb => ?_) <;> (try simp only [decide_eq_true_eq, decide_eq_false_iff_not, beq_iff_eq, beq_eq_false_iff_ne, bne_iff_ne, bne_eq_false_iff_eq, ne_eq, not_false_eq_true, not_true_eq_false, Bool.not_eq_true, Bool.not_eq_true', Bool.not_eq_false', Int.not_lt, Int.not_le] at hb) <;> (try simp (disch := omega) only [wrapI] at hb) <;> (try (exfalso; omega))) | refine fn_of (okx [] [112, 113, 117]) mixed (A := A113) 1 Tryz.func113 rfl ?_ | fail)))
    · rw [← hs, hb]; simp
    · rw [beq_eq_false_iff_ne.2 hb, Bool.false_or] at hs
      refine back_of ⟨k + 1, by omega, hs⟩ ⟨by (first | exact rfl | (simp (disch := omega) only [wrapI]; exact rfl)), rfl, by simp only; omega⟩
  · simp only [decide_eq_false_iff_not] at h1
    rw [List.drop_eq_nil_of_le (by omega)] at hs
    (repeat' (first | exact rfl | ((conv => whnf); first | exact rfl | refine ⟨by kernel_rfl, ?_⟩ | exact ⟨rfl, rfl⟩ | refine ⟨rfl, ?_⟩ | refine ⟨by (first | omega | (simp (disch := omega) only [wrapI]; omega) | (simp (disch := omega) only [wrapI]; simp; omega) | (simp; omega)), ?_⟩ | (intro ep) | (refine ifB (fun hb => ?_) (fun hb => ?_) <;> (try simp only [decide_eq_true_eq, decide_eq_false_iff_not, beq_iff_eq, beq_eq_false_iff_ne, bne_iff_ne, bne_eq_false_iff_eq, ne_eq, not_false_eq_true, not_true_eq_false, Bool.not_eq_true, Bool.not_eq_true', Bool.not_eq_false', Int.not_lt, Int.not_le] at hb) <;> (try simp (disch := omega) only [wrapI] at hb) <;> (try (exfalso; omega))) | fail)))
    all_goals rw [← hs]; rfl

def longL (c : Int) : Nat → List Evt → Nat
  | 0, _ => 0
  | _ + 1, [] => 0
  | n + 1, e :: r => if (restE e || hasC e.stops c) = true then 0 else longL c n r + 1
def longest (evs : List Evt) (ev c : Int) : Int := if ev < 0 ∨ (evs.length : Int) ≤ ev then 0 else (longL c 15 (evs.drop (ev + 1).toNat) : Nat)

theorem longL_le (c : Int) : ∀ (n : Nat) (l : List Evt), longL c n l ≤ n := by
  intro n
  induction n with
  | zero => intro l; simp [longL]
  | succ n ih =>
    intro l
    cases l with
    | nil => simp [longL]
    | cons e r => simp only [longL]; split; · omega
                  · have := ih r; omega

theorem mapRo {α : Type} {f : α → List AV} {l : List α} {a i : Nat} (h : a + i < l.length) : (l.map f)[a + ((i : Nat) : Int).toNat]? = some (f l[a + i]) := by
  rw [Int.toNat_natCast, List.getElem?_map, List.getElem?_eq_getElem h]; rfl

/-- sizes that a machine has -/
structure Pc.Ok (p : Pc) : Prop where
  cs : p.ins.cs.length ≤ 9223372036854775807
  st : p.ins.steps.length ≤ 9223372036854775807
  ev : p.evs.length ≤ 9223372036854775807
  sp : ∀ e ∈ p.evs, e.stops.length ≤ 9223372036854775807

def A95 : Ann := fun r => match r with
  | 0 => { slots := [(0, 0)] }
  | 6 => { slots := [(2, 1)] }
  | _ => {}

set_option maxHeartbeats 1000000 in
set_option maxRecDepth 100000 in
theorem longest_spec (p : Pc) (hp : p.Ok) (ev c : Int) : PRet C.P 95 [pcA p, .int .i64 ev, .int .i64 c] (.int .i64 (longest p.evs ev c)) := by
  have hpe := hp.ev
  refine pret_of ok mixed (A := A95) 2 Tryz.func95 rfl ?_
  (repeat' (first | exact rfl | ((conv => whnf); first | exact rfl | refine ⟨by kernel_rfl, ?_⟩ | exact ⟨rfl, rfl⟩ | refine ⟨rfl, ?_⟩ | refine ⟨by (first | omega | (simp (disch := omega) only [wrapI]; omega) | (simp (disch := omega) only [wrapI]; simp; omega) | (simp; omega)), ?_⟩ | (intro ep) | (refine ifB (fun hb => ?_) (fun hb => ?_) <;> (try simp only [decide_eq_true_eq, decide_eq_false_iff_not, beq_iff_eq, beq_eq_false_iff_ne, bne_iff_ne, bne_eq_false_iff_eq, ne_eq, not_false_eq_true, not_true_eq_false, Bool.not_eq_true, Bool.not_eq_true', Bool.not_eq_false', Int.not_lt, Int.not_le] at hb) <;> (try simp (disch := omega) only [wrapI] at hb) <;> (try (exfalso; omega))) | fail)))
  · unfold longest; rw [if_pos (by omega)]
  · unfold longest; rw [if_pos (by omega)]
  obtain ⟨n, rfl⟩ : ∃ n : Nat, ev = n := ⟨ev.toNat, by omega⟩
  have hA : longest p.evs n c = ((longL c 15 (p.evs.drop (n + 1)) : Nat) : Int) := by unfold longest; rw [if_neg (by omega)]; rfl
  rw [hA]
  (conv => whnf)
  obtain ⟨e0, he⟩ : ∃ e0, e0 = ep := ⟨_, rfl⟩
  subst he
  refine loopM ok mixed (A := A95) [2, 7, 23, 24, 25] [0] (S := { k : Nat // k ≤ p.evs.length - (n + 1) ∧ k ≤ 15 ∧ longL c (15 - k) (p.evs.drop (n + 1 + k)) + k = longL c 15 (p.evs.drop (n + 1)) })
    (fr := fun s => frOf 0 44 [(2, .int .i64 c), (7, .int .i64 (s.1 : Int)), (23, .lslc 6 (p.evs.map evR) (0 + (n + 1)) (p.evs.length - (n + 1)) false), (24, .int .i64 ((p.evs.length - (n + 1) : Nat) : Int)), (25, .int .i64 (s.1 : Int))])
    (h := fun s => ⟨[.vec e0 [[crsA p.ins.cs, intsA p.ins.steps, evsA p.evs]], .hole], []⟩) (μ := fun s => 15 - s.1) ⟨0, by omega, by omega, rfl⟩ (by (first | exact rfl | (simp (disch := omega) only [wrapI]; exact rfl))) rfl ?_
  rintro ⟨k, hk, hk15, hs⟩
  show aexR _ _ _ (frOf 0 44 [(2, .int .i64 c), (7, .int .i64 (k : Int)), (23, .lslc 6 (p.evs.map evR) (0 + (n + 1)) (p.evs.length - (n + 1)) false), (24, .int .i64 ((p.evs.length - (n + 1) : Nat) : Int)), (25, .int .i64 (k : Int))]) ⟨[.vec e0 [[crsA p.ins.cs, intsA p.ins.steps, evsA p.evs]], .hole], []⟩ _
  (conv => whnf)
  refine ifB (fun h1 => ?_) (fun h1 => ?_)
  · simp only [decide_eq_true_eq] at h1
    have hlt : 0 + (n + 1) + k < p.evs.length := by omega
    have hlt' : n + 1 + k < p.evs.length := by omega
    obtain ⟨e, he⟩ : ∃ e, e = p.evs[0 + (n + 1) + k] := ⟨_, rfl⟩
    have he' : p.evs[n + 1 + k] = e := by rw [he]; congr 1; omega
    have hm : (p.evs.map evR)[0 + (n + 1) + ((k : Nat) : Int).toNat]? = some (evR e) := by rw [mapRo hlt, he]
    have hsl : e.stops.length ≤ 9223372036854775807 := hp.sp e (by rw [he]; exact List.getElem_mem hlt)
    rw [drop_at hlt', he'] at hs
    (repeat' (first | exact rfl | ((conv => whnf); first | exact rfl | refine ⟨by kernel_rfl, ?_⟩ | exact ⟨rfl, rfl⟩ | refine ⟨rfl, ?_⟩ | refine ⟨by (first | omega | (simp (disch := omega) only [wrapI]; omega) | (simp (disch := omega) only [wrapI]; simp; omega) | (simp; omega)), ?_⟩ | (intro ep) | refine optS hm ?_ | refine ⟨_, isRest_spec e, ?_⟩ | refine ⟨_, plucks_spec e c hsl, ?_⟩ | (refine ifB (fun hb => ?_) (fun hb => ?_) <;> (try simp only [decide_eq_true_eq, decide_eq_false_iff_not, beq_iff_eq, beq_eq_false_iff_ne, bne_iff_ne, bne_eq_false_iff_eq, ne_eq, not_false_eq_true, not_true_eq_false, Bool.not_eq_true, Bool.not_eq_true', Bool.not_eq_false', Int.not_lt, Int.not_le] at hb) <;> (try simp (disch := omega) only [wrapI] at hb) <;> (try (exfalso; omega))) | fail)))
    · obtain rfl : k = 15 := by omega
      simp only [Nat.sub_self, longL] at hs
      exact congrArg (AV.int .i64) (by omega)
    · obtain ⟨m, hm⟩ : ∃ m, 15 - k = m + 1 := ⟨14 - k, by omega⟩
      rw [hm] at hs
      simp only [longL, hb, Bool.true_or, if_true] at hs
      exact congrArg (AV.int .i64) (by omega)
    · rename_i hb1
      obtain ⟨m, hm⟩ : ∃ m, 15 - k = m + 1 := ⟨14 - k, by omega⟩
      rw [hm] at hs
      simp only [longL, hb, Bool.or_true, if_true] at hs
      exact congrArg (AV.int .i64) (by omega)
    · rename_i hb1
      obtain ⟨m, hm⟩ : ∃ m, 15 - k = m + 1 := ⟨14 - k, by omega⟩
      rw [hm] at hs
      simp only [longL, hb, hb1, Bool.or_false, Bool.false_eq_true, if_false] at hs
      refine back_of ⟨k + 1, by omega, by omega, ?_⟩ ⟨by (first | exact rfl | (simp (disch := omega) only [wrapI]; exact rfl)), rfl, by simp only; omega⟩
      rw [show 15 - (k + 1) = m by omega, show n + 1 + (k + 1) = n + 1 + k + 1 by omega]
      omega
  · simp only [decide_eq_false_iff_not] at h1
    rw [List.drop_eq_nil_of_le (by omega)] at hs
    have h0 : longL c (15 - k) [] = 0 := by cases 15 - k <;> rfl
    rw [h0] at hs
    (repeat' (first | exact rfl | ((conv => whnf); first | exact rfl | refine ⟨by kernel_rfl, ?_⟩ | exact ⟨rfl, rfl⟩ | refine ⟨rfl, ?_⟩ | refine ⟨by (first | omega | (simp (disch := omega) only [wrapI]; omega) | (simp (disch := omega) only [wrapI]; simp; omega) | (simp; omega)), ?_⟩ | (intro ep) | (refine ifB (fun hb => ?_) (fun hb => ?_) <;> (try simp only [decide_eq_true_eq, decide_eq_false_iff_not, beq_iff_eq, beq_eq_false_iff_ne, bne_iff_ne, bne_eq_false_iff_eq, ne_eq, not_false_eq_true, not_true_eq_false, Bool.not_eq_true, Bool.not_eq_true', Bool.not_eq_false', Int.not_lt, Int.not_le] at hb) <;> (try simp (disch := omega) only [wrapI] at hb) <;> (try (exfalso; omega))) | fail)))
    all_goals (rw [← hs]; simp)

def A53 : Ann := fun r => match r with
  | 0 => { slots := [(0, 0)] }
  | _ => {}
theorem refRest_spec (e : Evt) : PRet C.P 53 [.agg (evR e)] (.bool (restE e)) := by
  refine pret_of ok mixed (A := A53) 1 Tryz.func53 rfl ?_
  (repeat' (first | exact rfl | ((conv => whnf); first | exact rfl | refine ⟨by kernel_rfl, ?_⟩ | exact ⟨rfl, rfl⟩ | refine ⟨rfl, ?_⟩ | refine ⟨by (first | omega | (simp (disch := omega) only [wrapI]; omega) | (simp (disch := omega) only [wrapI]; simp; omega) | (simp; omega)), ?_⟩ | (intro ep) | (refine ifB (fun hb => ?_) (fun hb => ?_) <;> (try simp only [decide_eq_true_eq, decide_eq_false_iff_not, beq_iff_eq, beq_eq_false_iff_ne, bne_iff_ne, bne_eq_false_iff_eq, ne_eq, not_false_eq_true, not_true_eq_false, Bool.not_eq_true, Bool.not_eq_true', Bool.not_eq_false', Int.not_lt, Int.not_le] at hb) <;> (try simp (disch := omega) only [wrapI] at hb) <;> (try (exfalso; omega))) | fail)))
  all_goals simp_all [restE]

set_option maxHeartbeats 1000000 in
set_option maxRecDepth 100000 in
theorem refHas_spec (e : Evt) (c : Int) (hl : e.stops.length ≤ 9223372036854775807) : PRet C.P 54 [.agg (evR e), .int .i64 c] (.bool (hasC e.stops c)) := by
  refine pret_of ok mixed (A := A53) 1 Tryz.func54 rfl ?_
  (repeat' (first | exact rfl | ((conv => whnf); first | exact rfl | refine ⟨by kernel_rfl, ?_⟩ | exact ⟨rfl, rfl⟩ | refine ⟨rfl, ?_⟩ | refine ⟨by (first | omega | (simp (disch := omega) only [wrapI]; omega) | (simp (disch := omega) only [wrapI]; simp; omega) | (simp; omega)), ?_⟩ | (intro ep) | (refine ifB (fun hb => ?_) (fun hb => ?_) <;> (try simp only [decide_eq_true_eq, decide_eq_false_iff_not, beq_iff_eq, beq_eq_false_iff_ne, bne_iff_ne, bne_eq_false_iff_eq, ne_eq, not_false_eq_true, not_true_eq_false, Bool.not_eq_true, Bool.not_eq_true', Bool.not_eq_false', Int.not_lt, Int.not_le] at hb) <;> (try simp (disch := omega) only [wrapI] at hb) <;> (try (exfalso; omega))) | fail)))
  obtain ⟨e0, he⟩ : ∃ e1, e1 = ep := ⟨_, rfl⟩
  subst he
  (conv => whnf)
  refine loopM ok mixed (A := A53) [1, 2, 5] [0] (S := { k : Nat // k ≤ e.stops.length ∧ hasC (e.stops.drop k) c = hasC e.stops c })
    (fr := fun s => frOf 0 21 [(1, .int .i64 c), (2, .optr (.s 0) e0 6 0 0), (5, .int .i64 (s.1 : Int))])
    (h := fun s => ⟨[.vec e0 [evR e]], []⟩) (μ := fun s => e.stops.length - s.1) ⟨0, by omega, rfl⟩ rfl rfl ?_
  rintro ⟨k, hk, hs⟩
  show aexR _ _ _ (frOf 0 21 [(1, .int .i64 c), (2, .optr (.s 0) e0 6 0 0), (5, .int .i64 (k : Int))]) ⟨[.vec e0 [evR e]], []⟩ _
  (conv => whnf)
  refine ⟨rfl, ?_⟩
  (conv => whnf)
  refine ifB (fun h1 => ?_) (fun h1 => ?_)
  · simp only [decide_eq_true_eq] at h1
    have hlt : k < e.stops.length := by omega
    rw [has_drop hlt] at hs
    (repeat' (first | exact rfl | ((conv => whnf); first | exact rfl | refine ⟨by kernel_rfl, ?_⟩ | exact ⟨rfl, rfl⟩ | refine ⟨rfl, ?_⟩ | refine ⟨by (first | omega | (simp (disch := omega) only [wrapI]; omega) | (simp (disch := omega) only [wrapI]; simp; omega) | (simp; omega)), ?_⟩ | (intro ep) | refine optS (mapR hlt) ?_ | (refine ifB (fun hb => ?_) (fun hb => ?_) <;> (try simp only [decide_eq_true_eq, decide_eq_false_iff_not, beq_iff_eq, beq_eq_false_iff_ne, bne_iff_ne, bne_eq_false_iff_eq, ne_eq, not_false_eq_true, not_true_eq_false, Bool.not_eq_true, Bool.not_eq_true', Bool.not_eq_false', Int.not_lt, Int.not_le] at hb) <;> (try simp (disch := omega) only [wrapI] at hb) <;> (try (exfalso; omega))) | fail)))
    · rw [← hs, hb]; simp
    · rw [beq_eq_false_iff_ne.2 hb, Bool.false_or] at hs
      refine back_of ⟨k + 1, by omega, hs⟩ ⟨by (first | exact rfl | (simp (disch := omega) only [wrapI]; exact rfl)), rfl, by simp only; omega⟩
  · simp only [decide_eq_false_iff_not] at h1
    rw [List.drop_eq_nil_of_le (by omega)] at hs
    (repeat' (first | exact rfl | ((conv => whnf); first | exact rfl | refine ⟨by kernel_rfl, ?_⟩ | exact ⟨rfl, rfl⟩ | refine ⟨rfl, ?_⟩ | refine ⟨by (first | omega | (simp (disch := omega) only [wrapI]; omega) | (simp (disch := omega) only [wrapI]; simp; omega) | (simp; omega)), ?_⟩ | (intro ep) | (refine ifB (fun hb => ?_) (fun hb => ?_) <;> (try simp only [decide_eq_true_eq, decide_eq_false_iff_not, beq_iff_eq, beq_eq_false_iff_ne, bne_iff_ne, bne_eq_false_iff_eq, ne_eq, not_false_eq_true, not_true_eq_false, Bool.not_eq_true, Bool.not_eq_true', Bool.not_eq_false', Int.not_lt, Int.not_le] at hb) <;> (try simp (disch := omega) only [wrapI] at hb) <;> (try (exfalso; omega))) | fail)))
    all_goals rw [← hs]; rfl

end Go.Ab.V
