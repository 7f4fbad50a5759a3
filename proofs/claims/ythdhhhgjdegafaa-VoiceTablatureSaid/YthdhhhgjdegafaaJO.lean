/-
  What is proved here serves the law's text: each part says its own claim and its conditions. No condition is left open.
-/
import Derived.Test.YthdhhhgjdegafaaKN
import Derived.Test.YthdhhhgjdegafaaKF
import Derived.Test.YthdhhhgjdegafaaJN
set_option linter.unusedSimpArgs false
set_option linter.unusedVariables false

namespace Go.Ab.V.S
open Go.Proofs
abbrev sg (v : Int) (d t : Bool) : AV := .agg [.int .i64 v, .bool d, .bool t]
def ticks (v : Int) (d t : Bool) : Int :=
 if v < 1 ∨ 7 < v ∨ (d && t) = true then 0 else
  let n : Int := if v = 1 then 384 else if v = 2 then 192 else if v = 3 then 96 else if v = 4 then 48 else if v = 5 then 24 else if v = 6 then 12 else 6
  if d = true then n / 2 * 3 else if t = true then n / 3 * 2 else n
def right (v : Int) (d t : Bool) : Bool :=
 if v = 0 then !d && !t else decide (1 ≤ v) && decide (v ≤ 7) && !(d && t)
def A96 : Ann := fun r => match r with
 | 0 => { slots := [(0, 0)] }
 | _ => {}
theorem seven {v : Int} (h1 : ¬ v < 1) (h2 : ¬ 7 < v) : v = 1 ∨ v = 2 ∨ v = 3 ∨ v = 4 ∨ v = 5 ∨ v = 6 ∨ v = 7 := by omega
theorem ticks_spec (v : Int) (d t : Bool) : PRet C.P 96 [sg v d t] (.int .i64 (ticks v d t)) := by
 by_cases h1 : v < 1
 ·refine pret_of ok mixed (A := A96) 1 Try.func96 rfl ?_
  (repeat ((conv => whnf); first | exact rfl | exact ⟨rfl, rfl⟩ | refine ⟨rfl, ?_⟩ | refine ⟨by decide, ?_⟩ | refine ⟨by kernel_rfl, ?_⟩ | (intro ep)))
  conv => whnf
  rw [decide_eq_true h1]
  exact ⟨rfl, by simp [ticks, h1]⟩
 by_cases h2 : 7 < v
 ·refine pret_of ok mixed (A := A96) 1 Try.func96 rfl ?_
  (repeat ((conv => whnf); first | exact rfl | exact ⟨rfl, rfl⟩ | refine ⟨rfl, ?_⟩ | refine ⟨by decide, ?_⟩ | refine ⟨by kernel_rfl, ?_⟩ | (intro ep)))
  conv => whnf
  rw [decide_eq_false h1]
  (repeat ((conv => whnf); first | exact rfl | exact ⟨rfl, rfl⟩ | refine ⟨rfl, ?_⟩ | refine ⟨by decide, ?_⟩ | refine ⟨by kernel_rfl, ?_⟩ | (intro ep)))
  conv => whnf
  rw [show decide (v > 7) = true from decide_eq_true h2]
  exact ⟨rfl, by simp [ticks, h2]⟩
 rcases seven h1 h2 with rfl | rfl | rfl | rfl | rfl | rfl | rfl <;> cases d <;> cases t <;>
  (refine pret_of ok mixed (A := A96) 1 Try.func96 rfl ?_; (repeat ((conv => whnf); first | exact rfl | exact ⟨rfl, rfl⟩ | refine ⟨rfl, ?_⟩ | refine ⟨by decide, ?_⟩ | refine ⟨by kernel_rfl, ?_⟩ | (intro ep))))
end Go.Ab.V.S

namespace Go.Ab.V.S
open Go.Proofs
structure Stp where
 c : Int
 f : Int
 r : Int
 g : Int
 h : Int
 deriving DecidableEq
structure Evt where
 bar : Bool
 v : Int
 d : Bool
 t : Bool
 tie : Bool
 stops : List Stp
 deriving DecidableEq
structure Crs where
 pitch : Int
 frets : Int
 oct : Bool
 deriving DecidableEq
structure Ins where
 cs : List Crs
 steps : List Int
 deriving DecidableEq
structure Pc where
 ins : Ins
 evs : List Evt
 deriving DecidableEq
def ints (l : List Int) : List (List AV) := l.map fun x => [.int .i64 x]
def stR (s : Stp) : List AV := [.int .i64 s.c, .int .i64 s.f, .int .i64 s.r, .int .i64 s.g, .int .i64 s.h]
def stsA (l : List Stp) : AV := .lslc 5 (l.map stR) 0 l.length false
def evR (e : Evt) : List AV := [.bool e.bar, .int .i64 e.v, .bool e.d, .bool e.t, .bool e.tie, stsA e.stops]
def evsA (l : List Evt) : AV := .lslc 6 (l.map evR) 0 l.length false
def crR (c : Crs) : List AV := [.int .i64 c.pitch, .int .i64 c.frets, .bool c.oct]
def crsA (l : List Crs) : AV := .lslc 3 (l.map crR) 0 l.length false
def intsA (l : List Int) : AV := .lslc 1 (ints l) 0 l.length false
def inA (i : Ins) : AV := .agg [crsA i.cs, intsA i.steps]
def pcA (p : Pc) : AV := .agg [crsA p.ins.cs, intsA p.ins.steps, evsA p.evs]
theorem mapR {α : Type} {f : α → List AV} {l : List α} {i : Nat} (h : i < l.length) : (l.map f)[0 + ((i : Nat) : Int).toNat]? = some (f l[i]) := by
 rw [Nat.zero_add, Int.toNat_natCast, List.getElem?_map, List.getElem?_eq_getElem h]; rfl
theorem intsR {l : List Int} {i : Nat} (h : i < l.length) : (ints l)[0 + ((i : Nat) : Int).toNat]? = some [.int .i64 l[i]] := mapR h
def chkSteps (last : Int) : List Int → Bool
 | [] => true
 | s :: r => decide (last < s) && decide (s ≤ 127) && chkSteps s r
def highest (steps : List Int) (c : Crs) : Int := c.pitch + (if 0 < c.frets then steps.getD (c.frets - 1).toNat 0 else 0) + if c.oct = true then 12 else 0
def chkCs (steps : List Int) : List Crs → Int
 | [] => 0
 | c :: r => if c.frets < 0 ∨ (steps.length : Int) < c.frets then 13 else if c.pitch < 0 ∨ 127 < c.pitch ∨ 127 < highest steps c then 10 else chkCs steps r
def chkIn (i : Ins) : Int := if 14 < i.cs.length ∨ 18 < i.steps.length then 2 else if i.cs.length = 0 then 11 else if chkSteps 0 i.steps = false then 11 else chkCs i.steps i.cs
theorem chkSteps_bd : ∀ (l : List Int) (last : Int), chkSteps last l = true → ∀ x ∈ l, last < x ∧ x ≤ 127 := by
 intro l
 induction l with
 | nil => intro last _ x hx; cases hx
 | cons s r ih =>
  intro last h x hx
  simp only [chkSteps, Bool.and_eq_true, decide_eq_true_eq] at h
  rcases List.mem_cons.1 hx with rfl | hx
  ·exact h.1
  ·have := ih s h.2 x hx
   omega
def A97 : Ann := fun r => match r with
 | 0 => { slots := [(0, 0), (1, 1)] }
 | _ => {}
set_option maxHeartbeats 1000000 in
set_option maxRecDepth 100000 in
theorem highest_spec (i : Ins) (c : Crs) (h1 : chkSteps 0 i.steps = true) (h2 : 0 ≤ c.frets) (h3 : c.frets ≤ i.steps.length) (hl : i.steps.length ≤ 18) (h4 : 0 ≤ c.pitch) (h5 : c.pitch ≤ 127) :
  PRet C.P 97 [inA i, .agg (crR c)] (.int .i64 (highest i.steps c)) := by
 have hf : 0 < c.frets → ∃ x, (ints i.steps)[0 + (c.frets - 1).toNat]? = some [.int .i64 x] ∧ i.steps.getD (c.frets - 1).toNat 0 = x ∧ 0 < x ∧ x ≤ 127 := by
  intro h
  have hlt : (c.frets - 1).toNat < i.steps.length := by omega
  refine ⟨i.steps[(c.frets - 1).toNat], ?_, ?_, ?_⟩
  ·rw [Nat.zero_add]
   simp [ints, hlt]
  ·rw [List.getD, List.getElem?_eq_getElem hlt]; rfl
  ·exact chkSteps_bd _ _ h1 _ (List.getElem_mem hlt)
 refine pret_of ok mixed (A := A97) 2 Try.func97 rfl ?_
 unfold highest
 by_cases hc : 0 < c.frets
 ·obtain ⟨x, x1, x2, x3, x4⟩ := hf hc
  rw [if_pos hc, x2]
  (repeat' (first | exact rfl | ((conv => whnf); first | exact rfl | refine ⟨by kernel_rfl, ?_⟩ | exact ⟨rfl, rfl⟩ | refine go0 ?_ | (intro ep) | refine optS (by (try simp (disch := omega) only [wrapI]); exact x1) ?_ | (refine ifB (fun hb => ?_) (fun hb => ?_) <;> (try simp only [qs] at hb) <;> (try simp (disch := omega) only [wrapI] at hb) <;> (try (exfalso; omega))) | fail)))
  all_goals (simp (disch := omega) only [wrapI]; simp [hb])
 ·rw [if_neg hc]
  (repeat' (first | exact rfl | ((conv => whnf); first | exact rfl | refine ⟨by kernel_rfl, ?_⟩ | exact ⟨rfl, rfl⟩ | refine go0 ?_ | (intro ep) | (refine ifB (fun hb => ?_) (fun hb => ?_) <;> (try simp only [qs] at hb) <;> (try simp (disch := omega) only [wrapI] at hb) <;> (try (exfalso; omega))) | fail)))
  all_goals ((try simp (disch := omega) only [wrapI]); simp [hb])
def A88 : Ann := fun r => match r with
 | 0 => { slots := [(0, 0)] }
 | 15 => { slots := [(2, 1)] }
 | _ => {}
theorem drop_at {α : Type} {l : List α} {i : Nat} (h : i < l.length) : l.drop i = l[i] :: l.drop (i + 1) := List.drop_eq_getElem_cons h
set_option maxHeartbeats 2000000 in
set_option maxRecDepth 100000 in
theorem inCheck_spec (i : Ins) : PRet C.P 88 [inA i] (.int .i64 (chkIn i)) := by
 refine pret_of ok mixed (A := A88) 2 Try.func88 rfl ?_
 (repeat' (first | exact rfl | ((conv => whnf); first | exact rfl | refine ⟨by kernel_rfl, ?_⟩ | exact ⟨rfl, rfl⟩ | refine go0 ?_ | (intro ep) | (refine ifB (fun hb => ?_) (fun hb => ?_) <;> (try simp only [qs] at hb) <;> (try simp (disch := omega) only [wrapI] at hb) <;> (try (exfalso; omega))) | fail)))
 ·unfold chkIn; rw [if_pos (by omega)]
 ·unfold chkIn; rw [if_pos (by omega)]
 ·unfold chkIn; rw [if_neg (by omega), if_pos (by omega)]
 obtain ⟨e0, he0⟩ : ∃ e0, e0 = ep := ⟨_, rfl⟩
 subst he0
 (conv => whnf)
 refine loopM ok mixed (A := A88) [1, 3, 23, 24, 25] [0] (S := { x : Nat × Int // x.1 ≤ i.steps.length ∧ chkSteps x.2 (i.steps.drop x.1) = chkSteps 0 i.steps })
  (fr := fun s => frOf 0 71 [(1, .optr (.s 0) e0 2 0 0), (3, .int .i64 s.1.2), (23, intsA i.steps), (24, .int .i64 i.steps.length), (25, .int .i64 (s.1.1 : Int))])
  (h := fun s => ⟨[.vec e0 [[crsA i.cs, intsA i.steps]], .hole], []⟩) (μ := fun s => i.steps.length - s.1.1) ⟨(0, 0), by omega, rfl⟩ rfl rfl ?_
 rintro ⟨⟨k, last⟩, hk, hs⟩
 simp only at hk hs
 show aexR _ _ _ (frOf 0 71 [(1, .optr (.s 0) e0 2 0 0), (3, .int .i64 last), (23, intsA i.steps), (24, .int .i64 i.steps.length), (25, .int .i64 (k : Int))]) ⟨[.vec e0 [[crsA i.cs, intsA i.steps]], .hole], []⟩ _
 (conv => whnf)
 refine ifB (fun h1 => ?_) (fun h1 => ?_)
 ·simp only [decide_eq_true_eq] at h1
  have hlt : k < i.steps.length := by omega
  rw [drop_at hlt] at hs
  simp only [chkSteps] at hs
  (repeat' (first | exact rfl | ((conv => whnf); first | exact rfl | refine ⟨by kernel_rfl, ?_⟩ | exact ⟨rfl, rfl⟩ | refine go0 ?_ | (intro ep) | refine optS (intsR hlt) ?_ | (refine ifB (fun hb => ?_) (fun hb => ?_) <;> (try simp only [qs] at hb) <;> (try simp (disch := omega) only [wrapI] at hb) <;> (try (exfalso; omega))) | fail)))
  ·rw [decide_eq_false (by omega)] at hs
   unfold chkIn; rw [if_neg (by omega), if_neg (by omega), if_pos (by rw [← hs]; simp)]
  ·rw [decide_eq_false (show ¬ i.steps[k] ≤ 127 by omega)] at hs
   unfold chkIn; rw [if_neg (by omega), if_neg (by omega), if_pos (by rw [← hs]; simp)]
  ·rw [decide_eq_true (by omega), decide_eq_true (by omega)] at hs
   refine back_of ⟨(k + 1, i.steps[k]), by omega, by simpa using hs⟩ ⟨by (first | exact rfl | (simp (disch := omega) only [wrapI]; exact rfl)), rfl, by simp only; omega⟩
 simp only [decide_eq_false_iff_not] at h1
 have hS : chkSteps 0 i.steps = true := by rw [← hs, List.drop_eq_nil_of_le (by omega)]; rfl
 (repeat' (first | exact rfl | ((conv => whnf); first | exact rfl | refine ⟨by kernel_rfl, ?_⟩ | exact ⟨rfl, rfl⟩ | refine go0 ?_ | (intro ep) | (refine ifB (fun hb => ?_) (fun hb => ?_) <;> (try simp only [qs] at hb) <;> (try simp (disch := omega) only [wrapI] at hb) <;> (try (exfalso; omega))) | fail)))
 (conv => whnf)
 refine loopM ok mixed (A := A88) [1, 39, 40, 41] [0] (S := { k : Nat // k ≤ i.cs.length ∧ chkCs i.steps (i.cs.drop k) = chkCs i.steps i.cs })
  (fr := fun s => frOf 0 71 [(1, .optr (.s 0) e0 2 0 0), (39, crsA i.cs), (40, .int .i64 i.cs.length), (41, .int .i64 (s.1 : Int))])
  (h := fun s => ⟨[.vec e0 [[crsA i.cs, intsA i.steps]], .hole], []⟩) (μ := fun s => i.cs.length - s.1) ⟨0, by omega, rfl⟩ rfl rfl ?_
 have hA : chkIn i = chkCs i.steps i.cs := by unfold chkIn; rw [if_neg (by omega), if_neg (by omega), if_neg (by rw [hS]; simp)]
 rw [hA]
 rintro ⟨k, hk, hs⟩
 show aexR _ _ _ (frOf 0 71 [(1, .optr (.s 0) e0 2 0 0), (39, crsA i.cs), (40, .int .i64 i.cs.length), (41, .int .i64 (k : Int))]) ⟨[.vec e0 [[crsA i.cs, intsA i.steps]], .hole], []⟩ _
 (conv => whnf)
 refine ifB (fun h1 => ?_) (fun h1 => ?_)
 ·simp only [decide_eq_true_eq] at h1
  have hlt : k < i.cs.length := by omega
  rw [drop_at hlt] at hs
  simp only [chkCs] at hs
  (repeat' (first | exact rfl | ((conv => whnf); first | exact rfl | refine ⟨by kernel_rfl, ?_⟩ | exact ⟨rfl, rfl⟩ | refine go0 ?_ | (intro ep) | refine optS (mapR hlt) ?_ | refine ⟨_, highest_spec i i.cs[k] hS (by omega) (by omega) (by omega) (by omega) (by omega), ?_⟩ | (refine ifB (fun hb => ?_) (fun hb => ?_) <;> (try simp only [qs] at hb) <;> (try simp (disch := omega) only [wrapI] at hb) <;> (try (exfalso; omega))) | fail)))
  ·rw [← hs, if_pos (by omega)]
  ·rw [← hs, if_pos (by omega)]
  ·rw [← hs, if_neg (by omega), if_pos (by omega)]
  ·rw [← hs, if_neg (by omega), if_pos (by omega)]
  ·rw [← hs, if_neg (by omega), if_pos (by omega)]
  ·rw [if_neg (by omega), if_neg (by omega)] at hs
   refine back_of ⟨k + 1, by omega, hs⟩ ⟨by (first | exact rfl | (simp (disch := omega) only [wrapI]; exact rfl)), rfl, by simp only; omega⟩
 ·simp only [decide_eq_false_iff_not] at h1
  have h0 : chkCs i.steps i.cs = 0 := by rw [← hs, List.drop_eq_nil_of_le (by omega)]; rfl
  (repeat' (first | exact rfl | ((conv => whnf); first | exact rfl | refine ⟨by kernel_rfl, ?_⟩ | exact ⟨rfl, rfl⟩ | refine go0 ?_ | (intro ep) | (refine ifB (fun hb => ?_) (fun hb => ?_) <;> (try simp only [qs] at hb) <;> (try simp (disch := omega) only [wrapI] at hb) <;> (try (exfalso; omega))) | fail)))
  rw [h0]
end Go.Ab.V.S

namespace Go.Ab.V.S
open Go.Proofs
def hasC (l : List Stp) (c : Int) : Bool := l.any fun s => s.c == c
def restE (e : Evt) : Bool := decide (e.stops.length = 0) && !e.tie
def A102 : Ann := fun r => match r with
 | 0 => { slots := [(0, 0)] }
 | _ => {}
def A103 : Ann := fun r => match r with
 | 0 => { slots := [(0, 0), (1, 1)] }
 | _ => {}
def A106 : Ann := fun r => match r with
 | 0 => { slots := [(0, 2)] }
 | _ => {}
theorem isRest_spec (e : Evt) : PRet C.P 102 [.agg (evR e)] (.bool (restE e)) := by
 refine pret_of ok mixed (A := A102) 1 Try.func102 rfl ?_
 (repeat' (first | exact rfl | ((conv => whnf); first | exact rfl | refine ⟨by kernel_rfl, ?_⟩ | exact ⟨rfl, rfl⟩ | refine go0 ?_ | (intro ep) | (refine ifB (fun hb => ?_) (fun hb => ?_) <;> (try simp only [qs] at hb) <;> (try simp (disch := omega) only [wrapI] at hb) <;> (try (exfalso; omega))) | fail)))
 all_goals simp_all [restE]
def A93 : Ann := fun r => match r with
 | 0 => { slots := [(0, 0)] }
 | _ => {}
theorem ticks_pos (v : Int) (d t : Bool) : (0 < ticks v d t) = (1 ≤ v ∧ v ≤ 7 ∧ (d && t) = false) := by
 apply propext
 constructor
 ·intro h
  unfold ticks at h
  split at h
  ·omega
  ·rename_i hc
   refine ⟨by omega, by omega, ?_⟩
   cases hdt : (d && t) with
   | false => rfl
   | true => exact absurd (.inr (.inr hdt)) hc
 ·rintro ⟨h1, h2, h3⟩
  rcases seven (v := v) (by omega) (by omega) with rfl | rfl | rfl | rfl | rfl | rfl | rfl <;> cases d <;> cases t <;> first | (exfalso; cases h3; done) | decide
theorem valid_spec (v : Int) (d t : Bool) : PRet C.P 93 [sg v d t] (.bool (right v d t)) := by
 refine pret_of ok mixed (A := A93) 1 Try.func93 rfl ?_
 (repeat' (first | exact rfl | ((conv => whnf); first | exact rfl | refine ⟨by kernel_rfl, ?_⟩ | exact ⟨rfl, rfl⟩ | refine go0 ?_ | (intro ep) | refine ⟨_, ticks_spec v d t, ?_⟩ | (refine ifB (fun hb => ?_) (fun hb => ?_) <;> (try simp only [qs] at hb) <;> (try simp (disch := omega) only [wrapI] at hb) <;> (try (exfalso; omega))) | fail)))
 ·simp only [Bool.and_eq_true, decide_eq_true_eq, beq_iff_eq] at hb
  obtain ⟨rfl, rfl, rfl, _⟩ := hb
  rfl
 ·refine congrArg AV.bool ?_
  have tp := ticks_pos v d t
  by_cases h0 : v = 0
  ·subst h0
   have : ticks 0 d t = 0 := by simp [ticks]
   rw [this]
   cases d <;> cases t <;> first | rfl | (exfalso; revert hb; decide)
  ·unfold right
   rw [if_neg h0]
   by_cases hp : 0 < ticks v d t
   ·rw [decide_eq_true hp]
    rw [tp] at hp
    simp [hp]
   ·rw [decide_eq_false hp]
    rw [tp] at hp
    by_cases h1 : 1 ≤ v <;> by_cases h2 : v ≤ 7 <;> simp_all <;> (intros; exfalso; omega)
theorem has_drop {l : List Stp} {k : Nat} (h : k < l.length) (c : Int) : hasC (l.drop k) c = (l[k].c == c || hasC (l.drop (k + 1)) c) := by
 rw [drop_at h]; rfl
set_option maxHeartbeats 1000000 in
set_option maxRecDepth 100000 in
theorem plucks_spec (e : Evt) (c : Int) (hl : e.stops.length ≤ 9223372036854775807) : PRet C.P 103 [.agg (evR e), .int .i64 c] (.bool (hasC e.stops c)) := by
 refine pret_of (okx [] [105, 106, 107]) mixed (A := A103) 2 Try.func103 rfl ?_
 (repeat' (first | exact rfl | ((conv => whnf); first | exact rfl | refine ⟨by kernel_rfl, ?_⟩ | exact ⟨rfl, rfl⟩ | refine go0 ?_ | (intro ep) | (refine ifB (fun hb => ?_) (fun hb => ?_) <;> (try simp only [qs] at hb) <;> (try simp (disch := omega) only [wrapI] at hb) <;> (try (exfalso; omega))) | refine fn_of (okx [] [105, 106, 107]) mixed (A := fun _ => {}) 0 Try.func105 rfl ?_ | refine fn_of (okx [] [105, 106, 107]) mixed (A := fun _ => {}) 0 Try.func107 rfl ?_ | fail)))
 rename_i e0
 obtain ⟨e1, he⟩ : ∃ e1, e1 = ep := ⟨_, rfl⟩
 subst he
 (conv => whnf)
 refine loopM (okx [] [105, 106, 107]) mixed (A := fun _ => {}) [0, 1, 7, 8] [0, 1] (S := { k : Nat // k ≤ e.stops.length ∧ hasC (e.stops.drop k) c = hasC e.stops c })
  (fr := fun s => frOf 0 19 [(0, stsA e.stops), (1, .fn (.func 106) [] [.optr (.s 1) e1 1 0 0]), (7, .int .i64 e.stops.length), (8, .int .i64 (s.1 : Int))])
  (h := fun s => ⟨[.vec e0 [evR e], .vec e1 [[.int .i64 c]]], []⟩) (μ := fun s => e.stops.length - s.1) ⟨0, by omega, rfl⟩ rfl rfl ?_
 rintro ⟨k, hk, hs⟩
 show aexR _ _ _ (frOf 0 19 [(0, stsA e.stops), (1, .fn (.func 106) [] [.optr (.s 1) e1 1 0 0]), (7, .int .i64 e.stops.length), (8, .int .i64 (k : Int))]) ⟨[.vec e0 [evR e], .vec e1 [[.int .i64 c]]], []⟩ _
 (conv => whnf)
 refine ifB (fun h1 => ?_) (fun h1 => ?_)
 ·simp only [decide_eq_true_eq] at h1
  have hlt : k < e.stops.length := by omega
  rw [has_drop hlt] at hs
  (repeat' (first | exact rfl | ((conv => whnf); first | exact rfl | refine ⟨by kernel_rfl, ?_⟩ | exact ⟨rfl, rfl⟩ | refine go0 ?_ | (intro ep) | refine optS (mapR hlt) ?_ | (refine ifB (fun hb => ?_) (fun hb => ?_) <;> (try simp only [qs] at hb) <;> (try simp (disch := omega) only [wrapI] at hb) <;> (try (exfalso; omega))) | refine fn_of (okx [] [105, 106, 107]) mixed (A := A106) 1 Try.func106 rfl ?_ | fail)))
  ·rw [← hs, hb]; simp
  ·rw [beq_eq_false_iff_ne.2 hb, Bool.false_or] at hs
   refine back_of ⟨k + 1, by omega, hs⟩ ⟨by (first | exact rfl | (simp (disch := omega) only [wrapI]; exact rfl)), rfl, by simp only; omega⟩
 ·simp only [decide_eq_false_iff_not] at h1
  rw [List.drop_eq_nil_of_le (by omega)] at hs
  (repeat' (first | exact rfl | ((conv => whnf); first | exact rfl | refine ⟨by kernel_rfl, ?_⟩ | exact ⟨rfl, rfl⟩ | refine go0 ?_ | (intro ep) | (refine ifB (fun hb => ?_) (fun hb => ?_) <;> (try simp only [qs] at hb) <;> (try simp (disch := omega) only [wrapI] at hb) <;> (try (exfalso; omega))) | fail)))
  all_goals rw [← hs]; rfl
def longL (c : Int) : Nat → List Evt → Nat
 | 0, _ => 0
 | _ + 1, [] => 0
 | n + 1, e :: r => if (restE e || hasC e.stops c) = true then 0 else longL c n r + 1
def longest (evs : List Evt) (ev c : Int) : Int := if ev < 0 ∨ (evs.length : Int) ≤ ev then 0 else (longL c 15 (evs.drop (ev + 1).toNat) : Nat)
theorem mapRo {α : Type} {f : α → List AV} {l : List α} {a i : Nat} (h : a + i < l.length) : (l.map f)[a + ((i : Nat) : Int).toNat]? = some (f l[a + i]) := by
 rw [Int.toNat_natCast, List.getElem?_map, List.getElem?_eq_getElem h]; rfl
structure Pc.Ok (p : Pc) : Prop where
 cs : p.ins.cs.length ≤ 9223372036854775807
 st : p.ins.steps.length ≤ 9223372036854775807
 ev : p.evs.length ≤ 9223372036854775807
 sp : ∀ e ∈ p.evs, e.stops.length ≤ 9223372036854775807
def A100 : Ann := fun r => match r with
 | 0 => { slots := [(0, 0)] }
 | 6 => { slots := [(2, 1)] }
 | _ => {}
set_option maxHeartbeats 1000000 in
set_option maxRecDepth 100000 in
theorem longest_spec (p : Pc) (hp : p.Ok) (ev c : Int) : PRet C.P 100 [pcA p, .int .i64 ev, .int .i64 c] (.int .i64 (longest p.evs ev c)) := by
 have hpe := hp.ev
 refine pret_of ok mixed (A := A100) 2 Try.func100 rfl ?_
 (repeat' (first | exact rfl | ((conv => whnf); first | exact rfl | refine ⟨by kernel_rfl, ?_⟩ | exact ⟨rfl, rfl⟩ | refine go0 ?_ | (intro ep) | (refine ifB (fun hb => ?_) (fun hb => ?_) <;> (try simp only [qs] at hb) <;> (try simp (disch := omega) only [wrapI] at hb) <;> (try (exfalso; omega))) | fail)))
 ·unfold longest; rw [if_pos (by omega)]
 ·unfold longest; rw [if_pos (by omega)]
 obtain ⟨n, rfl⟩ : ∃ n : Nat, ev = n := ⟨ev.toNat, by omega⟩
 have hA : longest p.evs n c = ((longL c 15 (p.evs.drop (n + 1)) : Nat) : Int) := by unfold longest; rw [if_neg (by omega)]; rfl
 rw [hA]
 (conv => whnf)
 obtain ⟨e0, he⟩ : ∃ e0, e0 = ep := ⟨_, rfl⟩
 subst he
 refine loopM ok mixed (A := A100) [2, 7, 23, 24, 25] [0] (S := { k : Nat // k ≤ p.evs.length - (n + 1) ∧ k ≤ 15 ∧ longL c (15 - k) (p.evs.drop (n + 1 + k)) + k = longL c 15 (p.evs.drop (n + 1)) })
  (fr := fun s => frOf 0 44 [(2, .int .i64 c), (7, .int .i64 (s.1 : Int)), (23, .lslc 6 (p.evs.map evR) (0 + (n + 1)) (p.evs.length - (n + 1)) false), (24, .int .i64 ((p.evs.length - (n + 1) : Nat) : Int)), (25, .int .i64 (s.1 : Int))])
  (h := fun s => ⟨[.vec e0 [[crsA p.ins.cs, intsA p.ins.steps, evsA p.evs]], .hole], []⟩) (μ := fun s => 15 - s.1) ⟨0, by omega, by omega, rfl⟩ (by (first | exact rfl | (simp (disch := omega) only [wrapI]; exact rfl))) rfl ?_
 rintro ⟨k, hk, hk15, hs⟩
 show aexR _ _ _ (frOf 0 44 [(2, .int .i64 c), (7, .int .i64 (k : Int)), (23, .lslc 6 (p.evs.map evR) (0 + (n + 1)) (p.evs.length - (n + 1)) false), (24, .int .i64 ((p.evs.length - (n + 1) : Nat) : Int)), (25, .int .i64 (k : Int))]) ⟨[.vec e0 [[crsA p.ins.cs, intsA p.ins.steps, evsA p.evs]], .hole], []⟩ _
 (conv => whnf)
 refine ifB (fun h1 => ?_) (fun h1 => ?_)
 ·simp only [decide_eq_true_eq] at h1
  have hlt : 0 + (n + 1) + k < p.evs.length := by omega
  have hlt' : n + 1 + k < p.evs.length := by omega
  obtain ⟨e, he⟩ : ∃ e, e = p.evs[0 + (n + 1) + k] := ⟨_, rfl⟩
  have he' : p.evs[n + 1 + k] = e := by rw [he]; congr 1; omega
  have hm : (p.evs.map evR)[0 + (n + 1) + ((k : Nat) : Int).toNat]? = some (evR e) := by rw [mapRo hlt, he]
  have hsl : e.stops.length ≤ 9223372036854775807 := hp.sp e (by rw [he]; exact List.getElem_mem hlt)
  rw [drop_at hlt', he'] at hs
  (repeat' (first | exact rfl | ((conv => whnf); first | exact rfl | refine ⟨by kernel_rfl, ?_⟩ | exact ⟨rfl, rfl⟩ | refine go0 ?_ | (intro ep) | refine optS hm ?_ | refine ⟨_, isRest_spec e, ?_⟩ | refine ⟨_, plucks_spec e c hsl, ?_⟩ | (refine ifB (fun hb => ?_) (fun hb => ?_) <;> (try simp only [qs] at hb) <;> (try simp (disch := omega) only [wrapI] at hb) <;> (try (exfalso; omega))) | fail)))
  ·obtain rfl : k = 15 := by omega
   simp only [Nat.sub_self, longL] at hs
   exact congrArg (AV.int .i64) (by omega)
  ·obtain ⟨m, hm⟩ : ∃ m, 15 - k = m + 1 := ⟨14 - k, by omega⟩
   rw [hm] at hs
   simp only [longL, hb, Bool.true_or, if_true] at hs
   exact congrArg (AV.int .i64) (by omega)
  ·rename_i hb1
   obtain ⟨m, hm⟩ : ∃ m, 15 - k = m + 1 := ⟨14 - k, by omega⟩
   rw [hm] at hs
   simp only [longL, hb, Bool.or_true, if_true] at hs
   exact congrArg (AV.int .i64) (by omega)
  ·rename_i hb1
   obtain ⟨m, hm⟩ : ∃ m, 15 - k = m + 1 := ⟨14 - k, by omega⟩
   rw [hm] at hs
   simp only [longL, hb, hb1, Bool.or_false, Bool.false_eq_true, if_false] at hs
   refine back_of ⟨k + 1, by omega, by omega, ?_⟩ ⟨by (first | exact rfl | (simp (disch := omega) only [wrapI]; exact rfl)), rfl, by simp only; omega⟩
   rw [show 15 - (k + 1) = m by omega, show n + 1 + (k + 1) = n + 1 + k + 1 by omega]
   omega
 ·simp only [decide_eq_false_iff_not] at h1
  rw [List.drop_eq_nil_of_le (by omega)] at hs
  have h0 : longL c (15 - k) [] = 0 := by cases 15 - k <;> rfl
  rw [h0] at hs
  (repeat' (first | exact rfl | ((conv => whnf); first | exact rfl | refine ⟨by kernel_rfl, ?_⟩ | exact ⟨rfl, rfl⟩ | refine go0 ?_ | (intro ep) | (refine ifB (fun hb => ?_) (fun hb => ?_) <;> (try simp only [qs] at hb) <;> (try simp (disch := omega) only [wrapI] at hb) <;> (try (exfalso; omega))) | fail)))
  all_goals (rw [← hs]; simp)
end Go.Ab.V.S

namespace Go.Ab.V.S
open Go.Proofs
theorem pure_map {α : Type} {f : α → List AV} (l : List α) (h : ∀ x, (f x).all AV.pure1 = true) : pureRows (l.map f) := by
 intro row hr c hc
 obtain ⟨x, _, rfl⟩ := List.mem_map.mp hr
 exact List.all_eq_true.mp (h x) c hc
def noS : AV → Bool
 | .oslc (.s _) _ _ _ _ _ => false
 | _ => true
theorem eqsP_no {n ep : Nat} : ∀ {l : List AV}, (∀ a ∈ l, noS a = true) → eqsP n ep l
 | [], _ => trivial
 | a :: l, h => by
  have h1 := h a (List.mem_cons_self ..)
  have h2 := eqsP_no (n := n) (ep := ep) fun b hb => h b (List.mem_cons_of_mem _ hb)
  unfold eqsP
  split
  ·simp [noS] at h1
  ·exact h2
theorem eqsP_rows {α : Type} {n ep : Nat} {f : α → List AV} (l : List α) (h : ∀ x, (f x).all noS = true) : eqsP n ep ((l.map f).flatten) :=
 eqsP_no fun a ha => by
  obtain ⟨r, hr, ha⟩ := List.mem_flatten.1 ha
  obtain ⟨x, _, rfl⟩ := List.mem_map.1 hr
  exact List.all_eq_true.1 (h x) a ha
theorem fcS_no {n : Nat} {rows : List (List AV)} {a : AV} (h : noS a = true) : fcS n rows a = a := by
 unfold fcS
 split
 ·simp [noS] at h
 ·rfl
end Go.Ab.V.S

namespace Go.Ab.V.S
open Go.Proofs
def fretsOf (i : Ins) (c : Int) : Int := (i.cs.getD (c - 1).toNat ⟨0, 0, false⟩).frets
def chkStop (i : Ins) (lg : Int) (s : Stp) (last : Int) : Int :=
 if s.c < 1 ∨ (i.cs.length : Int) < s.c then 12 else if s.f < 0 ∨ fretsOf i s.c < s.f then 13 else if s.c ≤ last then 22 else
  if s.r < 0 ∨ 3 < s.r ∨ s.g < 0 ∨ 4 < s.g then 23 else if s.h < 0 ∨ lg < s.h ∨ (0 < s.h ∧ s.f = 0) then 24 else 0
def chkStops (p : Pc) (k : Nat) (last : Int) : List Stp → Int
 | [] => 0
 | s :: r => if chkStop p.ins (longest p.evs k s.c) s last = 0 then chkStops p k s.c r else chkStop p.ins (longest p.evs k s.c) s last
def chkEv (p : Pc) (k : Nat) (e : Evt) : Int :=
 if right e.v e.d e.t = false ∨ (k = 0 ∧ e.v = 0) then 20 else if e.tie = true ∧ (k = 0 ∨ 0 < e.stops.length) then 21 else chkStops p k 0 e.stops
def chkEvs (p : Pc) (k : Nat) : List Evt → Int
 | [] => 0
 | e :: r => if chkEv p k e = 0 then chkEvs p (k + 1) r else chkEv p k e
def chk (p : Pc) : Int := if chkIn p.ins = 0 then (if 400 < p.evs.length then 2 else chkEvs p 0 p.evs) else chkIn p.ins
def A94 : Ann := fun r => match r with
 | 0 => { slots := [(0, 0), (1, 1)] }
 | _ => {}
theorem fretsR {i : Ins} {c : Int} (h : 1 ≤ c ∧ c ≤ i.cs.length) : ∃ x, (i.cs.map crR)[0 + (c - 1).toNat]? = some (crR x) ∧ x.frets = fretsOf i c := by
 have hl : (c - 1).toNat < i.cs.length := by omega
 refine ⟨i.cs[(c - 1).toNat], ?_, ?_⟩
 ·rw [Nat.zero_add, List.getElem?_map, List.getElem?_eq_getElem hl]; rfl
 ·unfold fretsOf; rw [List.getD, List.getElem?_eq_getElem hl]; rfl
set_option maxHeartbeats 1000000 in
set_option maxRecDepth 100000 in
theorem checkStop_spec (p : Pc) (hp : p.Ok) (k : Nat) (s : Stp) (last : Int) : PRet C.P 94 [pcA p, .int .i64 k, .agg (stR s), .int .i64 last] (.int .i64 (chkStop p.ins (longest p.evs k s.c) s last)) := by
 have hpc := hp.cs
 refine pret_of ok mixed (A := A94) 2 Try.func94 rfl ?_
 unfold chkStop
 (repeat' (first | exact rfl | ((conv => whnf); first | exact rfl | refine ⟨by kernel_rfl, ?_⟩ | exact ⟨rfl, rfl⟩ | refine go0 ?_ | (intro ep) | (refine ifB (fun hb => ?_) (fun hb => ?_) <;> (try simp only [qs] at hb) <;> (try simp (disch := omega) only [wrapI] at hb) <;> (try (exfalso; omega))) | fail)))
 ·rw [if_pos (by omega)]
 ·rw [if_pos (by omega)]
 (repeat' (first | exact rfl | ((conv => whnf); first | exact rfl | refine ⟨by kernel_rfl, ?_⟩ | exact ⟨rfl, rfl⟩ | refine go0 ?_ | (intro ep) | (refine ifB (fun hb => ?_) (fun hb => ?_) <;> (try simp only [qs] at hb) <;> (try simp (disch := omega) only [wrapI] at hb) <;> (try (exfalso; omega))) | fail)))
 ·rw [if_neg (by omega), if_pos (by omega)]
 obtain ⟨x, x1, x2⟩ := fretsR (i := p.ins) (c := s.c) (by omega)
 (repeat' (first | exact rfl | ((conv => whnf); first | exact rfl | refine ⟨by kernel_rfl, ?_⟩ | exact ⟨rfl, rfl⟩ | refine go0 ?_ | (intro ep) | refine optS (by (try simp (disch := omega) only [wrapI]); exact x1) ?_ | refine ⟨_, longest_spec p hp k s.c, ?_⟩ | (refine ifB (fun hb => ?_) (fun hb => ?_) <;> (try simp only [qs] at hb) <;> (try simp (disch := omega) only [wrapI] at hb) <;> (try (exfalso; omega))) | fail)))
 all_goals (refine congrArg (AV.int .i64) ?_; rw [← x2]; (repeat' split) <;> omega)
def A86 : Ann := fun r => match r with
 | 0 => { slots := [(0, 0)] }
 | 8 => { slots := [(3, 1)] }
 | 16 => { slots := [(2, 2)] }
 | _ => {}
theorem right_zero {v : Int} {d t : Bool} (h : right v d t = true) : (decide (v = 0) && (d == false && (t == false && true))) = decide (v = 0) := by
 by_cases h0 : v = 0
 ·subst h0
  cases d <;> cases t <;> first | rfl | (exfalso; revert h; decide)
 ·simp [h0]
set_option maxHeartbeats 2000000 in
set_option maxRecDepth 100000 in
theorem check_spec (p : Pc) (hp : p.Ok) : PRet C.P 86 [pcA p] (.int .i64 (chk p)) := by
 refine pret_of ok mixed (A := A86) 3 Try.func86 rfl ?_
 (repeat' (first | exact rfl | ((conv => whnf); first | exact rfl | refine ⟨by kernel_rfl, ?_⟩ | exact ⟨rfl, rfl⟩ | refine go0 ?_ | (intro ep) | refine ⟨_, inCheck_spec p.ins, ?_⟩ | (refine ifB (fun hb => ?_) (fun hb => ?_) <;> (try simp only [qs] at hb) <;> (try simp (disch := omega) only [wrapI] at hb) <;> (try (exfalso; omega))) | fail)))
 ·unfold chk; rw [if_neg hb]
 ·rename_i hb1
  unfold chk; rw [if_pos hb1, if_pos (by omega)]
 rename_i hI
 have hA : chk p = chkEvs p 0 p.evs := by unfold chk; rw [if_pos hI, if_neg (by omega)]
 rw [hA]
 obtain ⟨e0, he⟩ : ∃ e1, e1 = ep := ⟨_, rfl⟩
 subst he
 (repeat' (first | exact rfl | ((conv => whnf); first | exact rfl | refine ⟨by kernel_rfl, ?_⟩ | exact ⟨rfl, rfl⟩ | refine go0 ?_ | (intro ep) | (refine ifB (fun hb => ?_) (fun hb => ?_) <;> (try simp only [qs] at hb) <;> (try simp (disch := omega) only [wrapI] at hb) <;> (try (exfalso; omega))) | fail)))
 (conv => whnf)
 refine loopM ok mixed (A := A86) [1, 21, 22, 23] [0] (S := { k : Nat // k ≤ p.evs.length ∧ chkEvs p k (p.evs.drop k) = chkEvs p 0 p.evs })
  (fr := fun s => frOf 0 73 [(1, .optr (.s 0) e0 3 0 0), (21, evsA p.evs), (22, .int .i64 p.evs.length), (23, .int .i64 (s.1 : Int))])
  (h := fun s => ⟨[.vec e0 [[crsA p.ins.cs, intsA p.ins.steps, evsA p.evs]], .hole, .hole], []⟩) (μ := fun s => p.evs.length - s.1) ⟨0, by omega, rfl⟩ rfl rfl ?_
 rintro ⟨k, hk, hs⟩
 show aexR _ _ _ (frOf 0 73 [(1, .optr (.s 0) e0 3 0 0), (21, evsA p.evs), (22, .int .i64 p.evs.length), (23, .int .i64 (k : Int))]) ⟨[.vec e0 [[crsA p.ins.cs, intsA p.ins.steps, evsA p.evs]], .hole, .hole], []⟩ _
 (conv => whnf)
 refine ifB (fun h1 => ?_) (fun h1 => ?_)
 ·simp only [decide_eq_true_eq] at h1
  have hlt : k < p.evs.length := by omega
  obtain ⟨e, hev⟩ : ∃ e, p.evs[k] = e := ⟨_, rfl⟩
  have hm : (p.evs.map evR)[0 + ((k : Nat) : Int).toNat]? = some (evR e) := by rw [mapR hlt, hev]
  have hsl : e.stops.length ≤ 9223372036854775807 := hp.sp e (by rw [← hev]; exact List.getElem_mem hlt)
  rw [drop_at hlt, hev] at hs
  have key : chkEv p k e ≠ 0 → chkEvs p 0 p.evs = chkEv p k e := fun h => by rw [← hs, chkEvs, if_neg h]
  have key0 : chkEv p k e = 0 → chkEvs p (k + 1) (p.evs.drop (k + 1)) = chkEvs p 0 p.evs := fun h => by rw [← hs, chkEvs, if_pos h]
  clear hs
  have e20 : (right e.v e.d e.t = false ∨ (k = 0 ∧ e.v = 0)) → chkEv p k e = 20 := fun h => by unfold chkEv; rw [if_pos h]
  have e21 : ¬ (right e.v e.d e.t = false ∨ (k = 0 ∧ e.v = 0)) → e.tie = true ∧ (k = 0 ∨ 0 < e.stops.length) → chkEv p k e = 21 := fun h h' => by unfold chkEv; rw [if_neg h, if_pos h']
  have e0' : ¬ (right e.v e.d e.t = false ∨ (k = 0 ∧ e.v = 0)) → ¬ (e.tie = true ∧ (k = 0 ∨ 0 < e.stops.length)) → chkEv p k e = chkStops p k 0 e.stops := fun h h' => by unfold chkEv; rw [if_neg h, if_neg h']
  (repeat' (first | exact rfl | ((conv => whnf); first | exact rfl | refine ⟨by kernel_rfl, ?_⟩ | exact ⟨rfl, rfl⟩ | refine go0 ?_ | (intro ep) | refine optS hm ?_ | refine ⟨_, valid_spec e.v e.d e.t, ?_⟩ | (refine ifB (fun hb => ?_) (fun hb => ?_) <;> (try simp only [qs] at hb) <;> (try simp (disch := omega) only [wrapI] at hb) <;> (try (exfalso; omega))) | fail)))
  ·rename_i hb1
   first | (rw [key (by rw [e20 (.inl hb1)]; decide), e20 (.inl hb1)]) | (rw [key (by rw [e20 (.inl hb)]; decide), e20 (.inl hb)])
  ·rename_i hb2 hb1
   have hv : e.v = 0 := by simp only [Bool.and_eq_true, decide_eq_true_eq] at hb; exact hb.1
   rw [key (by rw [e20 (.inr ⟨by omega, hv⟩)]; decide), e20 (.inr ⟨by omega, hv⟩)]
  all_goals
   have hR : right e.v e.d e.t = true := by assumption
   have hn : ¬ (right e.v e.d e.t = false ∨ (k = 0 ∧ e.v = 0)) := by
    rintro (h | ⟨h, h'⟩)
    ·rw [hR] at h; cases h
    ·first
      | omega
      | (
        have hz : (decide (e.v = 0) && (e.d == false && (e.t == false && true))) = false := by assumption
        rw [right_zero hR, h'] at hz
        cases hz)
   replace e21 := e21 hn
   replace e0' := e0' hn
  ·rename_i ht
   have := e21 ⟨by assumption, .inl (by omega)⟩
   rw [key (by rw [this]; decide), this]
  all_goals first
   | (
     have h2 := e21 ⟨by assumption, .inr (by omega)⟩
     rw [key (by rw [h2]; decide), h2]
     done)
   | skip
  all_goals
   have hT : ¬ (e.tie = true ∧ (k = 0 ∨ 0 < e.stops.length)) := by
    rintro ⟨h, h'⟩
    rcases h' with h' | h' <;> first | omega | (simp_all; done)
   replace e0' := e0' hT
   (repeat' (first | exact rfl | ((conv => whnf); first | exact rfl | refine ⟨by kernel_rfl, ?_⟩ | exact ⟨rfl, rfl⟩ | refine go0 ?_ | (intro ep) | (refine ifB (fun hb => ?_) (fun hb => ?_) <;> (try simp only [qs] at hb) <;> (try simp (disch := omega) only [wrapI] at hb) <;> (try (exfalso; omega))) | fail)))
   (conv => whnf)
   refine loopM ok mixed (A := A86) [1, 4, 6, 21, 22, 23, 55, 56, 57] [0] (S := { x : Nat × Int // x.1 ≤ e.stops.length ∧ chkStops p k x.2 (e.stops.drop x.1) = chkStops p k 0 e.stops })
    (fr := fun s => frOf 0 73 [(1, .optr (.s 0) e0 3 0 0), (4, .int .i64 k), (6, .int .i64 s.1.2), (21, evsA p.evs), (22, .int .i64 p.evs.length), (23, .int .i64 (k : Int)), (55, stsA e.stops), (56, .int .i64 e.stops.length), (57, .int .i64 (s.1.1 : Int))])
    (h := fun s => ⟨[.vec e0 [[crsA p.ins.cs, intsA p.ins.steps, evsA p.evs]], .hole, .hole], []⟩) (μ := fun s => e.stops.length - s.1.1) ⟨(0, 0), by omega, rfl⟩ rfl rfl ?_
   rintro ⟨⟨j, last⟩, hj, hs⟩
   show aexR _ _ _ (frOf 0 73 [(1, .optr (.s 0) e0 3 0 0), (4, .int .i64 k), (6, .int .i64 last), (21, evsA p.evs), (22, .int .i64 p.evs.length), (23, .int .i64 (k : Int)), (55, stsA e.stops), (56, .int .i64 e.stops.length), (57, .int .i64 (j : Int))]) ⟨[.vec e0 [[crsA p.ins.cs, intsA p.ins.steps, evsA p.evs]], .hole, .hole], []⟩ _
   simp only at hj hs
   (conv => whnf)
   refine ifB (fun h2 => ?_) (fun h2 => ?_)
   ·simp only [decide_eq_true_eq] at h2
    have hlj : j < e.stops.length := by omega
    first
     | (exfalso; omega)
     | skip
    all_goals
     rw [drop_at hlj] at hs
     simp only [chkStops] at hs
     (repeat' (first | exact rfl | ((conv => whnf); first | exact rfl | refine ⟨by kernel_rfl, ?_⟩ | exact ⟨rfl, rfl⟩ | refine go0 ?_ | (intro ep) | refine optS (mapR hlj) ?_ | refine ⟨_, checkStop_spec p hp k e.stops[j] last, ?_⟩ | (refine ifB (fun hb => ?_) (fun hb => ?_) <;> (try simp only [qs] at hb) <;> (try simp (disch := omega) only [wrapI] at hb) <;> (try (exfalso; omega))) | fail)))
     ·rw [if_neg hb] at hs
      have hc : chkEv p k e = chkStop p.ins (longest p.evs k (e.stops[j]).c) e.stops[j] last := by rw [e0', hs]
      rw [key (by rw [hc]; exact hb), hc]
     ·rw [if_pos hb] at hs
      refine back_of ⟨(j + 1, (e.stops[j]).c), by omega, hs⟩ ⟨by (first | exact rfl | (simp (disch := omega) only [wrapI]; exact rfl)), rfl, by simp only; omega⟩
   ·simp only [decide_eq_false_iff_not] at h2
    rw [List.drop_eq_nil_of_le (by omega)] at hs
    (conv => whnf)
    refine back_of ⟨k + 1, by omega, key0 (by rw [e0', ← hs]; rfl)⟩ ⟨by (first | exact rfl | (simp (disch := omega) only [wrapI]; exact rfl)), rfl, by simp only; omega⟩
 ·simp only [decide_eq_false_iff_not] at h1
  have h0 : chkEvs p 0 p.evs = 0 := by rw [← hs, List.drop_eq_nil_of_le (by omega)]; rfl
  (repeat' (first | exact rfl | ((conv => whnf); first | exact rfl | refine ⟨by kernel_rfl, ?_⟩ | exact ⟨rfl, rfl⟩ | refine go0 ?_ | (intro ep) | (refine ifB (fun hb => ?_) (fun hb => ?_) <;> (try simp only [qs] at hb) <;> (try simp (disch := omega) only [wrapI] at hb) <;> (try (exfalso; omega))) | fail)))
  rw [h0]
end Go.Ab.V.S

namespace Go.Ab.V.S
open Go.Proofs
theorem ints_app (l m : List Int) : ints (l ++ m) = ints l ++ ints m := List.map_append
theorem pure_ints (l : List Int) : pureRows (ints l) := by
 intro row hr c hc
 obtain ⟨x, _, rfl⟩ := List.mem_map.mp hr
 cases List.mem_singleton.mp hc
 rfl
def frc (f : Int) (e : Evt) : Int := if 0 < ticks e.v e.d e.t then ticks e.v e.d e.t else f
def onsT (f t : Int) : List Evt → List Int
 | [] => []
 | e :: r => (t + frc f e) :: onsT (frc f e) (t + frc f e) r
def onsets (p : Pc) : List Int := 0 :: onsT 0 0 p.evs
def A87 : Ann := fun r => match r with
 | 0 => { slots := [(0, 0)] }
 | _ => {}
def pcV (p : Pc) : List AV := [crsA p.ins.cs, intsA p.ins.steps, evsA p.evs]
theorem timed_spec (p : Pc) : HRet C.P 87 [pcA p] (fun B eps => .fn (.func 95) [] [.optr (.d B) (eps 0) 3 0 0]) (fun B eps => [.vec (eps 0) [pcV p]]) := by
 refine hret_of ok mixed (A := A87) 1 Try.func87 rfl ?_ (fun B E eps => ⟨fun k => eps k + E, rfl, rfl⟩)
 (repeat' (first | exact rfl | ((conv => whnf); first | exact rfl | refine ⟨by kernel_rfl, ?_⟩ | exact ⟨rfl, rfl⟩ | refine go0 ?_ | (intro ep) | (refine ifB (fun hb => ?_) (fun hb => ?_) <;> (try simp only [qs] at hb) <;> (try simp (disch := omega) only [wrapI] at hb) <;> (try (exfalso; omega))) | fail)))
 exact ⟨fun _ => ep, rfl, rfl⟩
theorem ticks_bd (v : Int) (d t : Bool) : 0 ≤ ticks v d t ∧ ticks v d t ≤ 576 := by
 unfold ticks
 split
 ·omega
 ·simp only
  repeat' split
  all_goals omega
def A71 : Ann := fun r => match r with
 | 0 => { slots := [(0, 0)] }
 | 4 => { slots := [(0, 1), (1, 2)] }
 | 8 => { slots := [(7, 3), (8, 4)] }
 | _ => {}
def A95 : Ann := fun r => match r with
 | 3 => { slots := [(3, 5)] }
 | _ => {}
theorem chk_len {p : Pc} (h : chk p = 0) : p.evs.length ≤ 400 := by
 unfold chk at h
 split at h
 ·split at h
  ·omega
  ·omega
 ·omega
def onsV (p : Pc) : AV := if chk p = 0 then .tup [intsA (onsets p), .int .i64 0] else .tup [.nils, .int .i64 (chk p)]
set_option maxHeartbeats 2000000 in
set_option maxRecDepth 100000 in
theorem onsets_spec (p : Pc) (hp : p.Ok) : PRet C.P 71 [pcA p] (onsV p) := by
 unfold onsV
 refine pret_of (okx [87] []) mixed (A := A71) 5 Try.func71 rfl ?_
 (repeat' (first | exact rfl | ((conv => whnf); first | exact rfl | refine ⟨by kernel_rfl, ?_⟩ | exact ⟨rfl, rfl⟩ | refine go0 ?_ | (intro ep) | refine ⟨_, check_spec p hp, ?_⟩ | refine ⟨_, _, timed_spec p, ?_⟩ | (refine ifB (fun hb => ?_) (fun hb => ?_) <;> (try simp only [qs] at hb) <;> (try simp (disch := omega) only [wrapI] at hb) <;> (try (exfalso; omega))) | fail)))
 ·rw [if_neg hb]
 rw [if_pos hb]
 have hlen := chk_len hb
 rename_i e0 eA e2
 revert ep
 intro ep0
 (conv => whnf)
 refine rangeF (okx [87] []) rfl rfl ?_
 intro l fnid T D
 refine fnY_of (okx [87] []) mixed (A := A95) 1 Try.func95 rfl ?_
 (repeat' (first | exact rfl | ((conv => whnf); first | exact rfl | refine ⟨by kernel_rfl, ?_⟩ | exact ⟨rfl, rfl⟩ | refine go0 ?_ | (intro ep) | (refine ifB (fun hb => ?_) (fun hb => ?_) <;> (try simp only [qs] at hb) <;> (try simp (disch := omega) only [wrapI] at hb) <;> (try (exfalso; omega))) | fail)))
 (conv => whnf)
 refine loopM (C := (Cx [87] []).withY _) ⟨(okx [87] []).tok, (okx [87] []).fn⟩ mixed (A := A95) [0, 3, 8, 9, 10] [0, 1, 2] (S := { x : Nat × Int × Int × List Int × Nat // x.1 ≤ p.evs.length ∧ x.2.2.2.1.length = x.1 ∧ (0 ≤ x.2.1 ∧ x.2.1 ≤ 576) ∧ (0 ≤ x.2.2.1 ∧ x.2.2.1 ≤ 576 * x.1) ∧ x.2.2.2.1 ++ [x.2.2.1] ++ onsT x.2.1 x.2.2.1 (p.evs.drop x.1) = onsets p })
  (fr := fun s => frOf 0 27 [(0, .fn (.yield l) [] []), (3, .int .i64 s.1.2.1), (8, evsA p.evs), (9, .int .i64 p.evs.length), (10, .int .i64 (s.1.1 : Int))])
  (h := fun s => ⟨[.vec e0 [pcV p], .vec s.1.2.2.2.2 (ints (s.1.2.2.2.1 ++ [s.1.2.2.1])), .vec e2 [[.oslc (.s 1) s.1.2.2.2.2 1 0 (s.1.1 + 1) false]], .hole, .hole, .hole], [.vec (ep0 0) [pcV p]]⟩) (μ := fun s => p.evs.length - s.1.1)
  ⟨(0, 0, 0, [], eA), by simp, rfl, by simp, by simp, by simp [onsets]⟩ ?_ ?_ ?_
 ·exact rfl
 ·exact rfl
 rintro ⟨⟨k, f, t, pre, eB⟩, hk, hpre, hf, ht, hs⟩
 simp only at hk hpre hf ht hs
 show aexR _ _ _ (frOf 0 27 [(0, .fn (.yield l) [] []), (3, .int .i64 f), (8, evsA p.evs), (9, .int .i64 p.evs.length), (10, .int .i64 (k : Int))])
  ⟨[.vec e0 [pcV p], .vec eB (ints (pre ++ [t])), .vec e2 [[.oslc (.s 1) eB 1 0 (k + 1) false]], .hole, .hole, .hole], [.vec (ep0 0) [pcV p]]⟩ _
 (conv => whnf)
 refine ifB (fun h1 => ?_) (fun h1 => ?_)
 ·simp only [decide_eq_true_eq] at h1
  have hlt : k < p.evs.length := by omega
  obtain ⟨e, hev⟩ : ∃ e, p.evs[k] = e := ⟨_, rfl⟩
  have hm : (p.evs.map evR)[0 + ((k : Nat) : Int).toNat]? = some (evR e) := by rw [mapR hlt, hev]
  have tb := ticks_bd e.v e.d e.t
  rw [drop_at hlt, hev] at hs
  simp only [onsT] at hs
  have hrd : (ints (pre ++ [t]))[0 + ((k : Nat) : Int).toNat]? = some [.int .i64 t] := by
   rw [intsR (by simp [hpre])]
   simp [← hpre]
  (repeat' (first | exact rfl | ((conv => whnf); first | exact rfl | refine ⟨by kernel_rfl, ?_⟩ | exact ⟨rfl, rfl⟩ | refine go0 ?_ | (intro ep) | refine optS hm ?_ | refine ⟨_, ticks_spec e.v e.d e.t, ?_⟩ | (refine ifB (fun hb => ?_) (fun hb => ?_) <;> (try simp only [qs] at hb) <;> (try simp (disch := omega) only [wrapI] at hb) <;> (try (exfalso; omega))) | (refine ⟨by exact rfl, by exact rfl, wk_of (okx [87] []) mixed (A := A71) ?_⟩) | refine wk_of (okx [87] []) mixed (A := A71) ?_ | refine optS hrd ?_ | fail)))
  all_goals (conv => whnf)
  ·have e1 : frc f e = ticks e.v e.d e.t := by unfold frc; rw [if_pos (by omega)]
   rw [e1] at hs
   refine back_of ⟨(k + 1, ticks e.v e.d e.t, t + ticks e.v e.d e.t, pre ++ [t], ep), by simp only; omega, by simp [hpre], by simp only; omega, by simp only; omega, by simpa using hs⟩ ⟨by (first | exact rfl | (simp (disch := omega) only [wrapI]; exact rfl)), ?_, by simp only; omega⟩
   simp (disch := omega) only [wrapI]
   refine Eq.trans (b := ⟨[.vec e0 [pcV p], .vec ep ((ints (pre ++ [t])).take (k + 1) ++ [[.int .i64 (t + ticks e.v e.d e.t)]]), .vec e2 [[.oslc (.s 1) ep 1 0 (k + 1 + 1) false]], .hole, .hole, .hole], [.vec (ep0 0) [pcV p]]⟩) rfl ?_
   rw [ints_app (pre ++ [t]), List.take_of_length_le (by simp [ints, hpre])]
   rfl
  ·have e1 : frc f e = f := by unfold frc; rw [if_neg (by omega)]
   rw [e1] at hs
   refine back_of ⟨(k + 1, f, t + f, pre ++ [t], ep), by simp only; omega, by simp [hpre], by simp only; omega, by simp only; omega, by simpa using hs⟩ ⟨by (first | exact rfl | (simp (disch := omega) only [wrapI]; exact rfl)), ?_, by simp only; omega⟩
   simp (disch := omega) only [wrapI]
   refine Eq.trans (b := ⟨[.vec e0 [pcV p], .vec ep ((ints (pre ++ [t])).take (k + 1) ++ [[.int .i64 (t + f)]]), .vec e2 [[.oslc (.s 1) ep 1 0 (k + 1 + 1) false]], .hole, .hole, .hole], [.vec (ep0 0) [pcV p]]⟩) rfl ?_
   rw [ints_app (pre ++ [t]), List.take_of_length_le (by simp [ints, hpre])]
   rfl
 ·simp only [decide_eq_false_iff_not] at h1
  rw [List.drop_eq_nil_of_le (by omega)] at hs
  simp only [onsT, List.append_nil] at hs
  (repeat' (first | exact rfl | ((conv => whnf); first | exact rfl | refine ⟨by kernel_rfl, ?_⟩ | exact ⟨rfl, rfl⟩ | refine go0 ?_ | (intro ep) | (refine ifB (fun hb => ?_) (fun hb => ?_) <;> (try simp only [qs] at hb) <;> (try simp (disch := omega) only [wrapI] at hb) <;> (try (exfalso; omega))) | fail)))
  refine ⟨pure_ints _, ?_⟩
  rw [← hs]
  refine ⟨by first | rfl | kernel_rfl, ?_⟩
  show AV.tup [.lslc 1 (ints (pre ++ [t])) 0 (k + 1) false, _] = .tup [.lslc 1 (ints (pre ++ [t])) 0 (pre ++ [t]).length false, _]
  rw [show (pre ++ [t]).length = k + 1 by simp [hpre]]
end Go.Ab.V.S

namespace Go.Ab.V.S
open Go.Proofs
end Go.Ab.V.S

namespace Go.Ab.V.S
open Go.Proofs
structure Sgn where
 v : Int
 d : Bool
 t : Bool
def Sgn.tk (s : Sgn) : Int := ticks s.v s.d s.t
def nextS (s : Sgn) (e : Evt) : Sgn := if e.v = 0 then s else ⟨e.v, e.d, e.t⟩
def fcs (s : Sgn) : List Evt → List Sgn
 | [] => []
 | e :: r => nextS s e :: fcs (nextS s e) r
def tmsT (t : Int) : List Sgn → List Int
 | [] => []
 | s :: r => (t + s.tk) :: tmsT (t + s.tk) r
def times (p : Pc) : List Int := 0 :: tmsT 0 (fcs ⟨0, false, false⟩ p.evs)
theorem right_tk {v : Int} {d t : Bool} (h : right v d t = true) : (v = 0 ↔ ¬ 0 < ticks v d t) := by
 unfold right at h
 by_cases h0 : v = 0
 ·subst h0
  unfold ticks
  simp
 ·rw [if_neg h0] at h
  simp only [Bool.and_eq_true, decide_eq_true_eq, Bool.not_eq_true'] at h
  obtain ⟨⟨h1, h2⟩, h3⟩ := h
  rcases seven (v := v) (by omega) (by omega) with rfl | rfl | rfl | rfl | rfl | rfl | rfl <;> cases d <;> cases t <;> simp_all [ticks]
theorem chkEv_right {p : Pc} {k : Nat} {e : Evt} (h : chkEv p k e = 0) : right e.v e.d e.t = true := by
 unfold chkEv at h
 split at h
 ·cases h
 ·rename_i hn
  cases hr : right e.v e.d e.t
  ·exact absurd (.inl hr) hn
  ·rfl
theorem chkEvs_right {p : Pc} : ∀ {l : List Evt} {k : Nat}, chkEvs p k l = 0 → ∀ e ∈ l, right e.v e.d e.t = true
 | [], _, _, _, h => by cases h
 | a :: r, k, h, e, he => by
  unfold chkEvs at h
  split at h
  ·rename_i h0
   rcases List.mem_cons.1 he with rfl | he
   ·exact chkEv_right h0
   ·exact chkEvs_right h e he
  ·rename_i h0; exact absurd h h0
theorem chk_right {p : Pc} (h : chk p = 0) : ∀ e ∈ p.evs, right e.v e.d e.t = true := by
 unfold chk at h
 split at h
 ·split at h
  ·cases h
  ·exact chkEvs_right h
 ·rename_i h0; exact absurd h h0
theorem onsT_len : ∀ (l : List Evt) (f t : Int), (onsT f t l).length = l.length
 | [], _, _ => rfl
 | e :: r, f, t => by simp [onsT, onsT_len r]
theorem ons_len (p : Pc) : (onsets p).length = p.evs.length + 1 := by simp [onsets, onsT_len]
end Go.Ab.V.S

namespace Go.Ab.V.S
open Go.Proofs
theorem chkEvs_iff {p : Pc} : ∀ {l : List Evt} {k : Nat}, chkEvs p k l = 0 ↔ ∀ j (h : j < l.length), chkEv p (k + j) l[j] = 0
 | [], k => by simp [chkEvs]
 | e :: r, k => by
  unfold chkEvs
  constructor
  ·intro h j hj
   split at h
   ·rename_i h0
    cases j with
    | zero => exact h0
    | succ j =>
     have := (chkEvs_iff.1 h) j (by simpa using hj)
     rw [show k + (j + 1) = k + 1 + j by omega]
     exact this
   ·rename_i h0; exact absurd h h0
  ·intro h
   have h0 : chkEv p k e = 0 := h 0 (by simp)
   rw [if_pos h0]
   refine chkEvs_iff.2 fun j hj => ?_
   have := h (j + 1) (by simpa using hj)
   rw [show k + 1 + j = k + (j + 1) by omega]
   exact this
theorem chk_iff {p : Pc} : chk p = 0 ↔ chkIn p.ins = 0 ∧ p.evs.length ≤ 400 ∧ ∀ j (h : j < p.evs.length), chkEv p j p.evs[j] = 0 := by
 unfold chk
 constructor
 ·intro h
  split at h
  ·rename_i h1
   split at h
   ·cases h
   ·refine ⟨h1, by omega, fun j hj => ?_⟩
    have := chkEvs_iff.1 h j hj
    rwa [Nat.zero_add] at this
  ·rename_i h1; exact absurd h h1
 ·rintro ⟨h1, h2, h3⟩
  rw [if_pos h1, if_neg (by omega)]
  refine chkEvs_iff.2 fun j hj => ?_
  rw [Nat.zero_add]
  exact h3 j hj
def StpsOk (i : Ins) (lg : Int → Int) : Int → List Stp → Prop
 | _, [] => True
 | last, s :: r => chkStop i (lg s.c) s last = 0 ∧ StpsOk i lg s.c r
theorem chkStops_iff {p : Pc} {k : Nat} : ∀ {l : List Stp} {last : Int}, chkStops p k last l = 0 ↔ StpsOk p.ins (fun c => longest p.evs k c) last l
 | [], last => by simp [chkStops, StpsOk]
 | s :: r, last => by
  unfold chkStops StpsOk
  constructor
  ·intro h
   split at h
   ·rename_i h0; exact ⟨h0, chkStops_iff.1 h⟩
   ·rename_i h0; exact absurd h h0
  ·rintro ⟨h0, h⟩
   rw [if_pos h0]
   exact chkStops_iff.2 h
theorem chkEv_iff {p : Pc} {k : Nat} {e : Evt} : chkEv p k e = 0 ↔ right e.v e.d e.t = true ∧ ¬ (k = 0 ∧ e.v = 0) ∧ ¬ (e.tie = true ∧ (k = 0 ∨ 0 < e.stops.length)) ∧ StpsOk p.ins (fun c => longest p.evs k c) 0 e.stops := by
 unfold chkEv
 constructor
 ·intro h
  split at h
  ·cases h
  ·rename_i h1
   split at h
   ·cases h
   ·rename_i h2
    refine ⟨?_, fun x => h1 (.inr x), h2, chkStops_iff.1 h⟩
    cases hr : right e.v e.d e.t
    ·exact absurd (.inl hr) h1
    ·rfl
 ·rintro ⟨h1, h2, h3, h4⟩
  rw [if_neg (by rintro (h | h) <;> first | (rw [h1] at h; cases h; done) | exact h2 h), if_neg h3]
  exact chkStops_iff.2 h4
theorem chkStop_iff {i : Ins} {lg last : Int} {s : Stp} : chkStop i lg s last = 0 ↔ (1 ≤ s.c ∧ s.c ≤ i.cs.length) ∧ (0 ≤ s.f ∧ s.f ≤ fretsOf i s.c) ∧ last < s.c ∧ (0 ≤ s.r ∧ s.r ≤ 3 ∧ 0 ≤ s.g ∧ s.g ≤ 4) ∧ (0 ≤ s.h ∧ s.h ≤ lg ∧ (0 < s.h → s.f ≠ 0)) := by
 unfold chkStop
 constructor
 ·intro h
  repeat' (split at h; · cases h)
  omega
 ·intro h
  rw [if_neg (by omega), if_neg (by omega), if_neg (by omega), if_neg (by omega), if_neg (by omega)]
theorem longL_len (c : Int) : ∀ (n : Nat) (l : List Evt), longL c n l ≤ l.length
 | 0, _ => by simp [longL]
 | n + 1, [] => by simp [longL]
 | n + 1, e :: r => by
  simp only [longL, List.length_cons]
  split
  ·omega
  ·have := longL_len c n r; omega
theorem longest_at {l : List Evt} {k : Nat} (h : k < l.length) (c : Int) : longest l k c = (longL c 15 (l.drop (k + 1)) : Nat) := by
 unfold longest
 rw [if_neg (by omega)]
 congr 3
theorem stps_h {i : Ins} {lg : Int → Int} {b : Int} (h : ∀ c, lg c ≤ b) : ∀ {l : List Stp} {last : Int}, StpsOk i lg last l → ∀ s ∈ l, 0 ≤ s.h ∧ s.h ≤ b
 | [], _, _, s, hs => by cases hs
 | a :: r, last, ⟨h1, h2⟩, s, hs => by
  rcases List.mem_cons.1 hs with rfl | hs
  ·rw [chkStop_iff] at h1
   have := h s.c
   omega
  ·exact stps_h h h2 s hs
theorem chk_holds {p : Pc} (hc : chk p = 0) {k : Nat} (h : k < p.evs.length) : ∀ s ∈ (p.evs[k]).stops, 0 ≤ s.h ∧ k + 1 + s.h.toNat ≤ p.evs.length := by
 intro s hs
 have h1 := (chkEv_iff.1 ((chk_iff.1 hc).2.2 k h)).2.2.2
 have := stps_h (b := ((p.evs.length - (k + 1) : Nat) : Int)) (fun c => by
  rw [longest_at h]
  have := longL_len c 15 (p.evs.drop (k + 1))
  rw [List.length_drop] at this
  omega) h1 s hs
 omega
theorem stps_mem {i : Ins} {lg : Int → Int} : ∀ {l : List Stp} {last : Int}, StpsOk i lg last l → ∀ s ∈ l, (1 ≤ s.c ∧ s.c ≤ i.cs.length) ∧ (0 ≤ s.f ∧ s.f ≤ fretsOf i s.c) ∧ last < s.c ∧ (0 ≤ s.h ∧ s.h ≤ lg s.c ∧ (0 < s.h → s.f ≠ 0))
 | [], _, _, s, hs => by cases hs
 | a :: r, last, ⟨h1, h2⟩, s, hs => by
  rw [chkStop_iff] at h1
  rcases List.mem_cons.1 hs with rfl | hs
  ·omega
  ·have := stps_mem h2 s hs
   omega
theorem stps_asc {i : Ins} {lg : Int → Int} : ∀ {l : List Stp} {last : Int}, StpsOk i lg last l → l.Pairwise (fun a b => a.c < b.c)
 | [], _, _ => .nil
 | a :: r, last, ⟨h1, h2⟩ => List.pairwise_cons.2 ⟨fun s hs => (stps_mem h2 s hs).2.2.1, stps_asc h2⟩
theorem stps_len {i : Ins} {lg : Int → Int} : ∀ {l : List Stp} {last : Int}, StpsOk i lg last l → last ≤ i.cs.length → (l.length : Int) + last ≤ i.cs.length
 | [], _, _, h => by simpa using h
 | a :: r, last, ⟨h1, h2⟩, h => by
  rw [chkStop_iff] at h1
  have := stps_len h2 (by omega)
  rw [List.length_cons]
  omega
theorem chkCs_iff {steps : List Int} : ∀ {l : List Crs}, chkCs steps l = 0 → ∀ c ∈ l, (0 ≤ c.frets ∧ c.frets ≤ steps.length) ∧ (0 ≤ c.pitch ∧ c.pitch ≤ 127) ∧ highest steps c ≤ 127
 | [], _, c, hc => by cases hc
 | a :: r, h, c, hc => by
  unfold chkCs at h
  repeat' (split at h; · cases h)
  rcases List.mem_cons.1 hc with rfl | hc
  ·omega
  ·exact chkCs_iff h c hc
theorem chkIn_iff {i : Ins} (h : chkIn i = 0) : (1 ≤ i.cs.length ∧ i.cs.length ≤ 14 ∧ i.steps.length ≤ 18) ∧ chkSteps 0 i.steps = true ∧ ∀ c ∈ i.cs, (0 ≤ c.frets ∧ c.frets ≤ i.steps.length) ∧ (0 ≤ c.pitch ∧ c.pitch ≤ 127) ∧ highest i.steps c ≤ 127 := by
 unfold chkIn at h
 repeat' (split at h; · cases h)
 rename_i h1 h2 h3
 exact ⟨by omega, by simpa using h3, chkCs_iff h⟩
structure Vp (p : Pc) : Prop where
 len : p.evs.length ≤ 400
 cs : 1 ≤ p.ins.cs.length ∧ p.ins.cs.length ≤ 14
 steps : p.ins.steps.length ≤ 18
 chkI : chkIn p.ins = 0
 crs : ∀ c ∈ p.ins.cs, (0 ≤ c.frets ∧ c.frets ≤ p.ins.steps.length) ∧ (0 ≤ c.pitch ∧ c.pitch ≤ 127) ∧ highest p.ins.steps c ≤ 127
 stp : ∀ x ∈ p.ins.steps, 0 < x ∧ x ≤ 127
 sp : ∀ k (h : k < p.evs.length), ∀ s ∈ p.evs[k].stops, (1 ≤ s.c ∧ s.c ≤ p.ins.cs.length) ∧ (0 ≤ s.f ∧ s.f ≤ fretsOf p.ins s.c) ∧ (0 ≤ s.h ∧ s.h ≤ longest p.evs k s.c ∧ (0 < s.h → s.f ≠ 0)) ∧ k + 1 + s.h.toNat ≤ p.evs.length
 asc : ∀ k (h : k < p.evs.length), p.evs[k].stops.Pairwise (fun a b => a.c < b.c)
 sl : ∀ k (h : k < p.evs.length), p.evs[k].stops.length ≤ 14
 tie : ∀ k (h : k < p.evs.length), p.evs[k].tie = true → k ≠ 0 ∧ p.evs[k].stops = []
theorem vp {p : Pc} (hc : chk p = 0) : Vp p := by
 obtain ⟨h1, h2, h3⟩ := chk_iff.1 hc
 obtain ⟨i1, i2, i3⟩ := chkIn_iff h1
 have hs : ∀ k (h : k < p.evs.length), StpsOk p.ins (fun c => longest p.evs k c) 0 p.evs[k].stops := fun k h => (chkEv_iff.1 (h3 k h)).2.2.2
 refine ⟨h2, ⟨i1.1, i1.2.1⟩, i1.2.2, h1, i3, chkSteps_bd _ _ i2, fun k h s hm => ?_, fun k h => stps_asc (hs k h), fun k h => ?_, fun k h ht => ?_⟩
 ·have a := stps_mem (hs k h) s hm
  exact ⟨a.1, a.2.1, a.2.2.2, (chk_holds hc h s hm).2⟩
 ·have := stps_len (hs k h) (by omega)
  omega
 ·have a := (chkEv_iff.1 (h3 k h)).2.2.1
  refine ⟨fun h0 => a ⟨ht, .inl h0⟩, ?_⟩
  cases hx : p.evs[k].stops with
  | nil => rfl
  | cons x r => exact absurd ⟨ht, .inr (by rw [hx]; simp)⟩ a
def on (p : Pc) (k : Nat) : Int := (onsets p).getD k 0
theorem frc_pos {e : Evt} {f : Int} (hr : right e.v e.d e.t = true) (h : 0 < f ∨ e.v ≠ 0) (hf : 0 ≤ f ∧ f ≤ 576) : 0 < frc f e ∧ frc f e ≤ 576 := by
 have h1 := right_tk hr
 have h2 := ticks_bd e.v e.d e.t
 unfold frc
 split
 ·omega
 ·rename_i h3
  have := h1.2 h3
  omega
theorem onsT_asc : ∀ (l : List Evt) (f t : Int), (∀ e ∈ l, right e.v e.d e.t = true) → (0 ≤ f ∧ f ≤ 576) → (0 < f ∨ ∀ e ∈ l.head?, e.v ≠ 0) → (onsT f t l).Pairwise (· < ·) ∧ ∀ x ∈ onsT f t l, t < x ∧ x ≤ t + 576 * l.length
 | [], f, t, _, _, _ => by simp [onsT]
 | e :: r, f, t, hr, hf, h0 => by
  have hp := frc_pos (hr e (by simp)) (h0.imp id fun h => h e (by simp)) hf
  obtain ⟨a, b⟩ := onsT_asc r (frc f e) (t + frc f e) (fun e he => hr e (List.mem_cons_of_mem _ he)) ⟨by omega, hp.2⟩ (.inl hp.1)
  refine ⟨?_, fun x hx => ?_⟩
  ·rw [onsT, List.pairwise_cons]
   exact ⟨fun x hx => (b x hx).1, a⟩
  ·rw [onsT] at hx
   rw [List.length_cons]
   rcases List.mem_cons.1 hx with rfl | hx
   ·omega
   ·have := b x hx
    omega
theorem chk_first {p : Pc} (hc : chk p = 0) : ∀ e ∈ p.evs.head?, e.v ≠ 0 := by
 intro e he hv
 obtain ⟨h1, h2, h3⟩ := chk_iff.1 hc
 cases hp : p.evs with
 | nil => rw [hp] at he; cases he
 | cons a r =>
  have h0 : 0 < p.evs.length := by rw [hp]; simp
  have h4 := h3 0 h0
  have ha : p.evs[0] = a := by simp [hp]
  rw [hp] at he
  simp only [List.head?_cons, Option.mem_def, Option.some.injEq] at he
  rw [ha, he] at h4
  exact (chkEv_iff.1 h4).2.1 ⟨rfl, hv⟩
theorem ons_asc {p : Pc} (hc : chk p = 0) : (onsets p).Pairwise (· < ·) ∧ ∀ x ∈ onsets p, 0 ≤ x ∧ x ≤ 230400 := by
 obtain ⟨a, b⟩ := onsT_asc p.evs 0 0 (chk_right hc) (by omega) (.inr (chk_first hc))
 have hl := chk_len hc
 refine ⟨List.pairwise_cons.2 ⟨fun x hx => (b x hx).1, a⟩, fun x hx => ?_⟩
 rcases List.mem_cons.1 hx with rfl | hx
 ·omega
 ·have := b x hx
  omega
theorem on_get {p : Pc} {k : Nat} (h : k ≤ p.evs.length) : (onsets p)[k]'(by rw [ons_len]; omega) = on p k := by
 unfold on
 rw [List.getD, List.getElem?_eq_getElem (by rw [ons_len]; omega)]; rfl
theorem on_bd {p : Pc} (hc : chk p = 0) (k : Nat) : 0 ≤ on p k ∧ on p k ≤ 230400 := by
 unfold on
 rw [List.getD]
 cases h : (onsets p)[k]? with
 | none => simp
 | some x => exact (ons_asc hc).2 x (List.mem_of_getElem? h)
end Go.Ab.V.S

namespace Go.Ab.V.S
open Go.Proofs
def crsAt (i : Ins) (c : Int) : Crs := i.cs.getD (c - 1).toNat ⟨0, 0, false⟩
def pitchOf (i : Ins) (c f : Int) : Int := (crsAt i c).pitch + if 0 < f then i.steps.getD (f - 1).toNat 0 else 0
theorem crsAt_mem {i : Ins} {c : Int} (h : 1 ≤ c ∧ c ≤ i.cs.length) : crsAt i c ∈ i.cs := by
 have hl : (c - 1).toNat < i.cs.length := by omega
 unfold crsAt
 rw [List.getD, List.getElem?_eq_getElem hl]
 exact List.getElem_mem hl
theorem crsAt_get {i : Ins} {c : Int} (h : 1 ≤ c ∧ c ≤ i.cs.length) : (i.cs.map crR)[0 + (c - 1).toNat]? = some (crR (crsAt i c)) := by
 have hl : (c - 1).toNat < i.cs.length := by omega
 unfold crsAt
 rw [Nat.zero_add, List.getElem?_map, List.getElem?_eq_getElem hl, List.getD, List.getElem?_eq_getElem hl]; rfl
theorem steps_get {i : Ins} {f : Int} (h : 0 < f ∧ f ≤ i.steps.length) : (ints i.steps)[0 + (f - 1).toNat]? = some [.int .i64 (i.steps.getD (f - 1).toNat 0)] := by
 have hl : (f - 1).toNat < i.steps.length := by omega
 unfold ints
 rw [Nat.zero_add, List.getElem?_map, List.getElem?_eq_getElem hl, List.getD, List.getElem?_eq_getElem hl]; rfl
theorem steps_bd {i : Ins} (h : ∀ x ∈ i.steps, 0 < x ∧ x ≤ 127) (k : Nat) : 0 ≤ i.steps.getD k 0 ∧ i.steps.getD k 0 ≤ 127 := by
 rw [List.getD]
 cases hk : i.steps[k]? with
 | none => simp
 | some x => have := h x (List.mem_of_getElem? hk); simp only [Option.getD_some]; omega
def A89 : Ann := fun r => match r with
 | 0 => { slots := [(0, 0), (1, 1)] }
 | _ => {}
def A73 : Ann := fun r => match r with
 | 0 => { slots := [(0, 0), (1, 1)] }
 | 6 => { slots := [(7, 2)] }
 | _ => {}
set_option maxHeartbeats 1000000 in
set_option maxRecDepth 100000 in
theorem stopped109 (i : Ins) (c : Crs) (f : Int) (hs : ∀ x ∈ i.steps, 0 < x ∧ x ≤ 127) (hl : i.steps.length ≤ 18) (hf : 0 ≤ f ∧ f ≤ i.steps.length) (hp : 0 ≤ c.pitch ∧ c.pitch ≤ 127) :
  PRet C.P 89 [inA i, .agg (crR c), .int .i64 f] (.int .i64 (c.pitch + if 0 < f then i.steps.getD (f - 1).toNat 0 else 0)) := by
 by_cases h0 : 0 < f
 ·rw [if_pos h0]
  have hb := steps_bd hs (f - 1).toNat
  have hm := steps_get (i := i) ⟨h0, hf.2⟩
  generalize i.steps.getD (f - 1).toNat 0 = x at hm hb
  have hw : IntKind.i64.wrap (f - 1) = f - 1 := wrapI (by omega) (by omega)
  rw [← hw] at hm
  have hw2 : IntKind.i64.wrap (c.pitch + x) = c.pitch + x := wrapI (by omega) (by omega)
  rw [← hw2]
  refine pret_of ok mixed (A := A89) 2 Try.func89 rfl ?_
  (repeat' (first | exact rfl | ((conv => whnf); first | refine optS hm ?_ | exact rfl | exact ⟨rfl, rfl⟩ | refine go1 ?_ | (intro ep) | (refine ifB (fun hb => ?_) (fun hb => ?_) <;> (try simp only [qs] at hb) <;> (try simp (disch := omega) only [wrapI] at hb) <;> (try (exfalso; omega))) | fail)))
 ·rw [if_neg h0, Int.add_zero]
  obtain rfl : f = 0 := by omega
  refine pret_of ok mixed (A := A89) 2 Try.func89 rfl ?_
  (repeat' (first | exact rfl | ((conv => whnf); first | exact rfl | exact ⟨rfl, rfl⟩ | refine go1 ?_ | (intro ep) | (refine ifB (fun hb => ?_) (fun hb => ?_) <;> (try simp only [qs] at hb) <;> (try simp (disch := omega) only [wrapI] at hb) <;> (try (exfalso; omega))) | fail)))
set_option maxHeartbeats 1000000 in
set_option maxRecDepth 100000 in
theorem at88 (p : Pc) (v : Vp p) (c f : Int) (hc : 1 ≤ c ∧ c ≤ p.ins.cs.length) (hf : 0 ≤ f ∧ f ≤ fretsOf p.ins c) : PRet C.P 73 [inA p.ins, .agg [.int .i64 c, .int .i64 f]] (.tup [.int .i64 (pitchOf p.ins c f), .int .i64 0]) := by
 have h0 := inCheck_spec p.ins
 rw [v.chkI] at h0
 have hcr := v.crs _ (crsAt_mem hc)
 have hfr : fretsOf p.ins c = (crsAt p.ins c).frets := rfl
 rw [hfr] at hf
 have hs := v.steps
 have h1 := stopped109 p.ins (crsAt p.ins c) f v.stp v.steps (by omega) (by omega)
 have hcs := v.cs
 have hm := crsAt_get hc
 unfold pitchOf
 generalize crsAt p.ins c = x at h1 hm hcr hf
 have hw : IntKind.i64.wrap (c - 1) = c - 1 := wrapI (by omega) (by omega)
 rw [← hw] at hm
 generalize x.pitch + (if 0 < f then p.ins.steps.getD (f - 1).toNat 0 else 0) = y at h1
 refine pret_of ok mixed (A := A73) 3 Try.func73 rfl ?_
 (repeat' (first | exact rfl | ((conv => whnf); first | refine optS hm ?_ | refine ⟨_, h0, ?_⟩ | refine ⟨_, h1, ?_⟩ | exact rfl | exact ⟨rfl, rfl⟩ | refine go1 ?_ | (intro ep) | (refine ifB (fun hb => ?_) (fun hb => ?_) <;> (try simp only [qs] at hb) <;> (try simp (disch := omega) only [wrapI] at hb) <;> (try (exfalso; omega))) | fail)))
end Go.Ab.V.S

namespace Go.Ab.V.S
open Go.Proofs
def sndA (p : Pc) : AV := .agg [crsA p.ins.cs, intsA p.ins.steps, evsA p.evs, intsA (onsets p)]
def A49 : Ann := fun r => match r with
 | 0 => { slots := [(0, 0), (1, 1)] }
 | _ => {}
def A74 : Ann := fun r => match r with
 | 0 => { slots := [(0, 0)] }
 | _ => {}
set_option maxRecDepth 100000 in
theorem listen_ok (p : Pc) (hp : p.Ok) (hc : chk p = 0) : PRet C.P 49 [pcA p] (.tup [sndA p, .int .i64 0]) := by
 have h := onsets_spec p hp
 unfold onsV at h
 rw [if_pos hc] at h
 refine pret_of ok mixed (A := A49) 2 Try.func49 rfl ?_
 (repeat' (first | exact rfl | ((conv => whnf); first | refine ⟨_, h, ?_⟩ | exact rfl | exact ⟨rfl, rfl⟩ | refine go1 ?_ | (intro ep) | (refine ifB (fun hb => ?_) (fun hb => ?_) <;> (try simp only [qs] at hb) <;> (try simp (disch := omega) only [wrapI] at hb) <;> (try (exfalso; omega))) | fail)))
set_option maxRecDepth 100000 in
theorem listen_bad (p : Pc) (hp : p.Ok) (hc : chk p ≠ 0) : PRet C.P 49 [pcA p] (.tup [.agg [crsA p.ins.cs, intsA p.ins.steps, evsA p.evs, .nils], .int .i64 (chk p)]) := by
 have h := onsets_spec p hp
 unfold onsV at h
 rw [if_neg hc] at h
 generalize chk p = e at h
 refine pret_of ok mixed (A := A49) 2 Try.func49 rfl ?_
 (repeat' (first | exact rfl | ((conv => whnf); first | refine ⟨_, h, ?_⟩ | exact rfl | exact ⟨rfl, rfl⟩ | refine go1 ?_ | (intro ep) | (refine ifB (fun hb => ?_) (fun hb => ?_) <;> (try simp only [qs] at hb) <;> (try simp (disch := omega) only [wrapI] at hb) <;> (try (exfalso; omega))) | fail)))
set_option maxRecDepth 100000 in
theorem end56 (p : Pc) (v : Vp p) : PRet C.P 74 [sndA p] (.int .i64 (on p p.evs.length)) := by
 have hl := v.len
 have hn := ons_len p
 have hm : (ints (onsets p))[0 + (((onsets p).length : Int) - 1).toNat]? = some [.int .i64 (on p p.evs.length)] := by
  have := intsR (l := onsets p) (i := p.evs.length) (by omega)
  rw [on_get (Nat.le_refl _)] at this
  rw [hn, show (((p.evs.length + 1 : Nat) : Int) - 1).toNat = p.evs.length by omega]
  rwa [Int.toNat_natCast] at this
 have hw : IntKind.i64.wrap (((onsets p).length : Int) - 1) = ((onsets p).length : Int) - 1 := wrapI (by omega) (by omega)
 rw [← hw] at hm
 refine pret_of ok mixed (A := A74) 1 Try.func74 rfl ?_
 (repeat' (first | exact rfl | ((conv => whnf); first | refine optS hm ?_ | exact rfl | exact ⟨rfl, rfl⟩ | refine go1 ?_ | (intro ep) | (refine ifB (fun hb => ?_) (fun hb => ?_) <;> (try simp only [qs] at hb) <;> (try simp (disch := omega) only [wrapI] at hb) <;> (try (exfalso; omega))) | fail)))
def tiesL : List Evt → Nat
 | [] => 0
 | e :: r => if e.tie = true then tiesL r + 1 else 0
theorem tiesL_drop {l : List Evt} {k : Nat} (h : k < l.length) : tiesL (l.drop k) = if l[k].tie = true then tiesL (l.drop (k + 1)) + 1 else 0 := by
 rw [List.drop_eq_getElem_cons h, tiesL]
theorem tiesL_le : ∀ l : List Evt, tiesL l ≤ l.length
 | [] => by simp [tiesL]
 | e :: r => by rw [tiesL, List.length_cons]; have := tiesL_le r; split <;> omega
def stayN (l : List Evt) (i h : Nat) : Nat := i + h + 1 + tiesL (l.drop (i + h + 1))
def endE (c : Int) (e : Evt) : Bool := restE e || hasC e.stops c
def openN (l : List Evt) (i : Nat) (c : Int) : Nat := i + 1 + (l.drop (i + 1)).findIdx (endE c)
def endN (l : List Evt) (i : Nat) (s : Stp) : Nat := if 0 < s.f then stayN l i s.h.toNat else openN l i s.c
theorem find_drop {l : List Evt} {k : Nat} (c : Int) (h : k < l.length) : (l.drop k).findIdx (endE c) = if endE c l[k] = true then 0 else (l.drop (k + 1)).findIdx (endE c) + 1 := by
 rw [List.drop_eq_getElem_cons h, List.findIdx_cons]
 cases endE c l[k] <;> rfl
theorem stayN_le {l : List Evt} {i h : Nat} (hh : i + h + 1 ≤ l.length) : stayN l i h ≤ l.length := by
 have := tiesL_le (l.drop (i + h + 1))
 rw [List.length_drop] at this
 unfold stayN
 omega
def A75 : Ann := fun r => match r with
 | 0 => { slots := [(0, 0)] }
 | _ => {}
def sndV (p : Pc) : List AV := [crsA p.ins.cs, intsA p.ins.steps, evsA p.evs, intsA (onsets p)]
set_option maxHeartbeats 1000000 in
set_option maxRecDepth 100000 in
theorem stay89 (p : Pc) (v : Vp p) (i : Nat) (h : Int) (h0 : 0 ≤ h) (hh : i + h.toNat + 1 ≤ p.evs.length) : PRet C.P 75 [sndA p, .int .i64 i, .int .i64 h] (.int .i64 ((stayN p.evs i h.toNat : Nat) - 1 : Int)) := by
 have hl := v.len
 obtain ⟨n, rfl⟩ : ∃ n : Nat, h = n := ⟨h.toNat, by omega⟩
 rw [Int.toNat_natCast] at hh ⊢
 have hw : IntKind.i64.wrap ((i : Int) + (n : Int)) = ((i + n : Nat) : Int) := by rw [wrapI (by omega) (by omega)]; omega
 obtain ⟨R, hR⟩ : ∃ R, R = stayN p.evs i n := ⟨_, rfl⟩
 rw [← hR]
 refine pret_of ok mixed (A := A75) 1 Try.func75 rfl ?_
 (repeat' (first | exact rfl | ((conv => whnf); first | exact rfl | exact ⟨rfl, rfl⟩ | refine go1 ?_ | (intro ep) | fail)))
 all_goals (conv => whnf)
 rw [hw]
 obtain ⟨e0, he⟩ : ∃ e0, e0 = ep := ⟨_, rfl⟩
 subst he
 refine loopM ok mixed (A := A75) [3, 7] [0] (S := { k : Nat // k + 1 ≤ p.evs.length ∧ k + 1 + tiesL (p.evs.drop (k + 1)) = R })
  (fr := fun s => frOf 0 31 [(3, .optr (.s 0) e0 4 0 0), (7, .int .i64 (s.1 : Int))])
  (h := fun s => ⟨[.vec e0 [sndV p]], []⟩) (μ := fun s => p.evs.length - s.1) ⟨i + n, by omega, by rw [hR]; unfold stayN; rfl⟩ rfl rfl ?_
 rintro ⟨k, hk, hs⟩
 show aexR _ _ _ (frOf 0 31 [(3, .optr (.s 0) e0 4 0 0), (7, .int .i64 (k : Int))]) ⟨[.vec e0 [sndV p]], []⟩ _
 have hwk : IntKind.i64.wrap ((k : Int) + 1) = ((k + 1 : Nat) : Int) := by rw [wrapI (by omega) (by omega)]; omega
 by_cases g : k + 1 < p.evs.length
 ·have hm := mapR (f := evR) g
  rw [← hwk] at hm
  rw [tiesL_drop g] at hs
  generalize p.evs[k + 1] = e at hm hs
  obtain ⟨b, v, d, t, y, l⟩ := e
  cases y with
  | true =>
   rw [if_pos rfl] at hs
   (repeat' (first | exact rfl | ((conv => whnf); first | refine optS hm ?_ | exact rfl | exact ⟨rfl, rfl⟩ | refine go1 ?_ | (intro ep) | (refine ifB (fun hb => ?_) (fun hb => ?_) <;> (try simp only [qs] at hb) <;> (try simp (disch := omega) only [wrapI] at hb) <;> (try (exfalso; omega))) | fail)))
   all_goals (conv => whnf)
   exact back_of ⟨k + 1, by omega, by omega⟩ ⟨by (first | exact rfl | (simp (disch := omega) only [wrapI]; exact rfl)), rfl, by simp only; omega⟩
  | false =>
   rw [if_neg (by simp)] at hs
   (repeat' (first | exact rfl | ((conv => whnf); first | refine optS hm ?_ | exact rfl | exact ⟨rfl, rfl⟩ | refine go1 ?_ | (intro ep) | (refine ifB (fun hb => ?_) (fun hb => ?_) <;> (try simp only [qs] at hb) <;> (try simp (disch := omega) only [wrapI] at hb) <;> (try (exfalso; omega))) | fail)))
   all_goals (conv => whnf)
   all_goals rw [show (R : Int) - 1 = k by omega]
 ·rw [List.drop_eq_nil_of_le (by omega), tiesL] at hs
  (repeat' (first | exact rfl | ((conv => whnf); first | exact rfl | exact ⟨rfl, rfl⟩ | refine go1 ?_ | (intro ep) | (refine ifB (fun hb => ?_) (fun hb => ?_) <;> (try simp only [qs] at hb) <;> (try simp (disch := omega) only [wrapI] at hb) <;> (try (exfalso; omega))) | fail)))
  all_goals (conv => whnf)
  all_goals rw [show (R : Int) - 1 = k by omega]
end Go.Ab.V.S

namespace Go.Ab.V
open Go.Proofs
def Nt.to (x : Nt) (t : Int) : Nt := ⟨x.e, x.c, x.p, x.f, t⟩
end Go.Ab.V

namespace Go.Ab.V.S
open Go.Proofs
def setTo (o : List Nt) (i : Nat) (t : Int) : List Nt := match o[i]? with
 | some x => o.set i (x.to t)
 | none => o
theorem setTo_len (o : List Nt) (i : Nat) (t : Int) : (setTo o i t).length = o.length := by unfold setTo; split <;> simp
def quit (R : List Nat) (o : List Nt) (c : Nat) (t : Int) : List Nat × List Nt := if R.getD c 0 = 0 then (R, o) else (R.set c 0, setTo o (R.getD c 0 - 1) t)
def rgR (R : List Nat) : List AV := R.map fun (r : Nat) => .int .i64 (r : Int)
theorem optV {o : Option AV} {a : AV} {K : AV → Prop} (h : o = some a) (hk : K a) : (match (generalizing := false) o with | some a => K a | none => False) := by
 subst h; exact hk
theorem decT {p : Prop} {d : Decidable p} {A : p → Prop} {B : ¬p → Prop} (h : p) (k : ∀ h, A h) : Decidable.rec (motive := fun _ => Prop) B A d := by
 cases d with
 | isTrue x => exact k x
 | isFalse x => exact absurd h x
theorem rg_len (R : List Nat) : (rgR R).length = R.length := by simp [rgR]
theorem rg_set (R : List Nat) (c v : Nat) (hc : c < R.length) : List.take (0 + (c : Int).toNat * 1) (rgR R) ++ [.int .i64 (v : Int)] ++ List.drop (0 + (c : Int).toNat * 1 + 1) (rgR R) = rgR (R.set c v) := by
 rw [Nat.mul_one, Nat.zero_add, Int.toNat_natCast]
 have h : rgR (R.set c v) = (rgR R).set c (.int .i64 (v : Int)) := by simp [rgR, List.map_set]
 rw [h, List.set_eq_take_append_cons_drop, if_pos (by rw [rg_len]; exact hc)]
 simp
def HN (e1 e2 e7 : Nat) (x0 x3 x4 x5 x6 : AObj) (R : List Nat) (o : List Nt) : List AObj := [x0, .vec e1 [[.oslc (.s 7) e7 5 0 o.length false]], .vec e2 [rgR R], x3, x4, x5, x6, .vec e7 (o.map ntR)]
def A72 : Ann := fun _ => {}
set_option maxHeartbeats 4000000 in
set_option maxRecDepth 100000 in
theorem stop87 (c : Nat) (t : Int) (R : List Nat) (o : List Nt) (e1 e2 e7 : Nat) (x0 x3 x4 x5 x6 : AObj) (hc : c < 15) (hR : R.length = 15) (hb : ∀ r ∈ R, r ≤ o.length) (ho : o.length ≤ 10000000) :
  ACalls C.P 72 [.int .i64 c, .int .i64 t, .optr (.s 2) e2 15 0 0, .optr (.s 1) e1 1 0 0] ⟨HN e1 e2 e7 x0 x3 x4 x5 x6 R o, []⟩
   fun r h' => r = .tup [] ∧ padTo 8 h'.st = HN e1 e2 e7 x0 x3 x4 x5 x6 (quit R o c t).1 (quit R o c t).2 ∧ h'.dy = [] := by
 have hcR : c < R.length := by omega
 have hg : R.getD c 0 = R[c] := by rw [List.getD, List.getElem?_eq_getElem hcR]; rfl
 have hm : aPart false 1 (0 + (c : Int).toNat * 1) (rgR R) = some (.int .i64 (R[c] : Int)) := by
  rw [Nat.mul_one, Nat.zero_add, Int.toNat_natCast]
  have e : (rgR R)[c]? = some (.int .i64 (R[c] : Int)) := by rw [rgR, List.getElem?_map, List.getElem?_eq_getElem hcR]; rfl
  unfold aPart
  rw [if_pos (by simp [rgR]; omega)]
  exact e
 have hr := hb R[c] (List.getElem_mem hcR)
 unfold quit
 rw [hg]
 generalize R[c] = r at hm hr
 by_cases c0 : r = 0
 ·rw [if_pos c0]
  subst c0
  have hm2 : True := trivial
  refine fn_of ok mixed (A := A72) 3 Try.func72 rfl ?_
  (repeat' (first | exact rfl | ((conv => whnf); first | refine optV hm ?_ | refine optS hm2 ?_ | exact rfl | exact ⟨rfl, rfl⟩ | refine go1 ?_ | (intro ep) | (refine ifB (fun hb => ?_) (fun hb => ?_) <;> (try simp only [qs] at hb) <;> (try simp (disch := omega) only [wrapI] at hb) <;> (try (exfalso; omega))) | fail)))
 ·rw [if_neg c0]
  have hr1 : r - 1 < o.length := by omega
  have hm2 := mapR (f := ntR) hr1
  rw [show ((r - 1 : Nat) : Int) = IntKind.i64.wrap ((r : Int) - 1) by rw [wrapI (by omega) (by omega)]; omega] at hm2
  refine fn_of ok mixed (A := A72) 3 Try.func72 rfl ?_
  (repeat' (first | exact rfl | ((conv => whnf); first | refine optV hm ?_ | refine optS hm2 ?_ | exact rfl | exact ⟨rfl, rfl⟩ | refine go1 ?_ | (intro ep) | (refine ifB (fun hb => ?_) (fun hb => ?_) <;> (try simp only [qs] at hb) <;> (try simp (disch := omega) only [wrapI] at hb) <;> (try (exfalso; omega))) | fail)))
  all_goals (conv => whnf)
  have hs := rg_set R c 0 hcR
  refine decT (by show 0 + (c : Int).toNat * 1 + 1 ≤ (rgR R).length; rw [rg_len]; omega) (fun _ => ?_)
  show forceL (List.take (0 + (c : Int).toNat * 1) (rgR R) ++ [.int .i64 ((0 : Nat) : Int)] ++ List.drop (0 + (c : Int).toNat * 1 + 1) (rgR R)) _
  rw [forceL_eq, hs]
  (repeat' (first | exact rfl | ((conv => whnf); first | refine optV hm ?_ | refine optS hm2 ?_ | exact rfl | exact ⟨rfl, rfl⟩ | refine go1 ?_ | (intro ep) | (refine ifB (fun hb => ?_) (fun hb => ?_) <;> (try simp only [qs] at hb) <;> (try simp (disch := omega) only [wrapI] at hb) <;> (try (exfalso; omega))) | fail)))
  all_goals (conv => whnf)
  have he : setTo o (r - 1) t = o.set (r - 1) (o[r - 1].to t) := by unfold setTo; rw [List.getElem?_eq_getElem hr1]
  have hi : 0 + (IntKind.i64.wrap ((r : Int) - 1)).toNat = r - 1 := by rw [wrapI (by omega) (by omega)]; omega
  refine ⟨?_, rfl⟩
  show [x0, .vec e1 [[.oslc (.s 7) e7 5 0 o.length false]], .vec e2 [rgR (R.set c 0)], x3, x4, x5, x6, .vec e7 ((List.map ntR o).set (0 + (IntKind.i64.wrap ((r : Int) - 1)).toNat) (ntR (o[r - 1].to t)))] = HN e1 e2 e7 x0 x3 x4 x5 x6 (R.set c 0) (setTo o (r - 1) t)
  rw [hi, he]
  unfold HN
  rw [List.length_set, List.map_set]
end Go.Ab.V.S

namespace Go.Ab.V.S
open Go.Proofs
theorem setTo_in {o : List Nt} {i : Nat} {t : Int} (h : i < o.length) : setTo o i t = o.set i (o[i].to t) := by unfold setTo; rw [List.getElem?_eq_getElem h]
theorem setTo_out {o : List Nt} {i : Nat} {t : Int} (h : ¬ i < o.length) : setTo o i t = o := by unfold setTo; rw [List.getElem?_eq_none (by omega)]
theorem setTo_get {o : List Nt} {i m : Nat} {t : Int} (h : m < o.length) : (setTo o i t)[m]'(by rw [setTo_len]; exact h) = if i = m then o[m].to t else o[m] := by
 by_cases hi : i < o.length
 ·simp only [setTo_in hi, List.getElem_set]
  split
  ·rename_i e
   subst e
   rfl
  ·rfl
 ·simp only [setTo_out hi]
  rw [if_neg (by omega)]
structure RInv (R : List Nat) (o : List Nt) (E : Int) : Prop where
 len : R.length = 15
 le : ∀ r ∈ R, r ≤ o.length
 cr : ∀ x ∈ o, 0 ≤ x.c ∧ x.c < 15
 to : ∀ c m, R.getD c 0 = m + 1 → ∃ hm : m < o.length, o[m].c = (c : Int) ∧ o[m].t = E
def fin (R : List Nat) (o : List Nt) (A : Int → Int) : List Nt := o.mapIdx fun m x => if R.getD x.c.toNat 0 = m + 1 then x.to (A x.c) else x
theorem getD_set {R : List Nat} {c d v : Nat} (hc : c < R.length) : (R.set c v).getD d 0 = if d = c then v else R.getD d 0 := by
 simp only [List.getD, List.getElem?_set]
 split
 ·rename_i e
  subst e
  simp [hc]
 ·rename_i e
  rw [if_neg (fun x => e x.symm)]
theorem fin_congr {R : List Nat} {o : List Nt} {A B : Int → Int} (h : ∀ x ∈ o, A x.c = B x.c) : fin R o A = fin R o B := by
 unfold fin
 refine List.ext_getElem (by simp) fun m h1 h2 => ?_
 simp only [List.getElem_mapIdx]
 rw [h _ (List.getElem_mem _)]
theorem quit_fin {R : List Nat} {o : List Nt} {E : Int} (hi : RInv R o E) {c : Nat} (hc : c < 15) (t : Int) (A : Int → Int) :
  fin (quit R o c t).1 (quit R o c t).2 A = fin R o (fun d => if d = c then t else A d) := by
 have hl := hi.len
 unfold quit
 by_cases h0 : R.getD c 0 = 0
 ·rw [if_pos h0]
  unfold fin
  refine List.ext_getElem (by simp) fun m h1 h2 => ?_
  simp only [List.getElem_mapIdx]
  simp only [List.length_mapIdx] at h1
  have hx := hi.cr o[m] (List.getElem_mem h1)
  by_cases hr : R.getD o[m].c.toNat 0 = m + 1
  ·rw [if_pos hr, if_pos hr, if_neg]
   intro e
   rw [e, Int.toNat_natCast, h0] at hr
   omega
  ·rw [if_neg hr, if_neg hr]
 ·rw [if_neg h0]
  obtain ⟨m0, hm0⟩ : ∃ m0, R.getD c 0 = m0 + 1 := ⟨R.getD c 0 - 1, by omega⟩
  obtain ⟨hl0, hc0, ht0⟩ := hi.to c m0 hm0
  rw [hm0, Nat.add_sub_cancel]
  unfold fin
  refine List.ext_getElem (by simp [setTo_len]) fun m h1 h2 => ?_
  simp only [List.getElem_mapIdx]
  simp only [List.length_mapIdx] at h2
  have hx := hi.cr o[m] (List.getElem_mem h2)
  rw [setTo_get h2]
  have hcc : (if m0 = m then o[m].to t else o[m]).c = o[m].c := by split <;> rfl
  rw [hcc, getD_set (by omega)]
  by_cases e : o[m].c = (c : Int)
  ·rw [e, Int.toNat_natCast, if_pos rfl, if_neg (by omega), if_pos rfl, hm0]
   by_cases em : m0 = m
   ·subst em
    rw [if_pos rfl, if_pos rfl]
   ·rw [if_neg em, if_neg (by omega)]
  ·have em : m0 ≠ m := fun x => e (by subst x; exact hc0)
   rw [if_neg (show ¬ o[m].c.toNat = c by omega), if_neg em, if_neg e]
theorem quit_len (R : List Nat) (o : List Nt) (c : Nat) (t : Int) : (quit R o c t).1.length = R.length ∧ (quit R o c t).2.length = o.length := by
 unfold quit
 split
 ·exact ⟨rfl, rfl⟩
 ·exact ⟨by simp, setTo_len _ _ _⟩
theorem quit_zero {R : List Nat} (o : List Nt) {c : Nat} (hc : c < R.length) (t : Int) : (quit R o c t).1.getD c 0 = 0 := by
 unfold quit
 split
 ·assumption
 ·show (R.set c 0).getD c 0 = 0
  rw [getD_set hc, if_pos rfl]
theorem quit_inv {R : List Nat} {o : List Nt} {E : Int} (hi : RInv R o E) {c : Nat} (hc : c < 15) (t : Int) : RInv (quit R o c t).1 (quit R o c t).2 E := by
 have hl := hi.len
 unfold quit
 by_cases h0 : R.getD c 0 = 0
 ·rw [if_pos h0]; exact hi
 rw [if_neg h0]
 obtain ⟨m0, hm0⟩ : ∃ m0, R.getD c 0 = m0 + 1 := ⟨R.getD c 0 - 1, by omega⟩
 obtain ⟨hl0, hc0, ht0⟩ := hi.to c m0 hm0
 rw [hm0, Nat.add_sub_cancel]
 refine ⟨by simpa using hl, fun r hr => ?_, fun x hx => ?_, fun d m hd => ?_⟩
 ·rw [setTo_len]
  rcases List.mem_or_eq_of_mem_set hr with h | h
  ·exact hi.le r h
  ·omega
 ·obtain ⟨m, hm, rfl⟩ := List.getElem_of_mem hx
  have hm2 : m < o.length := by rw [setTo_len] at hm; exact hm
  show 0 ≤ ((setTo o m0 t)[m]'hm).c ∧ ((setTo o m0 t)[m]'hm).c < 15
  rw [setTo_get hm2]
  have := hi.cr o[m] (List.getElem_mem hm2)
  split
  ·exact this
  ·exact this
 ·rw [getD_set (by omega)] at hd
  split at hd
  ·omega
  ·rename_i hne
   obtain ⟨hm, a, b⟩ := hi.to d m hd
   refine ⟨by rw [setTo_len]; exact hm, ?_⟩
   have em : m0 ≠ m := fun x => by subst x; rw [hc0] at a; omega
   rw [setTo_get hm, if_neg em]
   exact ⟨a, b⟩
theorem push_fret {R : List Nat} {o : List Nt} {E : Int} (hi : RInv R o E) (n : Nt) (hn : 0 ≤ n.c ∧ n.c < 15) (A : Int → Int) : fin R (o ++ [n]) A = fin R o A ++ [n] ∧ RInv R (o ++ [n]) E := by
 have hl := hi.len
 have hle : ∀ c, R.getD c 0 ≤ o.length := fun c => by
  rw [List.getD]
  cases h : R[c]? with
  | none => simp
  | some x => exact hi.le x (List.mem_of_getElem? h)
 refine ⟨?_, hl, fun r hr => by have := hi.le r hr; simp; omega, fun x hx => ?_, fun c m h => ?_⟩
 ·unfold fin
  rw [List.mapIdx_append]
  congr 1
  have := hle n.c.toNat
  rw [List.mapIdx_cons, List.mapIdx_nil, if_neg (by omega)]
 ·rcases List.mem_append.1 hx with hx | hx
  ·exact hi.cr x hx
  ·rw [List.mem_singleton.1 hx]; exact hn
 ·obtain ⟨hm, a, b⟩ := hi.to c m h
  refine ⟨by simp; omega, ?_⟩
  rw [List.getElem_append_left hm]
  exact ⟨a, b⟩
theorem push_open {R : List Nat} {o : List Nt} {E : Int} (hi : RInv R o E) (n : Nt) (hn : 0 ≤ n.c ∧ n.c < 15) (hE : n.t = E) (h0 : R.getD n.c.toNat 0 = 0) (A : Int → Int) :
  fin (R.set n.c.toNat (o.length + 1)) (o ++ [n]) A = fin R o A ++ [n.to (A n.c)] ∧ RInv (R.set n.c.toNat (o.length + 1)) (o ++ [n]) E := by
 have hl := hi.len
 have hc : n.c.toNat < R.length := by omega
 refine ⟨?_, by simpa using hl, fun r hr => ?_, fun x hx => ?_, fun c m h => ?_⟩
 ·unfold fin
  rw [List.mapIdx_append]
  congr 1
  ·refine List.ext_getElem (by simp) fun m h1 h2 => ?_
   simp only [List.getElem_mapIdx]
   simp only [List.length_mapIdx] at h1
   rw [getD_set hc]
   by_cases e : o[m].c.toNat = n.c.toNat
   ·rw [if_pos e, if_neg (by omega), e, h0, if_neg (by omega)]
   ·rw [if_neg e]
  ·rw [List.mapIdx_cons, List.mapIdx_nil, getD_set hc, if_pos rfl, Nat.zero_add, if_pos rfl]
 ·rw [List.length_append, List.length_singleton]
  rcases List.mem_or_eq_of_mem_set hr with h | h
  ·have := hi.le r h; omega
  ·omega
 ·rcases List.mem_append.1 hx with hx | hx
  ·exact hi.cr x hx
  ·rw [List.mem_singleton.1 hx]; exact hn
 ·rw [getD_set hc] at h
  split at h
  ·rename_i e
   have hm : m = o.length := by omega
   subst hm
   refine ⟨by simp, ?_⟩
   rw [List.getElem_append_right (Nat.le_refl _)]
   simp only [Nat.sub_self, List.getElem_cons_zero]
   exact ⟨by omega, hE⟩
  ·obtain ⟨hm, a, b⟩ := hi.to c m h
   refine ⟨by simp; omega, ?_⟩
   rw [List.getElem_append_left hm]
   exact ⟨a, b⟩
def quitTo (t : Int) : Nat → List Nat × List Nt → List Nat × List Nt
 | 0, z => z
 | n + 1, z => quit (quitTo t n z).1 (quitTo t n z).2 n t
theorem quitTo_inv {E : Int} (t : Int) : ∀ (n : Nat) (z : List Nat × List Nt), RInv z.1 z.2 E → n ≤ 15 → RInv (quitTo t n z).1 (quitTo t n z).2 E ∧ (quitTo t n z).2.length = z.2.length
 | 0, z, h, _ => ⟨h, rfl⟩
 | n + 1, z, h, hn => by
  obtain ⟨a, b⟩ := quitTo_inv t n z h (by omega)
  exact ⟨quit_inv a (by omega) t, by rw [quitTo, (quit_len _ _ _ _).2, b]⟩
theorem quitTo_fin {E : Int} (t : Int) : ∀ (n : Nat) (z : List Nat × List Nt), RInv z.1 z.2 E → n ≤ 15 → ∀ A : Int → Int, fin (quitTo t n z).1 (quitTo t n z).2 A = fin z.1 z.2 (fun d => if d < n then t else A d)
 | 0, z, h, _, A => by
  rw [quitTo]
  refine fin_congr fun x hx => ?_
  have := h.cr x hx
  rw [if_neg (by omega)]
 | n + 1, z, h, hn, A => by
  obtain ⟨a, b⟩ := quitTo_inv t n z h (by omega)
  rw [quitTo, quit_fin a (by omega), quitTo_fin t n z h (by omega)]
  refine fin_congr fun x hx => ?_
  split
  ·rw [if_pos (by omega)]
  ·split
   ·rw [if_pos (by omega)]
   ·rw [if_neg (by omega)]
end Go.Ab.V.S

namespace Go.Ab.V.S
open Go.Proofs
structure Pr where
 e : Int
 c : Int
 f : Int
 fr : Int
 to : Int
def prR (x : Pr) : List AV := [.int .i64 x.e, .int .i64 x.c, .int .i64 x.f, .int .i64 x.fr, .int .i64 x.to]
def prsA (l : List Pr) : AV := .lslc 5 (l.map prR) 0 l.length false
def noteOf (p : Pc) (k : Nat) (s : Stp) : Nt := ⟨k, s.c, pitchOf p.ins s.c s.f, on p k, on p (endN p.evs k s)⟩
def toOf (p : Pc) (k : Nat) (s : Stp) : Int := if 0 < s.f then on p (stayN p.evs k s.h.toNat) else on p p.evs.length
def rawOf (p : Pc) (k : Nat) (s : Stp) : Nt := ⟨k, s.c, pitchOf p.ins s.c s.f, on p k, toOf p k s⟩
def pressOf (p : Pc) (k : Nat) (s : Stp) : Pr := ⟨k, s.c, s.f, on p k, toOf p k s⟩
structure RS where
 R : List Nat
 o : List Nt
 w : List Pr
def RS.q (z : RS) (c : Nat) (t : Int) : RS := ⟨(quit z.R z.o c t).1, (quit z.R z.o c t).2, z.w⟩
def stpS (p : Pc) (k : Nat) (z : RS) (s : Stp) : RS :=
 ⟨if 0 < s.f then (z.q s.c.toNat (on p k)).R else (z.q s.c.toNat (on p k)).R.set s.c.toNat ((z.q s.c.toNat (on p k)).o.length + 1),
  (z.q s.c.toNat (on p k)).o ++ [rawOf p k s], z.w ++ [pressOf p k s]⟩
def runS (p : Pc) (k : Nat) : List Stp → RS → RS
 | [], z => z
 | s :: r, z => runS p k r (stpS p k z s)
def restS (p : Pc) (k : Nat) (e : Evt) (z : RS) : RS := if restE e = true then ⟨(quitTo (on p k) 15 (z.R, z.o)).1, (quitTo (on p k) 15 (z.R, z.o)).2, z.w⟩ else z
def runE (p : Pc) : Nat → List Evt → RS → RS
 | _, [], z => z
 | k, e :: r, z => runE p (k + 1) r (runS p k e.stops (restS p k e z))
def newL {α : Type} (g : Nat → Stp → α) : Nat → List Evt → List α
 | _, [] => []
 | k, e :: r => e.stops.map (g k) ++ newL g (k + 1) r
def notesL (p : Pc) : List Nt := newL (noteOf p) 0 p.evs
def pressL (p : Pc) : List Pr := newL (pressOf p) 0 p.evs
def rs0 : RS := ⟨List.replicate 15 0, [], []⟩
theorem runS_w (p : Pc) (k : Nat) : ∀ (l : List Stp) (z : RS), (runS p k l z).w = z.w ++ l.map (pressOf p k)
 | [], z => by simp [runS]
 | s :: r, z => by rw [runS, runS_w p k r]; simp [stpS]
theorem restS_w (p : Pc) (k : Nat) (e : Evt) (z : RS) : (restS p k e z).w = z.w := by unfold restS; split <;> rfl
theorem runE_w (p : Pc) : ∀ (l : List Evt) (k : Nat) (z : RS), (runE p k l z).w = z.w ++ newL (pressOf p) k l
 | [], k, z => by simp [runE, newL]
 | e :: r, k, z => by rw [runE, runE_w p r, runS_w, restS_w, newL, List.append_assoc]
def SGood (p : Pc) (k : Nat) (s : Stp) : Prop := 1 ≤ s.c ∧ s.c < 15
theorem noteOf_open {p : Pc} {k : Nat} {s : Stp} (h : ¬ 0 < s.f) : (rawOf p k s).to (on p (openN p.evs k s.c)) = noteOf p k s := by
 unfold rawOf noteOf Nt.to endN
 rw [if_neg h]
theorem noteOf_fret {p : Pc} {k : Nat} {s : Stp} (h : 0 < s.f) : rawOf p k s = noteOf p k s := by
 unfold rawOf noteOf endN toOf
 rw [if_pos h, if_pos h]
def noteA (p : Pc) (k : Nat) (A : Int → Int) (s : Stp) : Nt := if 0 < s.f then rawOf p k s else (rawOf p k s).to (A s.c)
theorem stpS_fin {p : Pc} {k : Nat} {z : RS} {s : Stp} (hi : RInv z.R z.o (on p p.evs.length)) (hs : SGood p k s) (A : Int → Int) :
  fin (stpS p k z s).R (stpS p k z s).o A = fin z.R z.o (fun d => if d = s.c then on p k else A d) ++ [noteA p k A s] ∧ RInv (stpS p k z s).R (stpS p k z s).o (on p p.evs.length) := by
 obtain ⟨s1, s2⟩ := hs
 have hc : s.c.toNat < 15 := by omega
 have hcc : ((s.c.toNat : Nat) : Int) = s.c := by omega
 have h1 := quit_inv hi hc (on p k)
 have h2 := quit_fin hi hc (on p k) A
 rw [hcc] at h2
 have h3 := quit_zero z.o (R := z.R) (c := s.c.toNat) (by rw [hi.len]; exact hc) (on p k)
 by_cases hf : 0 < s.f
 ·have e1 : (stpS p k z s).R = (quit z.R z.o s.c.toNat (on p k)).1 := if_pos hf
  have e2 : (stpS p k z s).o = (quit z.R z.o s.c.toNat (on p k)).2 ++ [rawOf p k s] := rfl
  obtain ⟨a, b⟩ := push_fret h1 (rawOf p k s) ⟨by show 0 ≤ s.c; omega, s2⟩ A
  rw [e1, e2, a, h2]
  unfold noteA
  rw [if_pos hf]
  exact ⟨rfl, b⟩
 ·have e1 : (stpS p k z s).R = (quit z.R z.o s.c.toNat (on p k)).1.set s.c.toNat ((quit z.R z.o s.c.toNat (on p k)).2.length + 1) := if_neg hf
  have e2 : (stpS p k z s).o = (quit z.R z.o s.c.toNat (on p k)).2 ++ [rawOf p k s] := rfl
  obtain ⟨a, b⟩ := push_open h1 (rawOf p k s) ⟨by show 0 ≤ s.c; omega, s2⟩ (by show toOf p k s = _; unfold toOf; rw [if_neg hf]) h3 A
  have e3 : (rawOf p k s).c = s.c := rfl
  rw [e3] at a b
  rw [e1, e2, a, h2]
  unfold noteA
  rw [if_neg hf]
  exact ⟨rfl, b⟩
theorem runS_fin {p : Pc} {k : Nat} : ∀ {l : List Stp} {z : RS}, RInv z.R z.o (on p p.evs.length) → (∀ s ∈ l, SGood p k s) → l.Pairwise (fun a b => a.c < b.c) → ∀ A : Int → Int,
  fin (runS p k l z).R (runS p k l z).o A = fin z.R z.o (fun d => if hasC l d = true then on p k else A d) ++ l.map (noteA p k A) ∧ RInv (runS p k l z).R (runS p k l z).o (on p p.evs.length)
 | [], z, hi, _, _, A => by
  refine ⟨?_, hi⟩
  rw [runS, List.map_nil, List.append_nil]
  exact fin_congr fun x hx => by simp [hasC]
 | s :: r, z, hi, hg, hp, A => by
  obtain ⟨p1, p2⟩ := List.pairwise_cons.1 hp
  obtain ⟨a1, b1⟩ := stpS_fin hi (hg s (by simp)) (fun d => if hasC r d = true then on p k else A d)
  obtain ⟨a2, b2⟩ := runS_fin (k := k) (l := r) b1 (fun x hx => hg x (List.mem_cons_of_mem _ hx)) p2 A
  rw [runS]
  refine ⟨?_, b2⟩
  have hn : hasC r s.c = false := by
   unfold hasC
   rw [List.any_eq_false]
   intro x hx
   have := p1 x hx
   simp only [beq_iff_eq]
   omega
  rw [a2, a1, List.append_assoc]
  congr 1
  ·refine fin_congr fun x hx => ?_
   unfold hasC
   rw [List.any_cons]
   by_cases e : x.c = s.c
   ·rw [if_pos e, if_pos (by rw [Bool.or_eq_true]; exact .inl (by simp [e]))]
   ·have hb : (s.c == x.c) = false := by rw [beq_eq_false_iff_ne]; exact fun y => e y.symm
    rw [if_neg e, hb, Bool.false_or]
  ·rw [List.map_cons, List.singleton_append]
   congr 1
   show (if 0 < s.f then rawOf p k s else (rawOf p k s).to (if hasC r s.c = true then on p k else A s.c)) = (if 0 < s.f then rawOf p k s else (rawOf p k s).to (A s.c))
   rw [hn, if_neg (show ¬ (false = true) by simp)]
def ringA (p : Pc) (k : Nat) (c : Int) : Int := on p (k + (p.evs.drop k).findIdx (endE c))
theorem restS_fin {p : Pc} {k : Nat} {e : Evt} {z : RS} (hi : RInv z.R z.o (on p p.evs.length)) (A : Int → Int) :
  fin (restS p k e z).R (restS p k e z).o A = fin z.R z.o (fun d => if restE e = true then on p k else A d) ∧ RInv (restS p k e z).R (restS p k e z).o (on p p.evs.length) := by
 by_cases h : restE e = true
 ·have i1 := (quitTo_inv (on p k) 15 (z.R, z.o) hi (Nat.le_refl _)).1
  have i2 := quitTo_fin (on p k) 15 (z.R, z.o) hi (Nat.le_refl _) A
  have e1 : restS p k e z = ⟨(quitTo (on p k) 15 (z.R, z.o)).1, (quitTo (on p k) 15 (z.R, z.o)).2, z.w⟩ := if_pos h
  rw [e1]
  generalize quitTo (on p k) 15 (z.R, z.o) = Q at i1 i2 ⊢
  refine ⟨?_, i1⟩
  show fin Q.1 Q.2 A = _
  rw [i2]
  refine fin_congr fun x hx => ?_
  rw [if_pos (show x.c < ((15 : Nat) : Int) from (hi.cr x hx).2), if_pos h]
 ·have e1 : restS p k e z = z := if_neg h
  rw [e1]
  refine ⟨fin_congr fun x hx => ?_, hi⟩
  rw [if_neg h]
theorem restS_len {p : Pc} {k : Nat} {e : Evt} {z : RS} (hi : RInv z.R z.o (on p p.evs.length)) : (restS p k e z).o.length = z.o.length := by
 by_cases h : restE e = true
 ·have i1 := (quitTo_inv (on p k) 15 (z.R, z.o) hi (Nat.le_refl _)).2
  have e1 : restS p k e z = ⟨(quitTo (on p k) 15 (z.R, z.o)).1, (quitTo (on p k) 15 (z.R, z.o)).2, z.w⟩ := if_pos h
  rw [e1]
  generalize quitTo (on p k) 15 (z.R, z.o) = Q at i1 ⊢
  exact i1
 ·have e1 : restS p k e z = z := if_neg h
  rw [e1]
theorem rest_yes {p : Pc} {k : Nat} {e : Evt} {z : RS} (h : restE e = true) : restS p k e z = ⟨(quitTo (on p k) 15 (z.R, z.o)).1, (quitTo (on p k) 15 (z.R, z.o)).2, z.w⟩ := if_pos h
theorem to_self {x : Nt} {t : Int} (h : t = x.t) : x = x.to t := by subst h; rfl
theorem runE_out {p : Pc} (v : Vp p) : ∀ (l : List Evt) (k : Nat) (z : RS), p.evs.drop k = l → k ≤ p.evs.length → RInv z.R z.o (on p p.evs.length) →
  (runE p k l z).o = fin z.R z.o (ringA p k) ++ newL (noteOf p) k l
 | [], k, z, hl, hk, hi => by
  rw [runE, newL, List.append_nil]
  have hk2 : k = p.evs.length := by have := congrArg List.length hl; rw [List.length_drop, List.length_nil] at this; omega
  have hA : ∀ c, ringA p k c = on p p.evs.length := fun c => by unfold ringA; rw [hl, List.findIdx_nil, Nat.add_zero, hk2]
  unfold fin
  refine List.ext_getElem (by simp) fun m h1 h2 => ?_
  simp only [List.getElem_mapIdx, hA]
  split
  ·rename_i h
   obtain ⟨hm, a, b⟩ := hi.to _ _ h
   exact to_self b.symm
  ·rfl
 | e :: r, k, z, hl, hk, hi => by
  have hk2 : k < p.evs.length := by
   rcases Nat.lt_or_ge k p.evs.length with h | h
   ·exact h
   ·rw [List.drop_eq_nil_of_le h] at hl; cases hl
  have hd := List.drop_eq_getElem_cons hk2
  rw [hl] at hd
  obtain ⟨he, hr⟩ := List.cons.inj hd
  subst he
  obtain ⟨a1, b1⟩ := restS_fin (k := k) (e := p.evs[k]) hi (fun d => if hasC p.evs[k].stops d = true then on p k else ringA p (k + 1) d)
  have hcs := v.cs
  obtain ⟨a2, b2⟩ := runS_fin (k := k) (l := p.evs[k].stops) b1 (fun s hs => by have := v.sp k hk2 s hs; exact ⟨by omega, by omega⟩) (v.asc k hk2) (ringA p (k + 1))
  rw [runE, runE_out v r (k + 1) _ hr.symm hk2 b2, a2, a1, newL, List.append_assoc]
  congr 1
  ·refine fin_congr fun x hx => ?_
   unfold ringA
   rw [find_drop x.c hk2]
   unfold endE
   cases hre : restE p.evs[k]
   ·cases hha : hasC p.evs[k].stops x.c
    ·simp only [Bool.false_eq_true, if_false, Bool.or_self]
     congr 1
     omega
    ·simp
   ·simp
  ·congr 1
   refine List.map_congr_left fun s hs => ?_
   unfold noteA
   split
   ·rename_i hf
    exact noteOf_fret hf
   ·rename_i hf
    exact noteOf_open hf
theorem rinv0 (E : Int) : RInv rs0.R rs0.o E := by
 refine ⟨rfl, fun r hr => ?_, fun x hx => (by cases hx), fun c m h => ?_⟩
 ·have := List.eq_of_mem_replicate hr
  omega
 ·exfalso
  have h2 : (List.replicate 15 0).getD c 0 = 0 := by
   rw [List.getD]
   cases hc : (List.replicate 15 0)[c]? with
   | none => rfl
   | some x => exact List.eq_of_mem_replicate (List.mem_of_getElem? hc)
  have h3 : (List.replicate 15 0).getD c 0 = m + 1 := h
  omega
theorem run_out {p : Pc} (v : Vp p) : (runE p 0 p.evs rs0).o = notesL p ∧ (runE p 0 p.evs rs0).w = pressL p := by
 refine ⟨?_, ?_⟩
 ·rw [runE_out v p.evs 0 rs0 rfl (Nat.zero_le _) (rinv0 _)]
  rfl
 ·rw [runE_w]; rfl
end Go.Ab.V.S

namespace Go.Ab.V.S
open Go.Proofs
def A50 : Ann := fun r => match r with
 | 0 => { slots := [(0, 0)] }
 | 1 => { slots := [(0, 1)] }
 | 3 => { slots := [(0, 2)] }
 | 7 => { slots := [(3, 3)] }
 | 17 => { slots := [(2, 4)] }
 | 20 => { slots := [(8, 5)] }
 | 24 => { slots := [(2, 6), (3, 7)] }
 | 25 => { slots := [(11, 8), (12, 9)] }
 | _ => {}
def fr51 (p : Pc) (e0 e1 e2 e9 : Nat) (n : Nat) : List (Nat × AV) := [(1, .optr (.s 0) e0 4 0 0), (4, .optr (.s 1) e1 1 0 0), (5, .oslc (.s 9) e9 5 0 n false), (6, .optr (.s 2) e2 15 0 0), (7, .fn (.func 72) [] [.optr (.s 2) e2 15 0 0, .optr (.s 1) e1 1 0 0])]
def hp51 (p : Pc) (e0 e1 e2 e7 e9 : Nat) (x3 x4 x5 x6 x8 : AObj) (z : RS) : List AObj := [.vec e0 [sndV p], .vec e1 [[.oslc (.s 7) e7 5 0 z.o.length false]], .vec e2 [rgR z.R], x3, x4, x5, x6, .vec e7 (z.o.map ntR), x8, .vec e9 (z.w.map prR)]
theorem sh_nt (B E : Nat) (l : List Nt) : List.map (fun r => List.map (AV.sh1 B E) r) (l.map ntR) = l.map ntR := by
 rw [List.map_map]
 exact List.map_congr_left fun x _ => rfl
theorem sh_pr (B E : Nat) (l : List Pr) : List.map (fun r => List.map (AV.sh1 B E) r) (l.map prR) = l.map prR := by
 rw [List.map_map]
 exact List.map_congr_left fun x _ => rfl
set_option maxHeartbeats 16000000 in
set_option maxRecDepth 100000 in
theorem notes51h (p : Pc) (v : Vp p) : HRet C.P 50 [sndA p] (fun B eps => .tup [.oslc (.d B) (eps 0) 5 0 (notesL p).length false, .oslc (.d (B + 1)) (eps 1) 5 0 (pressL p).length false]) (fun B eps => [.vec (eps 0) ((notesL p).map ntR), .vec (eps 1) ((pressL p).map prR)]) := by
 obtain ⟨hN, hP⟩ := run_out v
 obtain ⟨Z, hZ⟩ : ∃ Z, Z = runE p 0 p.evs rs0 := ⟨_, rfl⟩
 rw [← hZ] at hN hP
 rw [← hN, ← hP]
 have hlen := v.len
 have h56 := end56 p v
 have hcs := v.cs
 have hol := ons_len p
 refine hret_of ok mixed (A := A50) 10 Try.func50 rfl ?_ (fun B E eps => ⟨fun k => eps k + E, rfl, by rw [List.map_cons, List.map_cons, AObj.sh, AObj.sh, sh_nt, sh_pr]; rfl⟩)
 (repeat' ((conv => whnf); first | exact rfl | exact ⟨rfl, rfl⟩ | refine go1 ?_ | (intro ep) | (refine ifB (fun hb => ?_) (fun hb => ?_) <;> (try simp only [qs] at hb) <;> (try simp (disch := omega) only [wrapI] at hb) <;> (try (exfalso; omega))) | fail))
 all_goals (conv => whnf)
 rename_i e0 e1
 obtain ⟨e2, he⟩ : ∃ e2, e2 = ep := ⟨_, rfl⟩
 subst he
 refine wk_lift 5 9 5 rfl ?_
 intro e9
 (conv => whnf)
 refine wk_liftC 1 7 e1 5 0 0 (by decide) rfl rfl rfl ?_
 intro e7
 (conv => whnf)
 refine loopY ok mixed (A := A50) [1, 4, 5, 6, 7, 20, 21, 22] [0, 1, 2, 7, 9] (S := { z : Nat × Nat × Nat × RS // z.1 ≤ p.evs.length ∧ runE p z.1 (p.evs.drop z.1) z.2.2.2 = Z ∧ RInv z.2.2.2.R z.2.2.2.o (on p p.evs.length) ∧ z.2.2.2.o.length ≤ 14 * z.1 ∧ z.2.2.2.w.length ≤ 14 * z.1 })
  (fr := fun s => frOf 0 122 (fr51 p e0 e1 e2 s.1.2.2.1 s.1.2.2.2.w.length ++ [(20, evsA p.evs), (21, .int .i64 (p.evs.length : Int)), (22, .int .i64 (s.1.1 : Int))]))
  (h := fun s => ⟨hp51 p e0 e1 e2 s.1.2.1 s.1.2.2.1 .hole .hole .hole .hole .hole s.1.2.2.2, []⟩) (μ := fun s => p.evs.length - s.1.1)
  ⟨(0, e7, e9, rs0), by simp, by simp [hZ], rinv0 _, by simp [rs0], by simp [rs0]⟩ ?_ ?_
  [4, 5] [1, 7, 9] (S' := { z : Nat × Nat × RS // z.2.2 = Z ∧ z.2.2.o.length ≤ 5600 ∧ z.2.2.w.length ≤ 5600 }) (X := fun _ => 0)
  (frX := fun s => frOf 0 122 [(4, .optr (.s 1) e1 1 0 0), (5, .oslc (.s 9) s.1.2.1 5 0 s.1.2.2.w.length false)])
  (hX := fun s => ⟨[.hole, .vec e1 [[.oslc (.s 7) s.1.1 5 0 s.1.2.2.o.length false]], .hole, .hole, .hole, .hole, .hole, .vec s.1.1 (s.1.2.2.o.map ntR), .hole, .vec s.1.2.1 (s.1.2.2.w.map prR)], []⟩)
  [] [] (S2 := Empty) (frR := fun s => frOf 0 122 []) (hR := fun s => ⟨[], []⟩) ?_ ?_ ?_
 ·exact rfl
 ·exact rfl
 ·rintro ⟨⟨k, e7, e9, z⟩, hk, hu, hi, ho, hw⟩
  dsimp only at hk hu hi ho hw
  show aexR _ _ _ (frOf 0 122 (fr51 p e0 e1 e2 e9 z.w.length ++ [(20, evsA p.evs), (21, .int .i64 (p.evs.length : Int)), (22, .int .i64 (k : Int))])) ⟨hp51 p e0 e1 e2 e7 e9 .hole .hole .hole .hole .hole z, []⟩ _
  (conv => whnf)
  refine ifB (fun g1 => ?_) (fun g1 => ?_)
  ·simp only [decide_eq_true_eq] at g1
   have hk2 : k < p.evs.length := by omega
   have hmk := mapR (f := evR) hk2
   have hmo := intsR (l := onsets p) (i := k) (by rw [ons_len]; omega)
   rw [on_get (by omega)] at hmo
   have hsp := v.sp k hk2
   have hasc := v.asc k hk2
   have hsl := v.sl k hk2
   rw [List.drop_eq_getElem_cons hk2, runE] at hu
   generalize p.evs[k] = e at hmk hsp hasc hsl hu
   obtain ⟨y1, h1⟩ := restS_fin (k := k) (e := e) hi (fun _ => 0)
   clear y1
   have hzl := restS_len (k := k) (e := e) hi
   have hzw := restS_w p k e z
   have hon := on_bd (p := p)
   cases hre : restE e with
   | true =>
    obtain ⟨eb, ev, ed, et, ey, l⟩ := e
    simp only [restE, Bool.and_eq_true, decide_eq_true_eq, List.length_eq_zero_iff, Bool.not_eq_true'] at hre
    obtain ⟨rfl, rfl⟩ := hre
    have hzz : restS p k ⟨eb, ev, ed, et, false, []⟩ z = ⟨(quitTo (on p k) 15 (z.R, z.o)).1, (quitTo (on p k) 15 (z.R, z.o)).2, z.w⟩ := rest_yes rfl
    obtain ⟨Y, hY⟩ : ∃ Y, Y = restS p k ⟨eb, ev, ed, et, false, []⟩ z := ⟨_, rfl⟩
    rw [runS] at hu
    rw [← hY] at hu h1 hzl hzw hzz
    clear hY
    (repeat' (first | exact rfl | ((conv => whnf); first | refine optS hmk ?_ | refine optS hmo ?_ | exact rfl | exact ⟨rfl, rfl⟩ | refine go1 ?_ | (intro ep) | fail)))
    all_goals (conv => whnf)
    obtain ⟨e3, he⟩ : ∃ e3, e3 = ep := ⟨_, rfl⟩
    subst he
    refine loopY ok mixed (A := A50) [1, 4, 5, 6, 7, 8, 9, 10, 20, 21, 22, 41] [0, 1, 2, 3, 7, 9] (S := { x : Nat × List Nat × List Nt // x.1 ≤ 15 ∧ quitTo (on p k) x.1 (z.R, z.o) = x.2 })
     (fr := fun s => frOf 0 122 (fr51 p e0 e1 e2 e9 z.w.length ++ [(8, .int .i64 (k : Int)), (9, .optr (.s 3) e3 6 0 0), (10, .int .i64 (on p k)), (20, evsA p.evs), (21, .int .i64 (p.evs.length : Int)), (22, .int .i64 (k : Int)), (41, .int .i64 (s.1.1 : Int))]))
     (h := fun s => ⟨hp51 p e0 e1 e2 e7 e9 (.vec e3 [[.bool eb, .int .i64 ev, .bool ed, .bool et, .bool false, stsA []]]) .hole .hole .hole .hole ⟨s.1.2.1, s.1.2.2, z.w⟩, []⟩) (μ := fun s => 15 - s.1.1)
     ⟨(0, z.R, z.o), by simp, rfl⟩ ?_ ?_
     [1, 4, 5, 6, 7, 8, 9, 10, 20, 21, 22] [0, 1, 2, 3, 7, 9] (S' := { x : List Nat × List Nt // quitTo (on p k) 15 (z.R, z.o) = x }) (X := fun _ => 2)
     (frX := fun s => frOf 0 122 (fr51 p e0 e1 e2 e9 z.w.length ++ [(8, .int .i64 (k : Int)), (9, .optr (.s 3) e3 6 0 0), (10, .int .i64 (on p k)), (20, evsA p.evs), (21, .int .i64 (p.evs.length : Int)), (22, .int .i64 (k : Int))]))
     (hX := fun s => ⟨hp51 p e0 e1 e2 e7 e9 (.vec e3 [[.bool eb, .int .i64 ev, .bool ed, .bool et, .bool false, stsA []]]) .hole .hole .hole .hole ⟨s.1.1, s.1.2, z.w⟩, []⟩)
     [] [] (S2 := Empty) (frR := fun s => frOf 0 122 []) (hR := fun s => ⟨[], []⟩) ?_ ?_ ?_
    ·exact rfl
    ·exact rfl
    ·rintro ⟨⟨j, R1, o1⟩, hj, hq⟩
     dsimp only at hj hq
     show aexR _ _ _ (frOf 0 122 (fr51 p e0 e1 e2 e9 z.w.length ++ [(8, .int .i64 (k : Int)), (9, .optr (.s 3) e3 6 0 0), (10, .int .i64 (on p k)), (20, evsA p.evs), (21, .int .i64 (p.evs.length : Int)), (22, .int .i64 (k : Int)), (41, .int .i64 (j : Int))])) ⟨hp51 p e0 e1 e2 e7 e9 (.vec e3 [[.bool eb, .int .i64 ev, .bool ed, .bool et, .bool false, stsA []]]) .hole .hole .hole .hole ⟨R1, o1, z.w⟩, []⟩ _
     obtain ⟨hqi, hql⟩ := quitTo_inv (on p k) j (z.R, z.o) hi hj
     have hqs : quitTo (on p k) (j + 1) (z.R, z.o) = quit R1 o1 j (on p k) := by rw [quitTo, hq]
     rw [hq] at hqi hql
     dsimp only at hqi hql
     (conv => whnf)
     refine ifB (fun g3 => ?_) (fun g3 => ?_)
     ·simp only [decide_eq_true_eq] at g3
      (repeat' (first | exact rfl | ((conv => whnf); first | exact rfl | exact ⟨rfl, rfl⟩ | refine go1 ?_ | (intro ep) | fail)))
      all_goals (conv => whnf)
      refine ACalls.part (dy := []) 8 (by exact rfl) (by exact rfl) (by exact rfl) (stop87 j (on p k) R1 o1 e1 e2 e7 (.vec e0 [sndV p]) (.vec e3 [[.bool eb, .int .i64 ev, .bool ed, .bool et, .bool false, stsA []]]) .hole .hole .hole (by omega) hqi.len hqi.le (by omega)) ?_
      rintro r h1 ⟨rfl, hp, hd⟩
      rw [hp, hd]
      generalize quit R1 o1 j (on p k) = Q at hqs
      obtain ⟨R2, o2⟩ := Q
      (repeat' (first | exact rfl | ((conv => whnf); first | exact rfl | exact ⟨rfl, rfl⟩ | refine go1 ?_ | (intro ep) | (refine ifB (fun hb => ?_) (fun hb => ?_) <;> (try simp only [qs] at hb) <;> (try simp (disch := omega) only [wrapI] at hb) <;> (try (exfalso; omega))) | fail)))
      all_goals (conv => whnf)
      all_goals exact back_of ⟨(j + 1, R2, o2), by dsimp only; omega, hqs⟩ ⟨by (first | exact rfl | (simp (disch := omega) only [wrapI]; exact rfl)), rfl, by dsimp only; omega⟩
     ·simp only [decide_eq_false_iff_not] at g3
      have hj2 : j = 15 := by omega
      subst hj2
      (repeat' (first | exact rfl | ((conv => whnf); first | exact rfl | exact ⟨rfl, rfl⟩ | refine go1 ?_ | (intro ep) | fail)))
      all_goals (conv => whnf)
      all_goals exact back_of ⟨(R1, o1), hq⟩ ⟨rfl, rfl, rfl⟩
    ·rintro ⟨⟩
    ·rintro ⟨⟨R1, o1⟩, hq⟩
     rw [hq] at hzz
     subst hzz
     dsimp only at h1 hzl
     (repeat' (first | exact rfl | ((conv => whnf); first | exact rfl | exact ⟨rfl, rfl⟩ | refine go1 ?_ | (intro ep) | fail)))
     all_goals (conv => whnf)
     refine loopU ok mixed (A := A50) 1 ?_
     (repeat' (first | exact rfl | ((conv => whnf); first | exact rfl | exact ⟨rfl, rfl⟩ | refine go1 ?_ | (intro ep) | fail)))
     all_goals (conv => whnf)
     all_goals exact back_of ⟨(k + 1, e7, e9, ⟨R1, o1, z.w⟩), by dsimp only; omega, hu, h1, by dsimp only; omega, by dsimp only; omega⟩ ⟨by (first | exact rfl | (simp (disch := omega) only [wrapI]; exact rfl)), rfl, by dsimp only; omega⟩
   | false =>
    have hzz : restS p k e z = z := by unfold restS; rw [hre]; rfl
    rw [hzz] at hu
    have hfork : (decide (e.stops.length = 0) && !e.tie) = false := hre
    obtain ⟨eb, ev, ed, et, ey, l⟩ := e
    dsimp only at hsp hasc hsl hu hfork
    (repeat' (first | exact rfl | ((conv => whnf); first | refine optS hmk ?_ | refine optS hmo ?_ | exact rfl | exact ⟨rfl, rfl⟩ | refine go1 ?_ | (intro ep) | fail)))
    all_goals (conv => whnf)
    refine ifB (fun g2 => ?_) (fun g2 => ?_)
    ·have hl0 : l.length = 0 := by simpa using g2
     have hl1 : l = [] := List.length_eq_zero_iff.1 hl0
     subst hl1
     have hy : ey = true := by simpa using hfork
     subst hy
     rw [runS] at hu
     (repeat' (first | exact rfl | ((conv => whnf); first | exact rfl | exact ⟨rfl, rfl⟩ | refine go1 ?_ | (intro ep) | fail)))
     all_goals (conv => whnf)
     refine loopU ok mixed (A := A50) 1 ?_
     (repeat' (first | exact rfl | ((conv => whnf); first | exact rfl | exact ⟨rfl, rfl⟩ | refine go1 ?_ | (intro ep) | fail)))
     all_goals (conv => whnf)
     all_goals exact back_of ⟨(k + 1, e7, e9, z), by dsimp only; omega, hu, hi, by dsimp only; omega, by dsimp only; omega⟩ ⟨by (first | exact rfl | (simp (disch := omega) only [wrapI]; exact rfl)), rfl, by dsimp only; omega⟩
    clear hmk h1 hzl hzw hre hzz hfork g2
    obtain ⟨e3, he⟩ : ∃ e3, e3 = ep := ⟨_, rfl⟩
    subst he
    obtain ⟨Y, hY⟩ : ∃ Y, Y = runS p k l z := ⟨_, rfl⟩
    rw [← hY] at hu
    (repeat' (first | exact rfl | ((conv => whnf); first | exact rfl | exact ⟨rfl, rfl⟩ | refine go1 ?_ | (intro ep) | fail)))
    all_goals (conv => whnf)
    refine loopY ok mixed (A := A50) [1, 4, 5, 6, 7, 8, 10, 20, 21, 22, 50, 51, 52] [0, 1, 2, 7, 9] (S := { z : Nat × Nat × Nat × RS // z.1 ≤ l.length ∧ runS p k (l.drop z.1) z.2.2.2 = Y ∧ RInv z.2.2.2.R z.2.2.2.o (on p p.evs.length) ∧ z.2.2.2.o.length ≤ 14 * k + z.1 ∧ z.2.2.2.w.length ≤ 14 * k + z.1 })
     (fr := fun s => frOf 0 122 (fr51 p e0 e1 e2 s.1.2.2.1 s.1.2.2.2.w.length ++ [(8, .int .i64 (k : Int)), (10, .int .i64 (on p k)), (20, evsA p.evs), (21, .int .i64 (p.evs.length : Int)), (22, .int .i64 (k : Int)), (50, stsA l), (51, .int .i64 (l.length : Int)), (52, .int .i64 (s.1.1 : Int))]))
     (h := fun s => ⟨hp51 p e0 e1 e2 s.1.2.1 s.1.2.2.1 .hole .hole .hole .hole .hole s.1.2.2.2, []⟩) (μ := fun s => l.length - s.1.1)
     ⟨(0, e7, e9, z), by simp, by simp [hY], hi, by simpa using ho, by simpa using hw⟩ ?_ ?_
     [1, 4, 5, 6, 7, 20, 21, 22] [0, 1, 2, 7, 9] (S' := { z : Nat × Nat × RS // z.2.2 = Y ∧ RInv z.2.2.R z.2.2.o (on p p.evs.length) ∧ z.2.2.o.length ≤ 14 * k + 14 ∧ z.2.2.w.length ≤ 14 * k + 14 }) (X := fun _ => 4)
     (frX := fun s => frOf 0 122 (fr51 p e0 e1 e2 s.1.2.1 s.1.2.2.w.length ++ [(20, evsA p.evs), (21, .int .i64 (p.evs.length : Int)), (22, .int .i64 (k : Int))]))
     (hX := fun s => ⟨hp51 p e0 e1 e2 s.1.1 s.1.2.1 .hole .hole .hole .hole .hole s.1.2.2, []⟩)
     [] [] (S2 := Empty) (frR := fun s => frOf 0 122 []) (hR := fun s => ⟨[], []⟩) ?_ ?_ ?_
    ·exact rfl
    ·exact rfl
    ·rintro ⟨⟨j, e7, e9, z⟩, hj, hu2, hi, ho, hw⟩
     dsimp only at hj hu2 hi ho hw
     show aexR _ _ _ (frOf 0 122 (fr51 p e0 e1 e2 e9 z.w.length ++ [(8, .int .i64 (k : Int)), (10, .int .i64 (on p k)), (20, evsA p.evs), (21, .int .i64 (p.evs.length : Int)), (22, .int .i64 (k : Int)), (50, stsA l), (51, .int .i64 (l.length : Int)), (52, .int .i64 (j : Int))])) ⟨hp51 p e0 e1 e2 e7 e9 .hole .hole .hole .hole .hole z, []⟩ _
     (conv => whnf)
     refine ifB (fun g3 => ?_) (fun g3 => ?_)
     ·simp only [decide_eq_true_eq] at g3
      have hj2 : j < l.length := by omega
      have hm := mapR (f := stR) hj2
      have hs := hsp l[j] (List.getElem_mem hj2)
      rw [List.drop_eq_getElem_cons hj2, runS] at hu2
      generalize l[j] = s at hm hs hu2
      obtain ⟨sc, sf, sr, sg, sh⟩ := s
      dsimp only at hs
      obtain ⟨c, rfl⟩ : ∃ c : Nat, sc = c := ⟨sc.toNat, by omega⟩
      (repeat' (first | exact rfl | ((conv => whnf); first | refine optS hm ?_ | exact rfl | exact ⟨rfl, rfl⟩ | refine go1 ?_ | (intro ep) | fail)))
      all_goals (conv => whnf)
      obtain ⟨e4, he⟩ : ∃ e4, e4 = ep := ⟨_, rfl⟩
      subst he
      refine ACalls.part (dy := []) 8 (by exact rfl) (by exact rfl) (by exact rfl) (stop87 c (on p k) z.R z.o e1 e2 e7 (.vec e0 [sndV p]) .hole (.vec e4 [[.int .i64 c, .int .i64 sf, .int .i64 sr, .int .i64 sg, .int .i64 sh]]) .hole .hole (by omega) hi.len hi.le (by omega)) ?_
      rintro r h1 ⟨rfl, hp, hd⟩
      rw [hp, hd]
      have hql := quit_len z.R z.o c (on p k)
      have hst : stpS p k z ⟨c, sf, sr, sg, sh⟩ = ⟨if 0 < sf then (quit z.R z.o c (on p k)).1 else (quit z.R z.o c (on p k)).1.set c ((quit z.R z.o c (on p k)).2.length + 1), (quit z.R z.o c (on p k)).2 ++ [rawOf p k ⟨c, sf, sr, sg, sh⟩], z.w ++ [pressOf p k ⟨c, sf, sr, sg, sh⟩]⟩ := rfl
      have hin := (stpS_fin (k := k) (s := ⟨c, sf, sr, sg, sh⟩) hi ⟨by dsimp only; omega, by dsimp only; omega⟩ (fun _ => 0)).2
      rw [hst] at hu2 hin
      have hRl := hi.len
      generalize quit z.R z.o c (on p k) = Q at hql hst hu2 hin
      obtain ⟨R1, o1⟩ := Q
      dsimp only at hql hu2 hin
      have hAt := at88 p v c sf hs.1 hs.2.1
      have t1 : List.take o1.length (List.drop 0 (o1.map ntR)) = o1.map ntR := by rw [List.drop_zero, List.take_of_length_le (by simp)]
      have t2 : List.take z.w.length (List.drop 0 (z.w.map prR)) = z.w.map prR := by rw [List.drop_zero, List.take_of_length_le (by simp)]
      by_cases hf : 0 < sf
      ·rw [if_pos hf] at hu2 hin
       have h89 := stay89 p v k sh (by omega) (by omega)
       have hle := stayN_le (l := p.evs) (i := k) (h := sh.toNat) (by omega)
       have hge : k + 1 ≤ stayN p.evs k sh.toNat := by unfold stayN; omega
       have hmS := intsR (l := onsets p) (i := stayN p.evs k sh.toNat) (by omega)
       rw [on_get hle] at hmS
       have hraw : rawOf p k ⟨c, sf, sr, sg, sh⟩ = ⟨k, c, pitchOf p.ins c sf, on p k, on p (stayN p.evs k sh.toNat)⟩ := by unfold rawOf toOf; rw [if_pos hf]
       have hprs : pressOf p k ⟨c, sf, sr, sg, sh⟩ = ⟨k, c, sf, on p k, on p (stayN p.evs k sh.toNat)⟩ := by unfold pressOf toOf; rw [if_pos hf]
       rw [hraw, hprs] at hu2
       rw [hraw] at hin
       generalize stayN p.evs k sh.toNat = N at h89 hle hge hmS hu2 hin
       have hw2 : IntKind.i64.wrap (((N : Nat) : Int) - 1 + 1) = (N : Int) := by rw [wrapI (by omega) (by omega)]; omega
       rw [← hw2] at hmS
       generalize on p N = tN at hmS hu2 hin
       generalize pitchOf p.ins c sf = pi at hAt hu2 hin
       (repeat' (first | exact rfl | ((conv => whnf); first | refine ⟨_, hAt, ?_⟩ | refine ⟨_, h56, ?_⟩ | refine ⟨_, h89, ?_⟩ | refine optS hmS ?_ | exact rfl | exact ⟨rfl, rfl⟩ | refine go1 ?_ | (intro ep) | (refine ifB (fun hb => ?_) (fun hb => ?_) <;> (try simp only [qs] at hb) <;> (try simp (disch := omega) only [wrapI] at hb) <;> (try (exfalso; omega))) | fail)))
       all_goals (conv => whnf)
       rename_i e7b _
       refine back_of ⟨(j + 1, e7b, ep, ⟨R1, o1 ++ [⟨k, c, pi, on p k, tN⟩], z.w ++ [⟨k, c, sf, on p k, tN⟩]⟩), by dsimp only; omega, hu2, hin, by dsimp only; rw [List.length_append, List.length_singleton]; omega, by dsimp only; rw [List.length_append, List.length_singleton]; omega⟩ ⟨?_, ?_, by dsimp only; omega⟩
       ·show maskF 0 _ _ = frOf 0 122 (fr51 p e0 e1 e2 ep (z.w ++ [(⟨k, c, sf, on p k, tN⟩ : Pr)]).length ++ [(8, .int .i64 (k : Int)), (10, .int .i64 (on p k)), (20, evsA p.evs), (21, .int .i64 (p.evs.length : Int)), (22, .int .i64 (k : Int)), (50, stsA l), (51, .int .i64 (l.length : Int)), (52, .int .i64 ((j + 1 : Nat) : Int))])
        rw [List.length_append, List.length_singleton]
        (first | exact rfl | (simp (disch := omega) only [wrapI]; exact rfl))
       ·show maskH 0 _ _ = ⟨[.vec e0 [sndV p], .vec e1 [[.oslc (.s 7) e7b 5 0 (o1 ++ [(⟨k, c, pi, on p k, tN⟩ : Nt)]).length false]], .vec e2 [rgR (R1)], .hole, .hole, .hole, .hole, .vec e7b ((o1 ++ [(⟨k, c, pi, on p k, tN⟩ : Nt)]).map ntR), .hole, .vec ep ((z.w ++ [(⟨k, c, sf, on p k, tN⟩ : Pr)]).map prR)], []⟩
        have em : (o1 ++ [(⟨k, c, pi, on p k, tN⟩ : Nt)]).map ntR = List.take o1.length (List.drop 0 (o1.map ntR)) ++ [[.int .i64 k, .int .i64 c, .int .i64 pi, .int .i64 (on p k), .int .i64 (tN)]] := by rw [t1]; simp [ntR]
        have ew : (z.w ++ [(⟨k, c, sf, on p k, tN⟩ : Pr)]).map prR = List.take z.w.length (List.drop 0 (z.w.map prR)) ++ [[.int .i64 k, .int .i64 c, .int .i64 sf, .int .i64 (on p k), .int .i64 (tN)]] := by rw [t2]; simp [prR]
        rw [em, ew, List.length_append, List.length_singleton]
        (first | exact rfl | (simp (disch := omega) only [wrapI]; exact rfl))
      ·rw [if_neg hf] at hu2 hin
       have hraw : rawOf p k ⟨c, sf, sr, sg, sh⟩ = ⟨k, c, pitchOf p.ins c sf, on p k, on p p.evs.length⟩ := by unfold rawOf toOf; rw [if_neg hf]
       have hprs : pressOf p k ⟨c, sf, sr, sg, sh⟩ = ⟨k, c, sf, on p k, on p p.evs.length⟩ := by unfold pressOf toOf; rw [if_neg hf]
       rw [hraw, hprs] at hu2
       rw [hraw] at hin
       generalize pitchOf p.ins c sf = pi at hAt hu2 hin
       have hcR : c < R1.length := by omega
       have hs3 := rg_set R1 c (o1.length + 1) hcR
       have hw3 : ((o1.length + 1 : Nat) : Int) = IntKind.i64.wrap ((o1.length : Int) + 1) := by rw [wrapI (by omega) (by omega)]; omega
       rw [hw3] at hs3
       (repeat' (first | exact rfl | ((conv => whnf); first | refine ⟨_, hAt, ?_⟩ | refine ⟨_, h56, ?_⟩ | exact rfl | exact ⟨rfl, rfl⟩ | refine go1 ?_ | (intro ep) | (refine ifB (fun hb => ?_) (fun hb => ?_) <;> (try simp only [qs] at hb) <;> (try simp (disch := omega) only [wrapI] at hb) <;> (try (exfalso; omega))) | fail)))
       all_goals (conv => whnf)
       refine decT (by show 0 + (c : Int).toNat * 1 + 1 ≤ (rgR R1).length; rw [rg_len]; omega) (fun _ => ?_)
       show forceL (List.take (0 + (c : Int).toNat * 1) (rgR R1) ++ [.int .i64 (IntKind.i64.wrap ((o1.length : Int) + 1))] ++ List.drop (0 + (c : Int).toNat * 1 + 1) (rgR R1)) _
       rw [forceL_eq, hs3]
       (repeat' (first | exact rfl | ((conv => whnf); first | exact rfl | exact ⟨rfl, rfl⟩ | refine go1 ?_ | (intro ep) | (refine ifB (fun hb => ?_) (fun hb => ?_) <;> (try simp only [qs] at hb) <;> (try simp (disch := omega) only [wrapI] at hb) <;> (try (exfalso; omega))) | fail)))
       all_goals (conv => whnf)
       rename_i e7b _
       refine back_of ⟨(j + 1, e7b, ep, ⟨R1.set c (o1.length + 1), o1 ++ [⟨k, c, pi, on p k, on p p.evs.length⟩], z.w ++ [⟨k, c, sf, on p k, on p p.evs.length⟩]⟩), by dsimp only; omega, hu2, hin, by dsimp only; rw [List.length_append, List.length_singleton]; omega, by dsimp only; rw [List.length_append, List.length_singleton]; omega⟩ ⟨?_, ?_, by dsimp only; omega⟩
       ·show maskF 0 _ _ = frOf 0 122 (fr51 p e0 e1 e2 ep (z.w ++ [(⟨k, c, sf, on p k, on p p.evs.length⟩ : Pr)]).length ++ [(8, .int .i64 (k : Int)), (10, .int .i64 (on p k)), (20, evsA p.evs), (21, .int .i64 (p.evs.length : Int)), (22, .int .i64 (k : Int)), (50, stsA l), (51, .int .i64 (l.length : Int)), (52, .int .i64 ((j + 1 : Nat) : Int))])
        rw [List.length_append, List.length_singleton]
        (first | exact rfl | (simp (disch := omega) only [wrapI]; exact rfl))
       ·show maskH 0 _ _ = ⟨[.vec e0 [sndV p], .vec e1 [[.oslc (.s 7) e7b 5 0 (o1 ++ [(⟨k, c, pi, on p k, on p p.evs.length⟩ : Nt)]).length false]], .vec e2 [rgR (R1.set c (o1.length + 1))], .hole, .hole, .hole, .hole, .vec e7b ((o1 ++ [(⟨k, c, pi, on p k, on p p.evs.length⟩ : Nt)]).map ntR), .hole, .vec ep ((z.w ++ [(⟨k, c, sf, on p k, on p p.evs.length⟩ : Pr)]).map prR)], []⟩
        have em : (o1 ++ [(⟨k, c, pi, on p k, on p p.evs.length⟩ : Nt)]).map ntR = List.take o1.length (List.drop 0 (o1.map ntR)) ++ [[.int .i64 k, .int .i64 c, .int .i64 pi, .int .i64 (on p k), .int .i64 (on p p.evs.length)]] := by rw [t1]; simp [ntR]
        have ew : (z.w ++ [(⟨k, c, sf, on p k, on p p.evs.length⟩ : Pr)]).map prR = List.take z.w.length (List.drop 0 (z.w.map prR)) ++ [[.int .i64 k, .int .i64 c, .int .i64 sf, .int .i64 (on p k), .int .i64 (on p p.evs.length)]] := by rw [t2]; simp [prR]
        rw [em, ew, List.length_append, List.length_singleton]
        (first | exact rfl | (simp (disch := omega) only [wrapI]; exact rfl))
     ·simp only [decide_eq_false_iff_not] at g3
      have hj2 : j = l.length := by omega
      subst hj2
      rw [List.drop_length, runS] at hu2
      (repeat' (first | exact rfl | ((conv => whnf); first | exact rfl | exact ⟨rfl, rfl⟩ | refine go1 ?_ | (intro ep) | fail)))
      all_goals (conv => whnf)
      all_goals exact back_of ⟨(e7, e9, z), hu2, hi, by dsimp only; omega, by dsimp only; omega⟩ ⟨rfl, rfl, rfl⟩
    ·rintro ⟨⟩
    ·rintro ⟨⟨e7, e9, z⟩, hz, hi, h1, h2⟩
     dsimp only at hz hi h1 h2
     rw [← hz] at hu
     (repeat' (first | exact rfl | ((conv => whnf); first | exact rfl | exact ⟨rfl, rfl⟩ | refine go1 ?_ | (intro ep) | fail)))
     all_goals (conv => whnf)
     all_goals exact back_of ⟨(k + 1, e7, e9, z), by dsimp only; omega, hu, hi, by dsimp only; omega, by dsimp only; omega⟩ ⟨by (first | exact rfl | (simp (disch := omega) only [wrapI]; exact rfl)), rfl, by dsimp only; omega⟩
  ·simp only [decide_eq_false_iff_not] at g1
   have hk2 : k = p.evs.length := by omega
   subst hk2
   rw [List.drop_length, runE] at hu
   (repeat' (first | exact rfl | ((conv => whnf); first | exact rfl | exact ⟨rfl, rfl⟩ | refine go1 ?_ | (intro ep) | fail)))
   all_goals (conv => whnf)
   all_goals exact back_of ⟨(e7, e9, z), hu, by dsimp only; omega, by dsimp only; omega⟩ ⟨rfl, rfl, rfl⟩
 ·rintro ⟨⟩
 ·rintro ⟨⟨e7, e9, z⟩, hz, h1, h2⟩
  dsimp only at hz h1 h2
  subst hz
  (repeat' (first | exact rfl | ((conv => whnf); first | exact rfl | exact ⟨rfl, rfl⟩ | refine go1 ?_ | (intro ep) | (refine ifB (fun hb => ?_) (fun hb => ?_) <;> (try simp only [qs] at hb) <;> (try simp (disch := omega) only [wrapI] at hb) <;> (try (exfalso; omega))) | fail)))
  all_goals (conv => whnf)
  rename_i ea
  exact ⟨fun n => match n with | 0 => ea | _ => ep, rfl, rfl⟩
theorem notes51 (p : Pc) (v : Vp p) : PRet C.P 50 [sndA p] (.tup [ntsA (notesL p), prsA (pressL p)]) := by
 refine HRet.pret (notes51h p v) (fun eps o ho => ?_) (fun eps => ?_) rfl fun h => ?_
 ·simp only [List.mem_cons, List.not_mem_nil, or_false] at ho
  rcases ho with rfl | rfl
  ·exact Go.Ab.V.S.pure_map (f := ntR) _ fun x => rfl
  ·exact Go.Ab.V.S.pure_map (f := prR) _ fun x => rfl
 ·simp [fzV, fzC, ntsA, prsA]
 ·exact rfl
end Go.Ab.V.S

namespace Go.Ab.V.S
open Go.Proofs
def notesV (p : Pc) : AV := if chk p = 0 then .tup [ntsA (notesL p), .int .i64 0] else .tup [.nils, .int .i64 (chk p)]
def A30 : Ann := fun r => match r with
 | 0 => { slots := [(0, 0)] }
 | 1 => { slots := [(5, 1)] }
 | _ => {}
set_option maxRecDepth 100000 in
theorem notes17 (p : Pc) (hp : p.Ok) : PRet C.P 30 [pcA p] (notesV p) := by
 unfold notesV
 by_cases hc : chk p = 0
 ·rw [if_pos hc]
  have h1 := listen_ok p hp hc
  have h2 := notes51 p (vp hc)
  generalize notesL p = N at h2
  refine pret_of ok mixed (A := A30) 2 Try.func30 rfl ?_
  (repeat' (first | exact rfl | ((conv => whnf); first | refine ⟨_, h1, ?_⟩ | refine ⟨_, h2, ?_⟩ | exact rfl | exact ⟨rfl, rfl⟩ | refine go1 ?_ | (intro ep) | (refine ifB (fun hb => ?_) (fun hb => ?_) <;> (try simp only [qs] at hb) <;> (try simp (disch := omega) only [wrapI] at hb) <;> (try (exfalso; omega))) | fail)))
 ·rw [if_neg hc]
  have h1 := listen_bad p hp hc
  generalize chk p = e at h1 hc
  refine pret_of ok mixed (A := A30) 2 Try.func30 rfl ?_
  (repeat' (first | exact rfl | ((conv => whnf); first | refine ⟨_, h1, ?_⟩ | exact rfl | exact ⟨rfl, rfl⟩ | refine go1 ?_ | (intro ep) | (refine ifB (fun hb => ?_) (fun hb => ?_) <;> (try simp only [qs] at hb) <;> (try simp (disch := omega) only [wrapI] at hb) <;> (try (exfalso; omega))) | fail)))
end Go.Ab.V.S

namespace Go.Ab.V.S
open Go.Proofs
theorem newL_len {α : Type} {g : Nat → Stp → α} : ∀ {l : List Evt} {k : Nat}, (∀ e ∈ l, e.stops.length ≤ 14) → (newL g k l).length ≤ 14 * l.length
 | [], k, h => by simp [newL]
 | e :: r, k, h => by
  rw [newL, List.length_append, List.length_map, List.length_cons]
  have h1 := h e (by simp)
  have h2 := newL_len (g := g) (l := r) (k := k + 1) (fun x hx => h x (List.mem_cons_of_mem _ hx))
  omega
theorem notes_len {p : Pc} (v : Vp p) : (notesL p).length ≤ 5600 := by
 have h1 := newL_len (g := noteOf p) (l := p.evs) (k := 0) (fun e he => by
  obtain ⟨k, hk, rfl⟩ := List.getElem_of_mem he
  exact v.sl k hk)
 have h2 := v.len
 have h3 : notesL p = newL (noteOf p) 0 p.evs := rfl
 rw [h3]
 omega
end Go.Ab.V.S
