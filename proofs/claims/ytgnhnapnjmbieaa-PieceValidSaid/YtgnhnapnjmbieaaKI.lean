/-
  What is proved here serves the law's text: each part says its own claim and its conditions. No condition is left open.
-/
import Derived.Test.YtgnhnapnjmbieaaKH
set_option linter.unusedSimpArgs false
set_option linter.unusedVariables false

/-
  The document's Onsets: the signs in force, the times; they are the program's. The pieces are of the sizes that a statement looks at.
-/
namespace Go.Ab.V
open Go.Proofs

structure Sgn where
  v : Int
  d : Bool
  t : Bool
def sgnR (s : Sgn) : List AV := [.int .i64 s.v, .bool s.d, .bool s.t]
def Sgn.tk (s : Sgn) : Int := ticks s.v s.d s.t
def nextS (s : Sgn) (e : Evt) : Sgn := if e.v = 0 then s else ⟨e.v, e.d, e.t⟩
def fcs (s : Sgn) : List Evt → List Sgn
  | [] => []
  | e :: r => nextS s e :: fcs (nextS s e) r
theorem fcs_len : ∀ (l : List Evt) (s : Sgn), (fcs s l).length = l.length
  | [], _ => rfl
  | e :: r, s => by simp [fcs, fcs_len r]

def A96 : Ann := fun r => match r with
  | 0 => { slots := [(0, 0)] }
  | 2 => { slots := [(1, 1)] }
  | 8 => { slots := [(2, 2), (3, 3)] }
  | _ => {}
/-- what Forces hands back -/
def fcsV (p : Pc) : AV := .lslc 3 ((fcs ⟨0, false, false⟩ p.evs).map sgnR) 0 p.evs.length false

set_option maxHeartbeats 2000000 in
set_option maxRecDepth 100000 in
theorem forces_spec (p : Pc) (hp : p.Sm) : PRet C.P 96 [pcA p] (fcsV p) := by
  have hle := hp.ev
  refine pret_of ok mixed (A := A96) 4 Try.func96 rfl ?_
  (conv => whnf)
  intro e0
  (repeat' (first | exact rfl | ((conv => whnf); first | exact rfl | refine ⟨by kernel_rfl, ?_⟩ | exact ⟨rfl, rfl⟩ | refine ⟨rfl, ?_⟩ | refine ⟨by (first | omega | (simp (disch := omega) only [wrapI]; omega) | (simp (disch := omega) only [wrapI]; simp; omega) | (simp; omega)), ?_⟩ | (intro ep) | (refine ifB (fun hb => ?_) (fun hb => ?_) <;> (try simp only [decide_eq_true_eq, decide_eq_false_iff_not, beq_iff_eq, beq_eq_false_iff_ne, bne_iff_ne, bne_eq_false_iff_eq, ne_eq, not_false_eq_true, not_true_eq_false, Bool.not_eq_true, Bool.not_eq_true', Bool.not_eq_false', Int.not_lt, Int.not_le] at hb) <;> (try simp (disch := omega) only [wrapI] at hb) <;> (try (exfalso; omega))) | fail)))
  obtain ⟨e1, he⟩ : ∃ e, e = ep := ⟨_, rfl⟩
  subst he
  (conv => whnf)
  refine wk_lift 3 3 3 rfl ?_
  intro eA
  refine loopM ok mixed (A := A96) [1, 3, 4, 5] [0, 1, 3] (S := { x : Nat × Nat × Sgn × List Sgn // x.1 ≤ p.evs.length ∧ x.2.2.2.length = x.1 ∧ x.2.2.2 ++ fcs x.2.2.1 (p.evs.drop x.1) = fcs ⟨0, false, false⟩ p.evs })
    (fr := fun s => frOf 0 33 [(1, .optr (.s 0) e0 3 0 0), (3, .oslc (.s 3) s.1.2.1 3 0 s.1.1 false), (4, .optr (.s 1) e1 3 0 0), (5, .int .i64 (s.1.1 : Int))])
    (h := fun s => ⟨[.vec e0 [[crsA p.ins.cs, intsA p.ins.steps, evsA p.evs]], .vec e1 [sgnR s.1.2.2.1], .hole, .vec s.1.2.1 (s.1.2.2.2.map sgnR)], []⟩) (μ := fun s => p.evs.length - s.1.1) ⟨(0, eA, ⟨0, false, false⟩, []), by simp⟩ ?_ ?_ ?_
  · exact rfl
  · exact rfl
  rintro ⟨⟨k, eB, s, pre⟩, hk, hpre, hs⟩
  simp only at hk hpre hs
  show aexR _ _ _ (frOf 0 33 [(1, .optr (.s 0) e0 3 0 0), (3, .oslc (.s 3) eB 3 0 k false), (4, .optr (.s 1) e1 3 0 0), (5, .int .i64 (k : Int))])
    ⟨[.vec e0 [[crsA p.ins.cs, intsA p.ins.steps, evsA p.evs]], .vec e1 [sgnR s], .hole, .vec eB (pre.map sgnR)], []⟩ _
  (conv => whnf)
  refine ⟨rfl, ?_⟩
  (conv => whnf)
  refine ifB (fun h1 => ?_) (fun h1 => ?_)
  · simp only [decide_eq_true_eq] at h1
    have hlt : k < p.evs.length := by omega
    obtain ⟨e, hev⟩ : ∃ e, p.evs[k] = e := ⟨_, rfl⟩
    have hm : (p.evs.map evR)[0 + ((k : Nat) : Int).toNat]? = some (evR e) := by rw [mapR hlt, hev]
    rw [drop_at hlt, hev] at hs
    simp only [fcs] at hs
    have t3 : List.take k (List.drop 0 (pre.map sgnR)) = pre.map sgnR := by rw [List.drop_zero, List.take_of_length_le (by simp; omega)]
    (repeat' (first | exact rfl | ((conv => whnf); first | exact rfl | refine ⟨by kernel_rfl, ?_⟩ | exact ⟨rfl, rfl⟩ | refine ⟨rfl, ?_⟩ | refine ⟨by (first | omega | (simp (disch := omega) only [wrapI]; omega) | (simp (disch := omega) only [wrapI]; simp; omega) | (simp; omega)), ?_⟩ | (intro ep) | refine optS hm ?_ | (refine ifB (fun hb => ?_) (fun hb => ?_) <;> (try simp only [decide_eq_true_eq, decide_eq_false_iff_not, beq_iff_eq, beq_eq_false_iff_ne, bne_iff_ne, bne_eq_false_iff_eq, ne_eq, not_false_eq_true, not_true_eq_false, Bool.not_eq_true, Bool.not_eq_true', Bool.not_eq_false', Int.not_lt, Int.not_le] at hb) <;> (try simp (disch := omega) only [wrapI] at hb) <;> (try (exfalso; omega))) | fail)))
    all_goals (conv => whnf)
    · have hn : nextS s e = ⟨e.v, e.d, e.t⟩ := by unfold nextS; rw [if_neg hb]
      rw [hn] at hs
      refine back_of ⟨(k + 1, ep, (⟨e.v, e.d, e.t⟩ : Sgn), pre ++ [(⟨e.v, e.d, e.t⟩ : Sgn)]), by simp only; omega, by simp [hpre], by simpa using hs⟩ ⟨by (first | exact rfl | (simp (disch := omega) only [wrapI]; exact rfl)), ?_, by simp only; omega⟩
      refine Eq.trans (b := ⟨[.vec e0 [[crsA p.ins.cs, intsA p.ins.steps, evsA p.evs]], .vec e1 [sgnR (⟨e.v, e.d, e.t⟩ : Sgn)], .hole, .vec ep (List.take k (List.drop 0 (pre.map sgnR)) ++ [sgnR (⟨e.v, e.d, e.t⟩ : Sgn)])], []⟩) rfl ?_
      rw [t3]
      simp
    · have hn : nextS s e = s := by unfold nextS; rw [if_pos hb]
      rw [hn] at hs
      refine back_of ⟨(k + 1, ep, s, pre ++ [s]), by simp only; omega, by simp [hpre], by simpa using hs⟩ ⟨by (first | exact rfl | (simp (disch := omega) only [wrapI]; exact rfl)), ?_, by simp only; omega⟩
      refine Eq.trans (b := ⟨[.vec e0 [[crsA p.ins.cs, intsA p.ins.steps, evsA p.evs]], .vec e1 [sgnR s], .hole, .vec ep (List.take k (List.drop 0 (pre.map sgnR)) ++ [sgnR s])], []⟩) rfl ?_
      rw [t3]
      simp
  · simp only [decide_eq_false_iff_not] at h1
    have q : k = p.evs.length := by omega
    rw [List.drop_eq_nil_of_le (by omega)] at hs
    simp only [fcs, List.append_nil] at hs
    (repeat' (first | exact rfl | ((conv => whnf); first | exact rfl | refine ⟨by kernel_rfl, ?_⟩ | exact ⟨rfl, rfl⟩ | refine ⟨rfl, ?_⟩ | refine ⟨by (first | omega | (simp (disch := omega) only [wrapI]; omega) | (simp (disch := omega) only [wrapI]; simp; omega) | (simp; omega)), ?_⟩ | (intro ep) | (refine ifB (fun hb => ?_) (fun hb => ?_) <;> (try simp only [decide_eq_true_eq, decide_eq_false_iff_not, beq_iff_eq, beq_eq_false_iff_ne, bne_iff_ne, bne_eq_false_iff_eq, ne_eq, not_false_eq_true, not_true_eq_false, Bool.not_eq_true, Bool.not_eq_true', Bool.not_eq_false', Int.not_lt, Int.not_le] at hb) <;> (try simp (disch := omega) only [wrapI] at hb) <;> (try (exfalso; omega))) | fail)))
    rw [hs, q]
    exact ⟨pure_map _ fun x => rfl, rfl, rfl⟩

def tmsT (t : Int) : List Sgn → List Int
  | [] => []
  | s :: r => (t + s.tk) :: tmsT (t + s.tk) r
def times (p : Pc) : List Int := 0 :: tmsT 0 (fcs ⟨0, false, false⟩ p.evs)

def A67 : Ann := fun r => match r with
  | 0 => { slots := [(0, 0)] }
  | 1 => { slots := [(0, 1)] }
  | 6 => { slots := [(11, 2), (12, 3)] }
  | _ => {}

set_option maxHeartbeats 2000000 in
set_option maxRecDepth 100000 in
theorem times_spec (p : Pc) (hp : p.Sm) : PRet C.P 67 [pcA p] (.lslc 1 (ints (times p)) 0 (p.evs.length + 1) false) := by
  have hle := hp.ev
  have hf := forces_spec p hp
  obtain ⟨ss, hss⟩ : ∃ ss, ss = fcs ⟨0, false, false⟩ p.evs := ⟨_, rfl⟩
  have hsl : ss.length = p.evs.length := by rw [hss]; exact fcs_len _ _
  unfold fcsV at hf
  unfold times
  rw [← hss] at hf ⊢
  rw [← hsl] at hf ⊢
  refine pret_of ok mixed (A := A67) 4 Try.func67 rfl ?_
  (repeat' (first | exact rfl | ((conv => whnf); first | exact rfl | refine ⟨by kernel_rfl, ?_⟩ | exact ⟨rfl, rfl⟩ | refine ⟨rfl, ?_⟩ | refine ⟨by (first | omega | (simp (disch := omega) only [wrapI]; omega) | (simp (disch := omega) only [wrapI]; simp; omega) | (simp; omega)), ?_⟩ | (intro ep) | refine ⟨_, hf, ?_⟩ | (refine ifB (fun hb => ?_) (fun hb => ?_) <;> (try simp only [decide_eq_true_eq, decide_eq_false_iff_not, beq_iff_eq, beq_eq_false_iff_ne, bne_iff_ne, bne_eq_false_iff_eq, ne_eq, not_false_eq_true, not_true_eq_false, Bool.not_eq_true, Bool.not_eq_true', Bool.not_eq_false', Int.not_lt, Int.not_le] at hb) <;> (try simp (disch := omega) only [wrapI] at hb) <;> (try (exfalso; omega))) | fail)))
  (conv => whnf)
  refine loopM ok mixed (A := A67) [3, 4, 5] [1] (S := { x : Nat × Nat × Int × List Int // x.1 ≤ ss.length ∧ x.2.2.2.length = x.1 ∧ (0 ≤ x.2.2.1 ∧ x.2.2.1 ≤ 576 * x.1) ∧ x.2.2.2 ++ [x.2.2.1] ++ tmsT x.2.2.1 (ss.drop x.1) = 0 :: tmsT 0 ss })
    (fr := fun s => frOf 0 29 [(3, .oslc (.s 1) s.1.2.1 1 0 (s.1.1 + 1) false), (4, .lslc 3 (ss.map sgnR) 0 ss.length false), (5, .int .i64 (s.1.1 : Int))])
    (h := fun s => ⟨[.hole, .vec s.1.2.1 (ints (s.1.2.2.2 ++ [s.1.2.2.1])), .hole, .hole], []⟩) (μ := fun s => ss.length - s.1.1) ⟨(0, ep, 0, []), by simp⟩ ?_ ?_ ?_
  · exact rfl
  · exact rfl
  rintro ⟨⟨k, eB, t, pre⟩, hk, hpre, ht, hs⟩
  simp only at hk hpre ht hs
  show aexR _ _ _ (frOf 0 29 [(3, .oslc (.s 1) eB 1 0 (k + 1) false), (4, .lslc 3 (ss.map sgnR) 0 ss.length false), (5, .int .i64 (k : Int))])
    ⟨[.hole, .vec eB (ints (pre ++ [t])), .hole, .hole], []⟩ _
  (conv => whnf)
  refine ifB (fun h1 => ?_) (fun h1 => ?_)
  · simp only [decide_eq_true_eq] at h1
    have hlt : k < ss.length := by omega
    obtain ⟨s, hev⟩ : ∃ s, ss[k] = s := ⟨_, rfl⟩
    have hm : (ss.map sgnR)[0 + ((k : Nat) : Int).toNat]? = some (sgnR s) := by rw [mapR hlt, hev]
    have hrd : (ints (pre ++ [t]))[0 + ((k : Nat) : Int).toNat]? = some [.int .i64 t] := by
      rw [intsR (by simp [hpre])]
      simp [← hpre]
    rw [drop_at hlt, hev] at hs
    simp only [tmsT] at hs
    have tb := ticks_bd s.v s.d s.t
    have t3 : List.take (k + 1) (List.drop 0 (ints (pre ++ [t]))) = ints (pre ++ [t]) := by rw [List.drop_zero, List.take_of_length_le (by simp [ints, hpre])]
    (repeat' (first | exact rfl | ((conv => whnf); first | exact rfl | refine ⟨by kernel_rfl, ?_⟩ | exact ⟨rfl, rfl⟩ | refine ⟨rfl, ?_⟩ | refine ⟨by (first | omega | (simp (disch := omega) only [wrapI]; omega) | (simp (disch := omega) only [wrapI]; simp; omega) | (simp; omega)), ?_⟩ | (intro ep) | refine optS hm ?_ | refine optS hrd ?_ | refine ⟨_, refTicks_spec s.v s.d s.t, ?_⟩ | (refine ifB (fun hb => ?_) (fun hb => ?_) <;> (try simp only [decide_eq_true_eq, decide_eq_false_iff_not, beq_iff_eq, beq_eq_false_iff_ne, bne_iff_ne, bne_eq_false_iff_eq, ne_eq, not_false_eq_true, not_true_eq_false, Bool.not_eq_true, Bool.not_eq_true', Bool.not_eq_false', Int.not_lt, Int.not_le] at hb) <;> (try simp (disch := omega) only [wrapI] at hb) <;> (try (exfalso; omega))) | fail)))
    (conv => whnf)
    refine back_of ⟨(k + 1, ep, t + s.tk, pre ++ [t]), by simp only; omega, by simp [hpre], by simp only [Sgn.tk]; omega, by simpa using hs⟩ ⟨by (first | exact rfl | (simp (disch := omega) only [wrapI]; exact rfl)), ?_, by simp only; omega⟩
    simp (disch := omega) only [wrapI]
    refine Eq.trans (b := ⟨[.hole, .vec ep (List.take (k + 1) (List.drop 0 (ints (pre ++ [t]))) ++ [[.int .i64 (t + ticks s.v s.d s.t)]]), .hole, .hole], []⟩) rfl ?_
    rw [t3, ints_app (pre ++ [t])]
    rfl
  · simp only [decide_eq_false_iff_not] at h1
    have q : k = ss.length := by omega
    rw [List.drop_eq_nil_of_le (by omega)] at hs
    simp only [tmsT, List.append_nil] at hs
    (repeat' (first | exact rfl | ((conv => whnf); first | exact rfl | refine ⟨by kernel_rfl, ?_⟩ | exact ⟨rfl, rfl⟩ | refine ⟨rfl, ?_⟩ | refine ⟨by (first | omega | (simp (disch := omega) only [wrapI]; omega) | (simp (disch := omega) only [wrapI]; simp; omega) | (simp; omega)), ?_⟩ | (intro ep) | (refine ifB (fun hb => ?_) (fun hb => ?_) <;> (try simp only [decide_eq_true_eq, decide_eq_false_iff_not, beq_iff_eq, beq_eq_false_iff_ne, bne_iff_ne, bne_eq_false_iff_eq, ne_eq, not_false_eq_true, not_true_eq_false, Bool.not_eq_true, Bool.not_eq_true', Bool.not_eq_false', Int.not_lt, Int.not_le] at hb) <;> (try simp (disch := omega) only [wrapI] at hb) <;> (try (exfalso; omega))) | fail)))
    rw [hs, q]
    exact ⟨pure_ints _, rfl, rfl⟩

theorem right_tk {v : Int} {d t : Bool} (h : right v d t = true) : (v = 0 ↔ ¬ 0 < ticks v d t) := by
  unfold right at h
  by_cases h0 : v = 0
  · subst h0
    unfold ticks
    simp
  · rw [if_neg h0] at h
    simp only [Bool.and_eq_true, decide_eq_true_eq, Bool.not_eq_true'] at h
    obtain ⟨⟨h1, h2⟩, h3⟩ := h
    rcases seven (v := v) (by omega) (by omega) with rfl | rfl | rfl | rfl | rfl | rfl | rfl <;> cases d <;> cases t <;> simp_all [ticks]
theorem chkEv_right {p : Pc} {k : Nat} {e : Evt} (h : chkEv p k e = 0) : right e.v e.d e.t = true := by
  unfold chkEv at h
  split at h
  · cases h
  · rename_i hn
    cases hr : right e.v e.d e.t
    · exact absurd (.inl hr) hn
    · rfl
theorem chkEvs_right {p : Pc} : ∀ {l : List Evt} {k : Nat}, chkEvs p k l = 0 → ∀ e ∈ l, right e.v e.d e.t = true
  | [], _, _, _, h => by cases h
  | a :: r, k, h, e, he => by
    unfold chkEvs at h
    split at h
    · rename_i h0
      rcases List.mem_cons.1 he with rfl | he
      · exact chkEv_right h0
      · exact chkEvs_right h e he
    · rename_i h0; exact absurd h h0
theorem chk_right {p : Pc} (h : chk p = 0) : ∀ e ∈ p.evs, right e.v e.d e.t = true := by
  unfold chk at h
  split at h
  · split at h
    · cases h
    · exact chkEvs_right h
  · rename_i h0; exact absurd h h0
theorem tms_ons : ∀ (l : List Evt) (s : Sgn) (f t : Int), (∀ e ∈ l, right e.v e.d e.t = true) → s.tk = f → tmsT t (fcs s l) = onsT f t l
  | [], _, _, _, _, _ => rfl
  | e :: r, s, f, t, h, hf => by
    have hr := right_tk (h e (List.mem_cons_self ..))
    have hn : (nextS s e).tk = frc f e := by
      unfold nextS frc
      by_cases h0 : e.v = 0
      · rw [if_pos h0, if_neg (hr.1 h0), hf]
      · rw [if_neg h0, if_pos (by
          rcases Int.lt_or_le 0 (ticks e.v e.d e.t) with h1 | h1
          · exact h1
          · exact absurd (hr.2 (by omega)) h0)]
        rfl
    simp only [fcs, tmsT, onsT, hn]
    rw [tms_ons r (nextS s e) (frc f e) (t + frc f e) (fun e he => h e (List.mem_cons_of_mem _ he)) hn]
theorem times_onsets {p : Pc} (h : chk p = 0) : times p = onsets p := by
  unfold times onsets
  rw [tms_ons p.evs ⟨0, false, false⟩ 0 0 (chk_right h) rfl]
theorem onsT_len : ∀ (l : List Evt) (f t : Int), (onsT f t l).length = l.length
  | [], _, _ => rfl
  | e :: r, f, t => by simp [onsT, onsT_len r]
theorem ons_len (p : Pc) : (onsets p).length = p.evs.length + 1 := by simp [onsets, onsT_len]

end Go.Ab.V

/-
  Equality of lists, of instruments and of pieces, on both sides. No condition.
-/
namespace Go.Ab.V
open Go.Proofs

/-- two lists, element by element -/
def eqBy {α : Type} (f : α → α → Bool) : List α → List α → Bool
  | [], [] => true
  | a :: l, b :: m => f a b && eqBy f l m
  | _, _ => false
theorem eqBy_len {α : Type} {f : α → α → Bool} : ∀ {l m : List α}, l.length ≠ m.length → eqBy f l m = false
  | [], [], h => absurd rfl h
  | [], _ :: _, _ => rfl
  | _ :: _, [], _ => rfl
  | a :: l, b :: m, h => by
    have := eqBy_len (f := f) (l := l) (m := m) (by simp only [List.length_cons] at h; omega)
    simp [eqBy, this]
theorem eqBy_drop {α : Type} {f : α → α → Bool} {l m : List α} {k : Nat} (h1 : k < l.length) (h2 : k < m.length) :
    eqBy f (l.drop k) (m.drop k) = (f l[k] m[k] && eqBy f (l.drop (k + 1)) (m.drop (k + 1))) := by
  rw [List.drop_eq_getElem_cons h1, List.drop_eq_getElem_cons h2]
  rfl
theorem eqBy_end {α : Type} {f : α → α → Bool} {l m : List α} {k : Nat} (h : l.length = m.length) (hk : l.length ≤ k) {R : Bool} (e : R = eqBy f (l.drop k) (m.drop k)) : R = true := by
  rw [e, List.drop_eq_nil_of_le hk, List.drop_eq_nil_of_le (h ▸ hk)]
  rfl
theorem eqBy_step {α : Type} {f : α → α → Bool} {l m : List α} {k : Nat} (h1 : k < l.length) (h2 : k < m.length) (hf : f l[k] m[k] = true) {R : Bool} (e : R = eqBy f (l.drop k) (m.drop k)) : R = eqBy f (l.drop (k + 1)) (m.drop (k + 1)) := by
  rw [e, eqBy_drop h1 h2, hf, Bool.true_and]
theorem eqBy_not {α : Type} {f : α → α → Bool} {l m : List α} {k : Nat} (h1 : k < l.length) (h2 : k < m.length) (hf : f l[k] m[k] = false) {R : Bool} (e : R = eqBy f (l.drop k) (m.drop k)) : R = false := by
  rw [e, eqBy_drop h1 h2, hf, Bool.false_and]
theorem eqBy_decide {α : Type} [DecidableEq α] : ∀ (l m : List α), eqBy (fun a b => decide (a = b)) l m = decide (l = m)
  | [], [] => by simp [eqBy]
  | [], _ :: _ => by simp [eqBy]
  | _ :: _, [] => by simp [eqBy]
  | a :: l, b :: m => by
    rw [eqBy, eqBy_decide l m]
    by_cases h : a = b <;> by_cases h2 : l = m <;> simp [h, h2]

/-- a state of such a loop: R is what comes out -/
abbrev EqS {α : Type} (f : α → α → Bool) (l m : List α) (R : Bool) : Type := { k : Nat // k ≤ l.length ∧ R = eqBy f (l.drop k) (m.drop k) }

theorem crs_dec (s t : Crs) : (decide (s.pitch = t.pitch) && (decide (s.frets = t.frets) && ((s.oct == t.oct) && true))) = decide (s = t) := by
  cases s; cases t; simp; rename_i a b c d e f; cases c <;> cases f <;> rfl
theorem bT {x : Bool} (h : (!x) = true) : x = false := by cases x <;> first | rfl | cases h
theorem bF {x : Bool} (h : (!x) = false) : x = true := by cases x <;> first | rfl | cases h

end Go.Ab.V

/-
  Equality of pieces, on both sides: the functions that compare. No condition but the machine's bounds on lengths.
-/
namespace Go.Ab.V
open Go.Proofs

def A88 : Ann := fun r => match r with
  | 0 => { slots := [(0, 0), (1, 1)] }
  | _ => {}
def A62 : Ann := fun r => match r with
  | 0 => { slots := [(0, 0), (1, 1)] }
  | _ => {}
set_option maxHeartbeats 1000000 in
set_option maxRecDepth 100000 in
theorem sameIn62_spec (a b : Ins) (ha : a.cs.length ≤ 100000) (ha2 : a.steps.length ≤ 100000) : PRet C.P 62 [inA a, inA b] (.bool (decide (a = b))) := by
  obtain ⟨R, hR⟩ : ∃ R, R = decide (a = b) := ⟨_, rfl⟩
  obtain ⟨R1, hR1⟩ : ∃ R, R = eqBy (fun a b => decide (a = b)) a.cs b.cs := ⟨_, rfl⟩
  obtain ⟨R2, hR2⟩ : ∃ R, R = eqBy (fun a b => decide (a = b)) a.steps b.steps := ⟨_, rfl⟩
  rw [← hR]
  have hRR : R = (R1 && R2) := by rw [hR, hR1, hR2, eqBy_decide, eqBy_decide]; cases a; cases b; simp
  refine pret_of ok mixed (A := A62) 2 Try.func62 rfl ?_
  (conv => whnf)
  intro e0
  (conv => whnf)
  intro e1
  (repeat' (first | exact rfl | ((conv => whnf); first | exact rfl | refine ⟨by kernel_rfl, ?_⟩ | exact ⟨rfl, rfl⟩ | refine ⟨rfl, ?_⟩ | refine ⟨by (first | omega | (simp (disch := omega) only [wrapI]; omega) | (simp (disch := omega) only [wrapI]; simp; omega) | (simp; omega)), ?_⟩ | (intro ep) | refine ifB (fun hb => ?_) (fun hb => ?_) | fail)))
  · refine congrArg AV.bool ?_
    rw [hRR, hR1, eqBy_len (by intro e; simp [e] at hb)]; rfl
  · refine congrArg AV.bool ?_
    rw [hRR, hR2, eqBy_len (l := a.steps) (by intro e; simp [e] at hb), Bool.and_false]
  rename_i hb1
  have hlenR1 : a.cs.length = b.cs.length := by simp at hb1; omega
  have hlenR2 : a.steps.length = b.steps.length := by simp at hb; omega
  (repeat' (first | exact rfl | ((conv => whnf); first | exact rfl | refine ⟨by kernel_rfl, ?_⟩ | exact ⟨rfl, rfl⟩ | refine ⟨rfl, ?_⟩ | refine ⟨by (first | omega | (simp (disch := omega) only [wrapI]; omega) | (simp (disch := omega) only [wrapI]; simp; omega) | (simp; omega)), ?_⟩ | (intro ep) | fail)))
  (conv => whnf)
  refine loopM ok mixed (A := A62) [2, 3, 5] [0, 1] (S := EqS (fun a b => decide (a = b)) (a.cs) (b.cs) R1)
    (fr := fun s => frOf 0 59 [(2, .optr (.s 0) e0 2 0 0), (3, .optr (.s 1) e1 2 0 0), (5, .int .i64 (s.1 : Int))])
    (h := fun s => ⟨[.vec e0 [[crsA a.cs, intsA a.steps]], .vec e1 [[crsA b.cs, intsA b.steps]]], []⟩) (μ := fun s => (a.cs).length - s.1) ⟨0, by omega, hR1⟩ rfl rfl ?_
  rintro ⟨k, hk, he⟩
  show aexR _ _ _ (frOf 0 59 [(2, .optr (.s 0) e0 2 0 0), (3, .optr (.s 1) e1 2 0 0), (5, .int .i64 (k : Int))]) ⟨[.vec e0 [[crsA a.cs, intsA a.steps]], .vec e1 [[crsA b.cs, intsA b.steps]]], []⟩ _
  (repeat' (first | exact rfl | ((conv => whnf); first | exact rfl | refine ⟨by kernel_rfl, ?_⟩ | exact ⟨rfl, rfl⟩ | refine ⟨rfl, ?_⟩ | refine ⟨by (first | omega | (simp (disch := omega) only [wrapI]; omega) | (simp (disch := omega) only [wrapI]; simp; omega) | (simp; omega)), ?_⟩ | (intro ep) | fail)))
  (conv => whnf)
  refine ifB (fun h1 => ?_) (fun h1 => ?_)
  · simp only [decide_eq_true_eq] at h1
    have h2 : k < (a.cs).length := by omega
    have h3 : k < (b.cs).length := by omega
    
    (repeat' (first | exact rfl | ((conv => whnf); first | exact rfl | refine ⟨by kernel_rfl, ?_⟩ | exact ⟨rfl, rfl⟩ | refine ⟨rfl, ?_⟩ | refine ⟨by (first | omega | (simp (disch := omega) only [wrapI]; omega) | (simp (disch := omega) only [wrapI]; simp; omega) | (simp; omega)), ?_⟩ | (intro ep) | refine optS (mapR h2) ?_ | refine optS (mapR h3) ?_ | fail)))
    (conv => whnf)
    refine ifB (fun g => ?_) (fun g => ?_)
    · obtain e := eqBy_not h2 h3 ((crs_dec _ _).symm.trans (bT g)) he
      rw [e, Bool.false_and] at hRR
      subst hRR
      (repeat' (first | exact rfl | ((conv => whnf); first | exact rfl | refine ⟨by kernel_rfl, ?_⟩ | exact ⟨rfl, rfl⟩ | refine ⟨rfl, ?_⟩ | refine ⟨by (first | omega | (simp (disch := omega) only [wrapI]; omega) | (simp (disch := omega) only [wrapI]; simp; omega) | (simp; omega)), ?_⟩ | (intro ep) | fail)))
    · (repeat' (first | exact rfl | ((conv => whnf); first | exact rfl | refine ⟨by kernel_rfl, ?_⟩ | exact ⟨rfl, rfl⟩ | refine ⟨rfl, ?_⟩ | refine ⟨by (first | omega | (simp (disch := omega) only [wrapI]; omega) | (simp (disch := omega) only [wrapI]; simp; omega) | (simp; omega)), ?_⟩ | (intro ep) | fail)))
      (conv => whnf)
      refine back_of ⟨k + 1, by omega, eqBy_step h2 h3 ((crs_dec _ _).symm.trans (bF g)) he⟩ ⟨by (first | exact rfl | (simp (disch := omega) only [wrapI]; exact rfl)), rfl, by simp only; omega⟩
  simp only [decide_eq_false_iff_not] at h1
  have e := eqBy_end (f := (fun a b => decide (a = b))) hlenR1 (by omega) he
  rw [e, Bool.true_and] at hRR
  (repeat' (first | exact rfl | ((conv => whnf); first | exact rfl | refine ⟨by kernel_rfl, ?_⟩ | exact ⟨rfl, rfl⟩ | refine ⟨rfl, ?_⟩ | refine ⟨by (first | omega | (simp (disch := omega) only [wrapI]; omega) | (simp (disch := omega) only [wrapI]; simp; omega) | (simp; omega)), ?_⟩ | (intro ep) | fail)))
  (conv => whnf)
  refine loopM ok mixed (A := A62) [2, 3, 6] [0, 1] (S := EqS (fun a b => decide (a = b)) (a.steps) (b.steps) R2)
    (fr := fun s => frOf 0 59 [(2, .optr (.s 0) e0 2 0 0), (3, .optr (.s 1) e1 2 0 0), (6, .int .i64 (s.1 : Int))])
    (h := fun s => ⟨[.vec e0 [[crsA a.cs, intsA a.steps]], .vec e1 [[crsA b.cs, intsA b.steps]]], []⟩) (μ := fun s => (a.steps).length - s.1) ⟨0, by omega, hR2⟩ rfl rfl ?_
  rintro ⟨k, hk, he⟩
  show aexR _ _ _ (frOf 0 59 [(2, .optr (.s 0) e0 2 0 0), (3, .optr (.s 1) e1 2 0 0), (6, .int .i64 (k : Int))]) ⟨[.vec e0 [[crsA a.cs, intsA a.steps]], .vec e1 [[crsA b.cs, intsA b.steps]]], []⟩ _
  (repeat' (first | exact rfl | ((conv => whnf); first | exact rfl | refine ⟨by kernel_rfl, ?_⟩ | exact ⟨rfl, rfl⟩ | refine ⟨rfl, ?_⟩ | refine ⟨by (first | omega | (simp (disch := omega) only [wrapI]; omega) | (simp (disch := omega) only [wrapI]; simp; omega) | (simp; omega)), ?_⟩ | (intro ep) | fail)))
  (conv => whnf)
  refine ifB (fun h1 => ?_) (fun h1 => ?_)
  · simp only [decide_eq_true_eq] at h1
    have h2 : k < (a.steps).length := by omega
    have h3 : k < (b.steps).length := by omega
    
    (repeat' (first | exact rfl | ((conv => whnf); first | exact rfl | refine ⟨by kernel_rfl, ?_⟩ | exact ⟨rfl, rfl⟩ | refine ⟨rfl, ?_⟩ | refine ⟨by (first | omega | (simp (disch := omega) only [wrapI]; omega) | (simp (disch := omega) only [wrapI]; simp; omega) | (simp; omega)), ?_⟩ | (intro ep) | refine optS (intsR h2) ?_ | refine optS (intsR h3) ?_ | fail)))
    (conv => whnf)
    refine ifB (fun g => ?_) (fun g => ?_)
    · obtain e := eqBy_not h2 h3 (by simpa using g) he
      rw [e] at hRR
      subst hRR
      (repeat' (first | exact rfl | ((conv => whnf); first | exact rfl | refine ⟨by kernel_rfl, ?_⟩ | exact ⟨rfl, rfl⟩ | refine ⟨rfl, ?_⟩ | refine ⟨by (first | omega | (simp (disch := omega) only [wrapI]; omega) | (simp (disch := omega) only [wrapI]; simp; omega) | (simp; omega)), ?_⟩ | (intro ep) | fail)))
    · (repeat' (first | exact rfl | ((conv => whnf); first | exact rfl | refine ⟨by kernel_rfl, ?_⟩ | exact ⟨rfl, rfl⟩ | refine ⟨rfl, ?_⟩ | refine ⟨by (first | omega | (simp (disch := omega) only [wrapI]; omega) | (simp (disch := omega) only [wrapI]; simp; omega) | (simp; omega)), ?_⟩ | (intro ep) | fail)))
      (conv => whnf)
      refine back_of ⟨k + 1, by omega, eqBy_step h2 h3 (by simpa using g) he⟩ ⟨by (first | exact rfl | (simp (disch := omega) only [wrapI]; exact rfl)), rfl, by simp only; omega⟩
  simp only [decide_eq_false_iff_not] at h1
  have e := eqBy_end (f := (fun a b => decide (a = b))) hlenR2 (by omega) he
  rw [e] at hRR
  subst hRR
  (repeat' (first | exact rfl | ((conv => whnf); first | exact rfl | refine ⟨by kernel_rfl, ?_⟩ | exact ⟨rfl, rfl⟩ | refine ⟨rfl, ?_⟩ | refine ⟨by (first | omega | (simp (disch := omega) only [wrapI]; omega) | (simp (disch := omega) only [wrapI]; simp; omega) | (simp; omega)), ?_⟩ | (intro ep) | fail)))
end Go.Ab.V

/-
  Equality of pieces, on both sides: the functions that compare. No condition but the machine's bounds on lengths.
-/
namespace Go.Ab.V
open Go.Proofs

structure Pc.Sm2 (p : Pc) : Prop where
  cs : p.ins.cs.length ≤ 100000
  st : p.ins.steps.length ≤ 100000
  ev : p.evs.length ≤ 100000
  sp : ∀ e ∈ p.evs, e.stops.length ≤ 100000
theorem Pc.Sm.two {p : Pc} (h : p.Sm) : p.Sm2 := ⟨by have := h.cs; omega, by have := h.st; omega, by have := h.ev; omega, fun e he => by have := h.sp e he; omega⟩
end Go.Ab.V

/-
  Equality of pieces, on both sides: the functions that compare. No condition but the machine's bounds on lengths.
-/
namespace Go.Ab.V
open Go.Proofs

end Go.Ab.V
