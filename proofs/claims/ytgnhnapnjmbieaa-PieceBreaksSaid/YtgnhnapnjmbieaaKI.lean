/-
  What is proved here serves the law's text: each part says its own claim and its conditions. No condition is left open.
-/
import Derived.Test.YtgnhnapnjmbieaaKH
set_option linter.unusedSimpArgs false
set_option linter.unusedVariables false

/-
  The document's Onsets: the signs in force, the times; they are the program's. The pieces are of the sizes that a statement looks at.
-/
namespace Go.Ab.V
open Go.Proofs

structure Sgn where
  v : Int
  d : Bool
  t : Bool
def sgnR (s : Sgn) : List AV := [.int .i64 s.v, .bool s.d, .bool s.t]
def Sgn.tk (s : Sgn) : Int := ticks s.v s.d s.t
def nextS (s : Sgn) (e : Evt) : Sgn := if e.v = 0 then s else ⟨e.v, e.d, e.t⟩
def fcs (s : Sgn) : List Evt → List Sgn
  | [] => []
  | e :: r => nextS s e :: fcs (nextS s e) r
theorem fcs_len : ∀ (l : List Evt) (s : Sgn), (fcs s l).length = l.length
  | [], _ => rfl
  | e :: r, s => by simp [fcs, fcs_len r]

def A96 : Ann := fun r => match r with
  | 0 => { slots := [(0, 0)] }
  | 2 => { slots := [(1, 1)] }
  | 8 => { slots := [(2, 2), (3, 3)] }
  | _ => {}
/-- what Forces hands back -/
def fcsV (p : Pc) : AV := .lslc 3 ((fcs ⟨0, false, false⟩ p.evs).map sgnR) 0 p.evs.length false

set_option maxHeartbeats 2000000 in
set_option maxRecDepth 100000 in
theorem forces_spec (p : Pc) (hp : p.Sm) : PRet C.P 96 [pcA p] (fcsV p) := by
  have hle := hp.ev
  refine pret_of ok mixed (A := A96) 4 Try.func96 rfl ?_
  (conv => whnf)
  intro e0
  (repeat' (first | exact rfl | ((conv => whnf); first | exact rfl | refine ⟨by kernel_rfl, ?_⟩ | exact ⟨rfl, rfl⟩ | refine ⟨rfl, ?_⟩ | refine ⟨by (first | omega | (simp (disch := omega) only [wrapI]; omega) | (simp (disch := omega) only [wrapI]; simp; omega) | (simp; omega)), ?_⟩ | (intro ep) | (refine ifB (fun hb => ?_) (fun hb => ?_) <;> (try simp only [decide_eq_true_eq, decide_eq_false_iff_not, beq_iff_eq, beq_eq_false_iff_ne, bne_iff_ne, bne_eq_false_iff_eq, ne_eq, not_false_eq_true, not_true_eq_false, Bool.not_eq_true, Bool.not_eq_true', Bool.not_eq_false', Int.not_lt, Int.not_le] at hb) <;> (try simp (disch := omega) only [wrapI] at hb) <;> (try (exfalso; omega))) | fail)))
  obtain ⟨e1, he⟩ : ∃ e, e = ep := ⟨_, rfl⟩
  subst he
  (conv => whnf)
  refine wk_lift 3 3 3 rfl ?_
  intro eA
  refine loopM ok mixed (A := A96) [1, 3, 4, 5] [0, 1, 3] (S := { x : Nat × Nat × Sgn × List Sgn // x.1 ≤ p.evs.length ∧ x.2.2.2.length = x.1 ∧ x.2.2.2 ++ fcs x.2.2.1 (p.evs.drop x.1) = fcs ⟨0, false, false⟩ p.evs })
    (fr := fun s => frOf 0 33 [(1, .optr (.s 0) e0 3 0 0), (3, .oslc (.s 3) s.1.2.1 3 0 s.1.1 false), (4, .optr (.s 1) e1 3 0 0), (5, .int .i64 (s.1.1 : Int))])
    (h := fun s => ⟨[.vec e0 [[crsA p.ins.cs, intsA p.ins.steps, evsA p.evs]], .vec e1 [sgnR s.1.2.2.1], .hole, .vec s.1.2.1 (s.1.2.2.2.map sgnR)], []⟩) (μ := fun s => p.evs.length - s.1.1) ⟨(0, eA, ⟨0, false, false⟩, []), by simp⟩ ?_ ?_ ?_
  · exact rfl
  · exact rfl
  rintro ⟨⟨k, eB, s, pre⟩, hk, hpre, hs⟩
  simp only at hk hpre hs
  show aexR _ _ _ (frOf 0 33 [(1, .optr (.s 0) e0 3 0 0), (3, .oslc (.s 3) eB 3 0 k false), (4, .optr (.s 1) e1 3 0 0), (5, .int .i64 (k : Int))])
    ⟨[.vec e0 [[crsA p.ins.cs, intsA p.ins.steps, evsA p.evs]], .vec e1 [sgnR s], .hole, .vec eB (pre.map sgnR)], []⟩ _
  (conv => whnf)
  refine ⟨rfl, ?_⟩
  (conv => whnf)
  refine ifB (fun h1 => ?_) (fun h1 => ?_)
  · simp only [decide_eq_true_eq] at h1
    have hlt : k < p.evs.length := by omega
    obtain ⟨e, hev⟩ : ∃ e, p.evs[k] = e := ⟨_, rfl⟩
    have hm : (p.evs.map evR)[0 + ((k : Nat) : Int).toNat]? = some (evR e) := by rw [mapR hlt, hev]
    rw [drop_at hlt, hev] at hs
    simp only [fcs] at hs
    have t3 : List.take k (List.drop 0 (pre.map sgnR)) = pre.map sgnR := by rw [List.drop_zero, List.take_of_length_le (by simp; omega)]
    (repeat' (first | exact rfl | ((conv => whnf); first | exact rfl | refine ⟨by kernel_rfl, ?_⟩ | exact ⟨rfl, rfl⟩ | refine ⟨rfl, ?_⟩ | refine ⟨by (first | omega | (simp (disch := omega) only [wrapI]; omega) | (simp (disch := omega) only [wrapI]; simp; omega) | (simp; omega)), ?_⟩ | (intro ep) | refine optS hm ?_ | (refine ifB (fun hb => ?_) (fun hb => ?_) <;> (try simp only [decide_eq_true_eq, decide_eq_false_iff_not, beq_iff_eq, beq_eq_false_iff_ne, bne_iff_ne, bne_eq_false_iff_eq, ne_eq, not_false_eq_true, not_true_eq_false, Bool.not_eq_true, Bool.not_eq_true', Bool.not_eq_false', Int.not_lt, Int.not_le] at hb) <;> (try simp (disch := omega) only [wrapI] at hb) <;> (try (exfalso; omega))) | fail)))
    all_goals (conv => whnf)
    · have hn : nextS s e = ⟨e.v, e.d, e.t⟩ := by unfold nextS; rw [if_neg hb]
      rw [hn] at hs
      refine back_of ⟨(k + 1, ep, (⟨e.v, e.d, e.t⟩ : Sgn), pre ++ [(⟨e.v, e.d, e.t⟩ : Sgn)]), by simp only; omega, by simp [hpre], by simpa using hs⟩ ⟨by (first | exact rfl | (simp (disch := omega) only [wrapI]; exact rfl)), ?_, by simp only; omega⟩
      refine Eq.trans (b := ⟨[.vec e0 [[crsA p.ins.cs, intsA p.ins.steps, evsA p.evs]], .vec e1 [sgnR (⟨e.v, e.d, e.t⟩ : Sgn)], .hole, .vec ep (List.take k (List.drop 0 (pre.map sgnR)) ++ [sgnR (⟨e.v, e.d, e.t⟩ : Sgn)])], []⟩) rfl ?_
      rw [t3]
      simp
    · have hn : nextS s e = s := by unfold nextS; rw [if_pos hb]
      rw [hn] at hs
      refine back_of ⟨(k + 1, ep, s, pre ++ [s]), by simp only; omega, by simp [hpre], by simpa using hs⟩ ⟨by (first | exact rfl | (simp (disch := omega) only [wrapI]; exact rfl)), ?_, by simp only; omega⟩
      refine Eq.trans (b := ⟨[.vec e0 [[crsA p.ins.cs, intsA p.ins.steps, evsA p.evs]], .vec e1 [sgnR s], .hole, .vec ep (List.take k (List.drop 0 (pre.map sgnR)) ++ [sgnR s])], []⟩) rfl ?_
      rw [t3]
      simp
  · simp only [decide_eq_false_iff_not] at h1
    have q : k = p.evs.length := by omega
    rw [List.drop_eq_nil_of_le (by omega)] at hs
    simp only [fcs, List.append_nil] at hs
    (repeat' (first | exact rfl | ((conv => whnf); first | exact rfl | refine ⟨by kernel_rfl, ?_⟩ | exact ⟨rfl, rfl⟩ | refine ⟨rfl, ?_⟩ | refine ⟨by (first | omega | (simp (disch := omega) only [wrapI]; omega) | (simp (disch := omega) only [wrapI]; simp; omega) | (simp; omega)), ?_⟩ | (intro ep) | (refine ifB (fun hb => ?_) (fun hb => ?_) <;> (try simp only [decide_eq_true_eq, decide_eq_false_iff_not, beq_iff_eq, beq_eq_false_iff_ne, bne_iff_ne, bne_eq_false_iff_eq, ne_eq, not_false_eq_true, not_true_eq_false, Bool.not_eq_true, Bool.not_eq_true', Bool.not_eq_false', Int.not_lt, Int.not_le] at hb) <;> (try simp (disch := omega) only [wrapI] at hb) <;> (try (exfalso; omega))) | fail)))
    rw [hs, q]
    exact ⟨pure_map _ fun x => rfl, rfl, rfl⟩

def tmsT (t : Int) : List Sgn → List Int
  | [] => []
  | s :: r => (t + s.tk) :: tmsT (t + s.tk) r
def times (p : Pc) : List Int := 0 :: tmsT 0 (fcs ⟨0, false, false⟩ p.evs)

def A67 : Ann := fun r => match r with
  | 0 => { slots := [(0, 0)] }
  | 1 => { slots := [(0, 1)] }
  | 6 => { slots := [(11, 2), (12, 3)] }
  | _ => {}

set_option maxHeartbeats 2000000 in
set_option maxRecDepth 100000 in
theorem times_spec (p : Pc) (hp : p.Sm) : PRet C.P 67 [pcA p] (.lslc 1 (ints (times p)) 0 (p.evs.length + 1) false) := by
  have hle := hp.ev
  have hf := forces_spec p hp
  obtain ⟨ss, hss⟩ : ∃ ss, ss = fcs ⟨0, false, false⟩ p.evs := ⟨_, rfl⟩
  have hsl : ss.length = p.evs.length := by rw [hss]; exact fcs_len _ _
  unfold fcsV at hf
  unfold times
  rw [← hss] at hf ⊢
  rw [← hsl] at hf ⊢
  refine pret_of ok mixed (A := A67) 4 Try.func67 rfl ?_
  (repeat' (first | exact rfl | ((conv => whnf); first | exact rfl | refine ⟨by kernel_rfl, ?_⟩ | exact ⟨rfl, rfl⟩ | refine ⟨rfl, ?_⟩ | refine ⟨by (first | omega | (simp (disch := omega) only [wrapI]; omega) | (simp (disch := omega) only [wrapI]; simp; omega) | (simp; omega)), ?_⟩ | (intro ep) | refine ⟨_, hf, ?_⟩ | (refine ifB (fun hb => ?_) (fun hb => ?_) <;> (try simp only [decide_eq_true_eq, decide_eq_false_iff_not, beq_iff_eq, beq_eq_false_iff_ne, bne_iff_ne, bne_eq_false_iff_eq, ne_eq, not_false_eq_true, not_true_eq_false, Bool.not_eq_true, Bool.not_eq_true', Bool.not_eq_false', Int.not_lt, Int.not_le] at hb) <;> (try simp (disch := omega) only [wrapI] at hb) <;> (try (exfalso; omega))) | fail)))
  (conv => whnf)
  refine loopM ok mixed (A := A67) [3, 4, 5] [1] (S := { x : Nat × Nat × Int × List Int // x.1 ≤ ss.length ∧ x.2.2.2.length = x.1 ∧ (0 ≤ x.2.2.1 ∧ x.2.2.1 ≤ 576 * x.1) ∧ x.2.2.2 ++ [x.2.2.1] ++ tmsT x.2.2.1 (ss.drop x.1) = 0 :: tmsT 0 ss })
    (fr := fun s => frOf 0 29 [(3, .oslc (.s 1) s.1.2.1 1 0 (s.1.1 + 1) false), (4, .lslc 3 (ss.map sgnR) 0 ss.length false), (5, .int .i64 (s.1.1 : Int))])
    (h := fun s => ⟨[.hole, .vec s.1.2.1 (ints (s.1.2.2.2 ++ [s.1.2.2.1])), .hole, .hole], []⟩) (μ := fun s => ss.length - s.1.1) ⟨(0, ep, 0, []), by simp⟩ ?_ ?_ ?_
  · exact rfl
  · exact rfl
  rintro ⟨⟨k, eB, t, pre⟩, hk, hpre, ht, hs⟩
  simp only at hk hpre ht hs
  show aexR _ _ _ (frOf 0 29 [(3, .oslc (.s 1) eB 1 0 (k + 1) false), (4, .lslc 3 (ss.map sgnR) 0 ss.length false), (5, .int .i64 (k : Int))])
    ⟨[.hole, .vec eB (ints (pre ++ [t])), .hole, .hole], []⟩ _
  (conv => whnf)
  refine ifB (fun h1 => ?_) (fun h1 => ?_)
  · simp only [decide_eq_true_eq] at h1
    have hlt : k < ss.length := by omega
    obtain ⟨s, hev⟩ : ∃ s, ss[k] = s := ⟨_, rfl⟩
    have hm : (ss.map sgnR)[0 + ((k : Nat) : Int).toNat]? = some (sgnR s) := by rw [mapR hlt, hev]
    have hrd : (ints (pre ++ [t]))[0 + ((k : Nat) : Int).toNat]? = some [.int .i64 t] := by
      rw [intsR (by simp [hpre])]
      simp [← hpre]
    rw [drop_at hlt, hev] at hs
    simp only [tmsT] at hs
    have tb := ticks_bd s.v s.d s.t
    have t3 : List.take (k + 1) (List.drop 0 (ints (pre ++ [t]))) = ints (pre ++ [t]) := by rw [List.drop_zero, List.take_of_length_le (by simp [ints, hpre])]
    (repeat' (first | exact rfl | ((conv => whnf); first | exact rfl | refine ⟨by kernel_rfl, ?_⟩ | exact ⟨rfl, rfl⟩ | refine ⟨rfl, ?_⟩ | refine ⟨by (first | omega | (simp (disch := omega) only [wrapI]; omega) | (simp (disch := omega) only [wrapI]; simp; omega) | (simp; omega)), ?_⟩ | (intro ep) | refine optS hm ?_ | refine optS hrd ?_ | refine ⟨_, refTicks_spec s.v s.d s.t, ?_⟩ | (refine ifB (fun hb => ?_) (fun hb => ?_) <;> (try simp only [decide_eq_true_eq, decide_eq_false_iff_not, beq_iff_eq, beq_eq_false_iff_ne, bne_iff_ne, bne_eq_false_iff_eq, ne_eq, not_false_eq_true, not_true_eq_false, Bool.not_eq_true, Bool.not_eq_true', Bool.not_eq_false', Int.not_lt, Int.not_le] at hb) <;> (try simp (disch := omega) only [wrapI] at hb) <;> (try (exfalso; omega))) | fail)))
    (conv => whnf)
    refine back_of ⟨(k + 1, ep, t + s.tk, pre ++ [t]), by simp only; omega, by simp [hpre], by simp only [Sgn.tk]; omega, by simpa using hs⟩ ⟨by (first | exact rfl | (simp (disch := omega) only [wrapI]; exact rfl)), ?_, by simp only; omega⟩
    simp (disch := omega) only [wrapI]
    refine Eq.trans (b := ⟨[.hole, .vec ep (List.take (k + 1) (List.drop 0 (ints (pre ++ [t]))) ++ [[.int .i64 (t + ticks s.v s.d s.t)]]), .hole, .hole], []⟩) rfl ?_
    rw [t3, ints_app (pre ++ [t])]
    rfl
  · simp only [decide_eq_false_iff_not] at h1
    have q : k = ss.length := by omega
    rw [List.drop_eq_nil_of_le (by omega)] at hs
    simp only [tmsT, List.append_nil] at hs
    (repeat' (first | exact rfl | ((conv => whnf); first | exact rfl | refine ⟨by kernel_rfl, ?_⟩ | exact ⟨rfl, rfl⟩ | refine ⟨rfl, ?_⟩ | refine ⟨by (first | omega | (simp (disch := omega) only [wrapI]; omega) | (simp (disch := omega) only [wrapI]; simp; omega) | (simp; omega)), ?_⟩ | (intro ep) | (refine ifB (fun hb => ?_) (fun hb => ?_) <;> (try simp only [decide_eq_true_eq, decide_eq_false_iff_not, beq_iff_eq, beq_eq_false_iff_ne, bne_iff_ne, bne_eq_false_iff_eq, ne_eq, not_false_eq_true, not_true_eq_false, Bool.not_eq_true, Bool.not_eq_true', Bool.not_eq_false', Int.not_lt, Int.not_le] at hb) <;> (try simp (disch := omega) only [wrapI] at hb) <;> (try (exfalso; omega))) | fail)))
    rw [hs, q]
    exact ⟨pure_ints _, rfl, rfl⟩

theorem right_tk {v : Int} {d t : Bool} (h : right v d t = true) : (v = 0 ↔ ¬ 0 < ticks v d t) := by
  unfold right at h
  by_cases h0 : v = 0
  · subst h0
    unfold ticks
    simp
  · rw [if_neg h0] at h
    simp only [Bool.and_eq_true, decide_eq_true_eq, Bool.not_eq_true'] at h
    obtain ⟨⟨h1, h2⟩, h3⟩ := h
    rcases seven (v := v) (by omega) (by omega) with rfl | rfl | rfl | rfl | rfl | rfl | rfl <;> cases d <;> cases t <;> simp_all [ticks]
theorem chkEv_right {p : Pc} {k : Nat} {e : Evt} (h : chkEv p k e = 0) : right e.v e.d e.t = true := by
  unfold chkEv at h
  split at h
  · cases h
  · rename_i hn
    cases hr : right e.v e.d e.t
    · exact absurd (.inl hr) hn
    · rfl
theorem chkEvs_right {p : Pc} : ∀ {l : List Evt} {k : Nat}, chkEvs p k l = 0 → ∀ e ∈ l, right e.v e.d e.t = true
  | [], _, _, _, h => by cases h
  | a :: r, k, h, e, he => by
    unfold chkEvs at h
    split at h
    · rename_i h0
      rcases List.mem_cons.1 he with rfl | he
      · exact chkEv_right h0
      · exact chkEvs_right h e he
    · rename_i h0; exact absurd h h0
theorem chk_right {p : Pc} (h : chk p = 0) : ∀ e ∈ p.evs, right e.v e.d e.t = true := by
  unfold chk at h
  split at h
  · split at h
    · cases h
    · exact chkEvs_right h
  · rename_i h0; exact absurd h h0
theorem tms_ons : ∀ (l : List Evt) (s : Sgn) (f t : Int), (∀ e ∈ l, right e.v e.d e.t = true) → s.tk = f → tmsT t (fcs s l) = onsT f t l
  | [], _, _, _, _, _ => rfl
  | e :: r, s, f, t, h, hf => by
    have hr := right_tk (h e (List.mem_cons_self ..))
    have hn : (nextS s e).tk = frc f e := by
      unfold nextS frc
      by_cases h0 : e.v = 0
      · rw [if_pos h0, if_neg (hr.1 h0), hf]
      · rw [if_neg h0, if_pos (by
          rcases Int.lt_or_le 0 (ticks e.v e.d e.t) with h1 | h1
          · exact h1
          · exact absurd (hr.2 (by omega)) h0)]
        rfl
    simp only [fcs, tmsT, onsT, hn]
    rw [tms_ons r (nextS s e) (frc f e) (t + frc f e) (fun e he => h e (List.mem_cons_of_mem _ he)) hn]
theorem times_onsets {p : Pc} (h : chk p = 0) : times p = onsets p := by
  unfold times onsets
  rw [tms_ons p.evs ⟨0, false, false⟩ 0 0 (chk_right h) rfl]
theorem onsT_len : ∀ (l : List Evt) (f t : Int), (onsT f t l).length = l.length
  | [], _, _ => rfl
  | e :: r, f, t => by simp [onsT, onsT_len r]
theorem ons_len (p : Pc) : (onsets p).length = p.evs.length + 1 := by simp [onsets, onsT_len]

def A37 : Ann := fun r => match r with
  | 0 => { slots := [(0, 0)] }
  | _ => {}
set_option maxHeartbeats 1000000 in
set_option maxRecDepth 100000 in
theorem refOnsets_spec (p : Pc) (hp : p.Ok) (hs : p.Sm) : PRet C.P 37 [pcA p] (onsV p) := by
  have h1 := refCheck_spec p hp hs.ev
  have h2 := times_spec p hs
  unfold onsV
  refine pret_of ok mixed (A := A37) 1 Try.func37 rfl ?_
  (repeat' (first | exact rfl | ((conv => whnf); first | exact rfl | refine ⟨by kernel_rfl, ?_⟩ | exact ⟨rfl, rfl⟩ | refine ⟨rfl, ?_⟩ | refine ⟨by (first | omega | (simp (disch := omega) only [wrapI]; omega) | (simp (disch := omega) only [wrapI]; simp; omega) | (simp; omega)), ?_⟩ | (intro ep) | refine ⟨_, h1, ?_⟩ | refine ⟨_, h2, ?_⟩ | (refine ifB (fun hb => ?_) (fun hb => ?_) <;> (try simp only [decide_eq_true_eq, decide_eq_false_iff_not, beq_iff_eq, beq_eq_false_iff_ne, bne_iff_ne, bne_eq_false_iff_eq, ne_eq, not_false_eq_true, not_true_eq_false, Bool.not_eq_true, Bool.not_eq_true', Bool.not_eq_false', Int.not_lt, Int.not_le] at hb) <;> (try simp (disch := omega) only [wrapI] at hb) <;> (try (exfalso; omega))) | fail)))
  · rw [if_neg hb]
  · rw [if_pos hb, times_onsets hb]
    unfold intsA
    rw [ons_len]

end Go.Ab.V

/-
  Equality of lists, of instruments and of pieces, on both sides. No condition.
-/
namespace Go.Ab.V
open Go.Proofs

/-- two lists, element by element -/
def eqBy {α : Type} (f : α → α → Bool) : List α → List α → Bool
  | [], [] => true
  | a :: l, b :: m => f a b && eqBy f l m
  | _, _ => false
theorem eqBy_len {α : Type} {f : α → α → Bool} : ∀ {l m : List α}, l.length ≠ m.length → eqBy f l m = false
  | [], [], h => absurd rfl h
  | [], _ :: _, _ => rfl
  | _ :: _, [], _ => rfl
  | a :: l, b :: m, h => by
    have := eqBy_len (f := f) (l := l) (m := m) (by simp only [List.length_cons] at h; omega)
    simp [eqBy, this]
theorem eqBy_drop {α : Type} {f : α → α → Bool} {l m : List α} {k : Nat} (h1 : k < l.length) (h2 : k < m.length) :
    eqBy f (l.drop k) (m.drop k) = (f l[k] m[k] && eqBy f (l.drop (k + 1)) (m.drop (k + 1))) := by
  rw [List.drop_eq_getElem_cons h1, List.drop_eq_getElem_cons h2]
  rfl
theorem eqBy_end {α : Type} {f : α → α → Bool} {l m : List α} {k : Nat} (h : l.length = m.length) (hk : l.length ≤ k) {R : Bool} (e : R = eqBy f (l.drop k) (m.drop k)) : R = true := by
  rw [e, List.drop_eq_nil_of_le hk, List.drop_eq_nil_of_le (h ▸ hk)]
  rfl
theorem eqBy_step {α : Type} {f : α → α → Bool} {l m : List α} {k : Nat} (h1 : k < l.length) (h2 : k < m.length) (hf : f l[k] m[k] = true) {R : Bool} (e : R = eqBy f (l.drop k) (m.drop k)) : R = eqBy f (l.drop (k + 1)) (m.drop (k + 1)) := by
  rw [e, eqBy_drop h1 h2, hf, Bool.true_and]
theorem eqBy_not {α : Type} {f : α → α → Bool} {l m : List α} {k : Nat} (h1 : k < l.length) (h2 : k < m.length) (hf : f l[k] m[k] = false) {R : Bool} (e : R = eqBy f (l.drop k) (m.drop k)) : R = false := by
  rw [e, eqBy_drop h1 h2, hf, Bool.false_and]
theorem eqBy_decide {α : Type} [DecidableEq α] : ∀ (l m : List α), eqBy (fun a b => decide (a = b)) l m = decide (l = m)
  | [], [] => by simp [eqBy]
  | [], _ :: _ => by simp [eqBy]
  | _ :: _, [] => by simp [eqBy]
  | a :: l, b :: m => by
    rw [eqBy, eqBy_decide l m]
    by_cases h : a = b <;> by_cases h2 : l = m <;> simp [h, h2]

/-- a state of such a loop: R is what comes out -/
abbrev EqS {α : Type} (f : α → α → Bool) (l m : List α) (R : Bool) : Type := { k : Nat // k ≤ l.length ∧ R = eqBy f (l.drop k) (m.drop k) }

theorem stp_dec (s t : Stp) : (decide (s.c = t.c) && (decide (s.f = t.f) && (decide (s.r = t.r) && (decide (s.g = t.g) && (decide (s.h = t.h) && true))))) = decide (s = t) := by
  cases s; cases t; simp
theorem crs_dec (s t : Crs) : (decide (s.pitch = t.pitch) && (decide (s.frets = t.frets) && ((s.oct == t.oct) && true))) = decide (s = t) := by
  cases s; cases t; simp; rename_i a b c d e f; cases c <;> cases f <;> rfl
theorem bT {x : Bool} (h : (!x) = true) : x = false := by cases x <;> first | rfl | cases h
theorem bF {x : Bool} (h : (!x) = false) : x = true := by cases x <;> first | rfl | cases h

def A89 : Ann := fun _ => {}
set_option maxHeartbeats 1000000 in
set_option maxRecDepth 100000 in
theorem equalStops_spec (l m : List Stp) (hl : l.length ≤ 100000) {R : Bool} (hR : R = eqBy (fun a b => decide (a = b)) l m) : PRet C.P 89 [stsA l, stsA m] (.bool R) := by
  refine pret_of ok mixed (A := A89) 0 Try.func89 rfl ?_
  (repeat' (first | exact rfl | ((conv => whnf); first | exact rfl | refine ⟨by kernel_rfl, ?_⟩ | exact ⟨rfl, rfl⟩ | refine ⟨rfl, ?_⟩ | refine ⟨by (first | omega | (simp (disch := omega) only [wrapI]; omega) | (simp (disch := omega) only [wrapI]; simp; omega) | (simp; omega)), ?_⟩ | (intro ep) | fail)))
  (conv => whnf)
  refine ifB (fun g => ?_) (fun g => ?_)
  · obtain rfl : R = false := by rw [hR]; exact eqBy_len (by intro e; simp [e] at g)
    (repeat' (first | exact rfl | ((conv => whnf); first | exact rfl | refine ⟨by kernel_rfl, ?_⟩ | exact ⟨rfl, rfl⟩ | refine ⟨rfl, ?_⟩ | refine ⟨by (first | omega | (simp (disch := omega) only [wrapI]; omega) | (simp (disch := omega) only [wrapI]; simp; omega) | (simp; omega)), ?_⟩ | (intro ep) | fail)))
  have hlen : l.length = m.length := by simp at g; omega
  (repeat' (first | exact rfl | ((conv => whnf); first | exact rfl | refine ⟨by kernel_rfl, ?_⟩ | exact ⟨rfl, rfl⟩ | refine ⟨rfl, ?_⟩ | refine ⟨by (first | omega | (simp (disch := omega) only [wrapI]; omega) | (simp (disch := omega) only [wrapI]; simp; omega) | (simp; omega)), ?_⟩ | (intro ep) | fail)))
  (conv => whnf)
  refine loopM ok mixed (A := A89) [0, 1, 12, 13] [] (S := EqS (fun a b => decide (a = b)) l m R)
    (fr := fun s => frOf 0 26 [(0, stsA l), (1, stsA m), (12, .int .i64 l.length), (13, .int .i64 (s.1 : Int))])
    (h := fun s => ⟨[], []⟩) (μ := fun s => l.length - s.1) ⟨0, by omega, hR⟩ rfl rfl ?_
  rintro ⟨k, hk, he⟩
  show aexR _ _ _ (frOf 0 26 [(0, stsA l), (1, stsA m), (12, .int .i64 l.length), (13, .int .i64 (k : Int))]) ⟨[], []⟩ _
  (conv => whnf)
  refine ifB (fun h1 => ?_) (fun h1 => ?_)
  · simp only [decide_eq_true_eq] at h1
    have h2 : k < l.length := by omega
    have h3 : k < m.length := by omega
    (repeat' (first | exact rfl | ((conv => whnf); first | exact rfl | refine ⟨by kernel_rfl, ?_⟩ | exact ⟨rfl, rfl⟩ | refine ⟨rfl, ?_⟩ | refine ⟨by (first | omega | (simp (disch := omega) only [wrapI]; omega) | (simp (disch := omega) only [wrapI]; simp; omega) | (simp; omega)), ?_⟩ | (intro ep) | refine optS (mapR h2) ?_ | refine optS (mapR h3) ?_ | fail)))
    (conv => whnf)
    refine ifB (fun g => ?_) (fun g => ?_)
    · obtain rfl := eqBy_not h2 h3 ((stp_dec _ _).symm.trans (bT g)) he
      (repeat' (first | exact rfl | ((conv => whnf); first | exact rfl | refine ⟨by kernel_rfl, ?_⟩ | exact ⟨rfl, rfl⟩ | refine ⟨rfl, ?_⟩ | refine ⟨by (first | omega | (simp (disch := omega) only [wrapI]; omega) | (simp (disch := omega) only [wrapI]; simp; omega) | (simp; omega)), ?_⟩ | (intro ep) | fail)))
    · (repeat' (first | exact rfl | ((conv => whnf); first | exact rfl | refine ⟨by kernel_rfl, ?_⟩ | exact ⟨rfl, rfl⟩ | refine ⟨rfl, ?_⟩ | refine ⟨by (first | omega | (simp (disch := omega) only [wrapI]; omega) | (simp (disch := omega) only [wrapI]; simp; omega) | (simp; omega)), ?_⟩ | (intro ep) | fail)))
      (conv => whnf)
      refine back_of ⟨k + 1, by omega, eqBy_step h2 h3 ((stp_dec _ _).symm.trans (bF g)) he⟩ ⟨by (first | exact rfl | (simp (disch := omega) only [wrapI]; exact rfl)), rfl, by simp only; omega⟩
  · simp only [decide_eq_false_iff_not] at h1
    obtain rfl := eqBy_end hlen (by omega) he
    (repeat' (first | exact rfl | ((conv => whnf); first | exact rfl | refine ⟨by kernel_rfl, ?_⟩ | exact ⟨rfl, rfl⟩ | refine ⟨rfl, ?_⟩ | refine ⟨by (first | omega | (simp (disch := omega) only [wrapI]; omega) | (simp (disch := omega) only [wrapI]; simp; omega) | (simp; omega)), ?_⟩ | (intro ep) | fail)))

end Go.Ab.V

/-
  Equality of pieces, on both sides: the functions that compare. No condition but the machine's bounds on lengths.
-/
namespace Go.Ab.V
open Go.Proofs

def A90 : Ann := fun _ => {}
set_option maxHeartbeats 1000000 in
set_option maxRecDepth 100000 in
theorem equalInts_spec (l m : List Int) (hl : l.length ≤ 100000) {R : Bool} (hR : R = eqBy (fun a b => decide (a = b)) l m) : PRet C.P 90 [intsA l, intsA m] (.bool R) := by
  refine pret_of ok mixed (A := A90) 0 Try.func90 rfl ?_
  (repeat' (first | exact rfl | ((conv => whnf); first | exact rfl | refine ⟨by kernel_rfl, ?_⟩ | exact ⟨rfl, rfl⟩ | refine ⟨rfl, ?_⟩ | refine ⟨by (first | omega | (simp (disch := omega) only [wrapI]; omega) | (simp (disch := omega) only [wrapI]; simp; omega) | (simp; omega)), ?_⟩ | (intro ep) | fail)))
  (conv => whnf)
  refine ifB (fun g => ?_) (fun g => ?_)
  · obtain rfl : R = false := by rw [hR]; exact eqBy_len (by intro e; simp [e] at g)
    (repeat' (first | exact rfl | ((conv => whnf); first | exact rfl | refine ⟨by kernel_rfl, ?_⟩ | exact ⟨rfl, rfl⟩ | refine ⟨rfl, ?_⟩ | refine ⟨by (first | omega | (simp (disch := omega) only [wrapI]; omega) | (simp (disch := omega) only [wrapI]; simp; omega) | (simp; omega)), ?_⟩ | (intro ep) | fail)))
  have hlen : l.length = m.length := by simp at g; omega
  (repeat' (first | exact rfl | ((conv => whnf); first | exact rfl | refine ⟨by kernel_rfl, ?_⟩ | exact ⟨rfl, rfl⟩ | refine ⟨rfl, ?_⟩ | refine ⟨by (first | omega | (simp (disch := omega) only [wrapI]; omega) | (simp (disch := omega) only [wrapI]; simp; omega) | (simp; omega)), ?_⟩ | (intro ep) | fail)))
  (conv => whnf)
  refine loopM ok mixed (A := A90) [0, 1, 12, 13] [] (S := EqS (fun a b => decide (a = b)) l m R)
    (fr := fun s => frOf 0 26 [(0, intsA l), (1, intsA m), (12, .int .i64 l.length), (13, .int .i64 (s.1 : Int))])
    (h := fun s => ⟨[], []⟩) (μ := fun s => l.length - s.1) ⟨0, by omega, hR⟩ rfl rfl ?_
  rintro ⟨k, hk, he⟩
  show aexR _ _ _ (frOf 0 26 [(0, intsA l), (1, intsA m), (12, .int .i64 l.length), (13, .int .i64 (k : Int))]) ⟨[], []⟩ _
  (conv => whnf)
  refine ifB (fun h1 => ?_) (fun h1 => ?_)
  · simp only [decide_eq_true_eq] at h1
    have h2 : k < l.length := by omega
    have h3 : k < m.length := by omega
    (repeat' (first | exact rfl | ((conv => whnf); first | exact rfl | refine ⟨by kernel_rfl, ?_⟩ | exact ⟨rfl, rfl⟩ | refine ⟨rfl, ?_⟩ | refine ⟨by (first | omega | (simp (disch := omega) only [wrapI]; omega) | (simp (disch := omega) only [wrapI]; simp; omega) | (simp; omega)), ?_⟩ | (intro ep) | refine optS (mapR h2) ?_ | refine optS (mapR h3) ?_ | fail)))
    (conv => whnf)
    refine ifB (fun g => ?_) (fun g => ?_)
    · obtain rfl := eqBy_not h2 h3 (by simpa using g) he
      (repeat' (first | exact rfl | ((conv => whnf); first | exact rfl | refine ⟨by kernel_rfl, ?_⟩ | exact ⟨rfl, rfl⟩ | refine ⟨rfl, ?_⟩ | refine ⟨by (first | omega | (simp (disch := omega) only [wrapI]; omega) | (simp (disch := omega) only [wrapI]; simp; omega) | (simp; omega)), ?_⟩ | (intro ep) | fail)))
    · (repeat' (first | exact rfl | ((conv => whnf); first | exact rfl | refine ⟨by kernel_rfl, ?_⟩ | exact ⟨rfl, rfl⟩ | refine ⟨rfl, ?_⟩ | refine ⟨by (first | omega | (simp (disch := omega) only [wrapI]; omega) | (simp (disch := omega) only [wrapI]; simp; omega) | (simp; omega)), ?_⟩ | (intro ep) | fail)))
      (conv => whnf)
      refine back_of ⟨k + 1, by omega, eqBy_step h2 h3 (by simpa using g) he⟩ ⟨by (first | exact rfl | (simp (disch := omega) only [wrapI]; exact rfl)), rfl, by simp only; omega⟩
  · simp only [decide_eq_false_iff_not] at h1
    obtain rfl := eqBy_end hlen (by omega) he
    (repeat' (first | exact rfl | ((conv => whnf); first | exact rfl | refine ⟨by kernel_rfl, ?_⟩ | exact ⟨rfl, rfl⟩ | refine ⟨rfl, ?_⟩ | refine ⟨by (first | omega | (simp (disch := omega) only [wrapI]; omega) | (simp (disch := omega) only [wrapI]; simp; omega) | (simp; omega)), ?_⟩ | (intro ep) | fail)))

def A88 : Ann := fun r => match r with
  | 0 => { slots := [(0, 0), (1, 1)] }
  | _ => {}
theorem evt_dec (x y : Evt) : decide (x = y) = (x.bar == y.bar && (decide (x.v = y.v) && ((x.d == y.d) && ((x.t == y.t) && true))) && x.tie == y.tie && decide (x.stops = y.stops)) := by
  obtain ⟨a, b, c, d, e, f⟩ := x
  obtain ⟨a', b', c', d', e', f'⟩ := y
  cases a <;> cases a' <;> cases c <;> cases c' <;> cases d <;> cases d' <;> cases e <;> cases e' <;> simp
set_option maxHeartbeats 1000000 in
set_option maxRecDepth 100000 in
theorem sameEv_spec (x y : Evt) (hx : x.stops.length ≤ 100000) : PRet C.P 88 [.agg (evR x), .agg (evR y)] (.bool (decide (x = y))) := by
  obtain ⟨R, hR⟩ : ∃ R, R = decide (x = y) := ⟨_, rfl⟩
  rw [← hR]
  rw [evt_dec] at hR
  have hs := equalStops_spec x.stops y.stops hx rfl
  rw [eqBy_decide] at hs
  refine pret_of ok mixed (A := A88) 2 Try.func88 rfl ?_
  (repeat' (first | exact rfl | ((conv => whnf); first | exact rfl | refine ⟨by kernel_rfl, ?_⟩ | exact ⟨rfl, rfl⟩ | refine ⟨rfl, ?_⟩ | refine ⟨by (first | omega | (simp (disch := omega) only [wrapI]; omega) | (simp (disch := omega) only [wrapI]; simp; omega) | (simp; omega)), ?_⟩ | (intro ep) | refine ⟨_, hs, ?_⟩ | refine ifB (fun hb => ?_) (fun hb => ?_) | fail)))
  all_goals (conv => whnf)
  all_goals (refine congrArg AV.bool ?_; rw [hR]; simp_all)

def A87 : Ann := fun r => match r with
  | 5 => { slots := [(3, 0)] }
  | 6 => { slots := [(4, 1)] }
  | _ => {}
set_option maxHeartbeats 1000000 in
set_option maxRecDepth 100000 in
theorem equalFunc88_spec (l m : List Evt) (hl : l.length ≤ 100000) (hyp : ∀ k (h : k < l.length), l[k].stops.length ≤ 100000) {R : Bool} (hR : R = eqBy (fun a b => decide (a = b)) l m) : PRet C.P 87 [evsA l, evsA m, .fn (.func 88) [] []] (.bool R) := by
  refine pret_of ok mixed (A := A87) 2 Try.func87 rfl ?_
  (repeat' (first | exact rfl | ((conv => whnf); first | exact rfl | refine ⟨by kernel_rfl, ?_⟩ | exact ⟨rfl, rfl⟩ | refine ⟨rfl, ?_⟩ | refine ⟨by (first | omega | (simp (disch := omega) only [wrapI]; omega) | (simp (disch := omega) only [wrapI]; simp; omega) | (simp; omega)), ?_⟩ | (intro ep) | fail)))
  (conv => whnf)
  refine ifB (fun g => ?_) (fun g => ?_)
  · obtain rfl : R = false := by rw [hR]; exact eqBy_len (by intro e; simp [e] at g)
    (repeat' (first | exact rfl | ((conv => whnf); first | exact rfl | refine ⟨by kernel_rfl, ?_⟩ | exact ⟨rfl, rfl⟩ | refine ⟨rfl, ?_⟩ | refine ⟨by (first | omega | (simp (disch := omega) only [wrapI]; omega) | (simp (disch := omega) only [wrapI]; simp; omega) | (simp; omega)), ?_⟩ | (intro ep) | fail)))
  have hlen : l.length = m.length := by simp at g; omega
  (repeat' (first | exact rfl | ((conv => whnf); first | exact rfl | refine ⟨by kernel_rfl, ?_⟩ | exact ⟨rfl, rfl⟩ | refine ⟨rfl, ?_⟩ | refine ⟨by (first | omega | (simp (disch := omega) only [wrapI]; omega) | (simp (disch := omega) only [wrapI]; simp; omega) | (simp; omega)), ?_⟩ | (intro ep) | fail)))
  (conv => whnf)
  refine loopM ok mixed (A := A87) [1, 2, 15, 16, 17] [] (S := EqS (fun a b => decide (a = b)) l m R)
    (fr := fun s => frOf 0 32 [(1, evsA m), (2, .fn (.func 88) [] []), (15, evsA l), (16, .int .i64 l.length), (17, .int .i64 (s.1 : Int))])
    (h := fun s => ⟨[.hole, .hole], []⟩) (μ := fun s => l.length - s.1) ⟨0, by omega, hR⟩ rfl rfl ?_
  rintro ⟨k, hk, he⟩
  show aexR _ _ _ (frOf 0 32 [(1, evsA m), (2, .fn (.func 88) [] []), (15, evsA l), (16, .int .i64 l.length), (17, .int .i64 (k : Int))]) ⟨[.hole, .hole], []⟩ _
  (conv => whnf)
  refine ifB (fun h1 => ?_) (fun h1 => ?_)
  · simp only [decide_eq_true_eq] at h1
    have h2 : k < l.length := by omega
    have h3 : k < m.length := by omega
    have hF := sameEv_spec l[k] m[k] (hyp k h2)
    (repeat' (first | exact rfl | ((conv => whnf); first | exact rfl | refine ⟨by kernel_rfl, ?_⟩ | exact ⟨rfl, rfl⟩ | refine ⟨rfl, ?_⟩ | refine ⟨by (first | omega | (simp (disch := omega) only [wrapI]; omega) | (simp (disch := omega) only [wrapI]; simp; omega) | (simp; omega)), ?_⟩ | (intro ep) | refine optS (mapR h2) ?_ | refine optS (mapR h3) ?_ | refine ⟨_, hF, ?_⟩ | fail)))
    (conv => whnf)
    refine ifB (fun g => ?_) (fun g => ?_)
    · obtain rfl := eqBy_not h2 h3 (bT g) he
      (repeat' (first | exact rfl | ((conv => whnf); first | exact rfl | refine ⟨by kernel_rfl, ?_⟩ | exact ⟨rfl, rfl⟩ | refine ⟨rfl, ?_⟩ | refine ⟨by (first | omega | (simp (disch := omega) only [wrapI]; omega) | (simp (disch := omega) only [wrapI]; simp; omega) | (simp; omega)), ?_⟩ | (intro ep) | fail)))
    · (repeat' (first | exact rfl | ((conv => whnf); first | exact rfl | refine ⟨by kernel_rfl, ?_⟩ | exact ⟨rfl, rfl⟩ | refine ⟨rfl, ?_⟩ | refine ⟨by (first | omega | (simp (disch := omega) only [wrapI]; omega) | (simp (disch := omega) only [wrapI]; simp; omega) | (simp; omega)), ?_⟩ | (intro ep) | fail)))
      (conv => whnf)
      refine back_of ⟨k + 1, by omega, eqBy_step h2 h3 (bF g) he⟩ ⟨by (first | exact rfl | (simp (disch := omega) only [wrapI]; exact rfl)), rfl, by simp only; omega⟩
  · simp only [decide_eq_false_iff_not] at h1
    obtain rfl := eqBy_end hlen (by omega) he
    (repeat' (first | exact rfl | ((conv => whnf); first | exact rfl | refine ⟨by kernel_rfl, ?_⟩ | exact ⟨rfl, rfl⟩ | refine ⟨rfl, ?_⟩ | refine ⟨by (first | omega | (simp (disch := omega) only [wrapI]; omega) | (simp (disch := omega) only [wrapI]; simp; omega) | (simp; omega)), ?_⟩ | (intro ep) | fail)))
def A83 : Ann := fun r => match r with
  | 0 => { slots := [(0, 0), (1, 1)] }
  | _ => {}
set_option maxHeartbeats 1000000 in
set_option maxRecDepth 100000 in
theorem sameIn83_spec (a b : Ins) (ha : a.cs.length ≤ 100000) (ha2 : a.steps.length ≤ 100000) : PRet C.P 83 [inA a, inA b] (.bool (decide (a = b))) := by
  obtain ⟨R, hR⟩ : ∃ R, R = decide (a = b) := ⟨_, rfl⟩
  obtain ⟨R1, hR1⟩ : ∃ R, R = eqBy (fun a b => decide (a = b)) a.cs b.cs := ⟨_, rfl⟩
  obtain ⟨R2, hR2⟩ : ∃ R, R = eqBy (fun a b => decide (a = b)) a.steps b.steps := ⟨_, rfl⟩
  rw [← hR]
  have hRR : R = (R1 && R2) := by rw [hR, hR1, hR2, eqBy_decide, eqBy_decide]; cases a; cases b; simp
  refine pret_of ok mixed (A := A83) 2 Try.func83 rfl ?_
  (conv => whnf)
  intro e0
  (conv => whnf)
  intro e1
  (repeat' (first | exact rfl | ((conv => whnf); first | exact rfl | refine ⟨by kernel_rfl, ?_⟩ | exact ⟨rfl, rfl⟩ | refine ⟨rfl, ?_⟩ | refine ⟨by (first | omega | (simp (disch := omega) only [wrapI]; omega) | (simp (disch := omega) only [wrapI]; simp; omega) | (simp; omega)), ?_⟩ | (intro ep) | refine ifB (fun hb => ?_) (fun hb => ?_) | fail)))
  · refine congrArg AV.bool ?_
    rw [hRR, hR1, eqBy_len (by intro e; simp [e] at hb)]; rfl
  · refine congrArg AV.bool ?_
    rw [hRR, hR2, eqBy_len (l := a.steps) (by intro e; simp [e] at hb), Bool.and_false]
  rename_i hb1
  have hlenR1 : a.cs.length = b.cs.length := by simp at hb1; omega
  have hlenR2 : a.steps.length = b.steps.length := by simp at hb; omega
  (repeat' (first | exact rfl | ((conv => whnf); first | exact rfl | refine ⟨by kernel_rfl, ?_⟩ | exact ⟨rfl, rfl⟩ | refine ⟨rfl, ?_⟩ | refine ⟨by (first | omega | (simp (disch := omega) only [wrapI]; omega) | (simp (disch := omega) only [wrapI]; simp; omega) | (simp; omega)), ?_⟩ | (intro ep) | fail)))
  (conv => whnf)
  refine loopM ok mixed (A := A83) [2, 3, 25, 26] [0, 1] (S := EqS (fun a b => decide (a = b)) (a.cs) (b.cs) R1)
    (fr := fun s => frOf 0 59 [(2, .optr (.s 0) e0 2 0 0), (3, .optr (.s 1) e1 2 0 0), (25, .int .i64 a.cs.length), (26, .int .i64 (s.1 : Int))])
    (h := fun s => ⟨[.vec e0 [[crsA a.cs, intsA a.steps]], .vec e1 [[crsA b.cs, intsA b.steps]]], []⟩) (μ := fun s => (a.cs).length - s.1) ⟨0, by omega, hR1⟩ rfl rfl ?_
  rintro ⟨k, hk, he⟩
  show aexR _ _ _ (frOf 0 59 [(2, .optr (.s 0) e0 2 0 0), (3, .optr (.s 1) e1 2 0 0), (25, .int .i64 a.cs.length), (26, .int .i64 (k : Int))]) ⟨[.vec e0 [[crsA a.cs, intsA a.steps]], .vec e1 [[crsA b.cs, intsA b.steps]]], []⟩ _
  (repeat' (first | exact rfl | ((conv => whnf); first | exact rfl | refine ⟨by kernel_rfl, ?_⟩ | exact ⟨rfl, rfl⟩ | refine ⟨rfl, ?_⟩ | refine ⟨by (first | omega | (simp (disch := omega) only [wrapI]; omega) | (simp (disch := omega) only [wrapI]; simp; omega) | (simp; omega)), ?_⟩ | (intro ep) | fail)))
  (conv => whnf)
  refine ifB (fun h1 => ?_) (fun h1 => ?_)
  · simp only [decide_eq_true_eq] at h1
    have h2 : k < (a.cs).length := by omega
    have h3 : k < (b.cs).length := by omega
    
    (repeat' (first | exact rfl | ((conv => whnf); first | exact rfl | refine ⟨by kernel_rfl, ?_⟩ | exact ⟨rfl, rfl⟩ | refine ⟨rfl, ?_⟩ | refine ⟨by (first | omega | (simp (disch := omega) only [wrapI]; omega) | (simp (disch := omega) only [wrapI]; simp; omega) | (simp; omega)), ?_⟩ | (intro ep) | refine optS (mapR h2) ?_ | refine optS (mapR h3) ?_ | fail)))
    (conv => whnf)
    refine ifB (fun g => ?_) (fun g => ?_)
    · obtain e := eqBy_not h2 h3 ((crs_dec _ _).symm.trans (bT g)) he
      rw [e, Bool.false_and] at hRR
      subst hRR
      (repeat' (first | exact rfl | ((conv => whnf); first | exact rfl | refine ⟨by kernel_rfl, ?_⟩ | exact ⟨rfl, rfl⟩ | refine ⟨rfl, ?_⟩ | refine ⟨by (first | omega | (simp (disch := omega) only [wrapI]; omega) | (simp (disch := omega) only [wrapI]; simp; omega) | (simp; omega)), ?_⟩ | (intro ep) | fail)))
    · (repeat' (first | exact rfl | ((conv => whnf); first | exact rfl | refine ⟨by kernel_rfl, ?_⟩ | exact ⟨rfl, rfl⟩ | refine ⟨rfl, ?_⟩ | refine ⟨by (first | omega | (simp (disch := omega) only [wrapI]; omega) | (simp (disch := omega) only [wrapI]; simp; omega) | (simp; omega)), ?_⟩ | (intro ep) | fail)))
      (conv => whnf)
      refine back_of ⟨k + 1, by omega, eqBy_step h2 h3 ((crs_dec _ _).symm.trans (bF g)) he⟩ ⟨by (first | exact rfl | (simp (disch := omega) only [wrapI]; exact rfl)), rfl, by simp only; omega⟩
  simp only [decide_eq_false_iff_not] at h1
  have e := eqBy_end (f := (fun a b => decide (a = b))) hlenR1 (by omega) he
  rw [e, Bool.true_and] at hRR
  (repeat' (first | exact rfl | ((conv => whnf); first | exact rfl | refine ⟨by kernel_rfl, ?_⟩ | exact ⟨rfl, rfl⟩ | refine ⟨rfl, ?_⟩ | refine ⟨by (first | omega | (simp (disch := omega) only [wrapI]; omega) | (simp (disch := omega) only [wrapI]; simp; omega) | (simp; omega)), ?_⟩ | (intro ep) | fail)))
  (conv => whnf)
  refine loopM ok mixed (A := A83) [2, 3, 43, 44] [0, 1] (S := EqS (fun a b => decide (a = b)) (a.steps) (b.steps) R2)
    (fr := fun s => frOf 0 59 [(2, .optr (.s 0) e0 2 0 0), (3, .optr (.s 1) e1 2 0 0), (43, .int .i64 a.steps.length), (44, .int .i64 (s.1 : Int))])
    (h := fun s => ⟨[.vec e0 [[crsA a.cs, intsA a.steps]], .vec e1 [[crsA b.cs, intsA b.steps]]], []⟩) (μ := fun s => (a.steps).length - s.1) ⟨0, by omega, hR2⟩ rfl rfl ?_
  rintro ⟨k, hk, he⟩
  show aexR _ _ _ (frOf 0 59 [(2, .optr (.s 0) e0 2 0 0), (3, .optr (.s 1) e1 2 0 0), (43, .int .i64 a.steps.length), (44, .int .i64 (k : Int))]) ⟨[.vec e0 [[crsA a.cs, intsA a.steps]], .vec e1 [[crsA b.cs, intsA b.steps]]], []⟩ _
  (repeat' (first | exact rfl | ((conv => whnf); first | exact rfl | refine ⟨by kernel_rfl, ?_⟩ | exact ⟨rfl, rfl⟩ | refine ⟨rfl, ?_⟩ | refine ⟨by (first | omega | (simp (disch := omega) only [wrapI]; omega) | (simp (disch := omega) only [wrapI]; simp; omega) | (simp; omega)), ?_⟩ | (intro ep) | fail)))
  (conv => whnf)
  refine ifB (fun h1 => ?_) (fun h1 => ?_)
  · simp only [decide_eq_true_eq] at h1
    have h2 : k < (a.steps).length := by omega
    have h3 : k < (b.steps).length := by omega
    
    (repeat' (first | exact rfl | ((conv => whnf); first | exact rfl | refine ⟨by kernel_rfl, ?_⟩ | exact ⟨rfl, rfl⟩ | refine ⟨rfl, ?_⟩ | refine ⟨by (first | omega | (simp (disch := omega) only [wrapI]; omega) | (simp (disch := omega) only [wrapI]; simp; omega) | (simp; omega)), ?_⟩ | (intro ep) | refine optS (intsR h2) ?_ | refine optS (intsR h3) ?_ | fail)))
    (conv => whnf)
    refine ifB (fun g => ?_) (fun g => ?_)
    · obtain e := eqBy_not h2 h3 (by simpa using g) he
      rw [e] at hRR
      subst hRR
      (repeat' (first | exact rfl | ((conv => whnf); first | exact rfl | refine ⟨by kernel_rfl, ?_⟩ | exact ⟨rfl, rfl⟩ | refine ⟨rfl, ?_⟩ | refine ⟨by (first | omega | (simp (disch := omega) only [wrapI]; omega) | (simp (disch := omega) only [wrapI]; simp; omega) | (simp; omega)), ?_⟩ | (intro ep) | fail)))
    · (repeat' (first | exact rfl | ((conv => whnf); first | exact rfl | refine ⟨by kernel_rfl, ?_⟩ | exact ⟨rfl, rfl⟩ | refine ⟨rfl, ?_⟩ | refine ⟨by (first | omega | (simp (disch := omega) only [wrapI]; omega) | (simp (disch := omega) only [wrapI]; simp; omega) | (simp; omega)), ?_⟩ | (intro ep) | fail)))
      (conv => whnf)
      refine back_of ⟨k + 1, by omega, eqBy_step h2 h3 (by simpa using g) he⟩ ⟨by (first | exact rfl | (simp (disch := omega) only [wrapI]; exact rfl)), rfl, by simp only; omega⟩
  simp only [decide_eq_false_iff_not] at h1
  have e := eqBy_end (f := (fun a b => decide (a = b))) hlenR2 (by omega) he
  rw [e] at hRR
  subst hRR
  (repeat' (first | exact rfl | ((conv => whnf); first | exact rfl | refine ⟨by kernel_rfl, ?_⟩ | exact ⟨rfl, rfl⟩ | refine ⟨rfl, ?_⟩ | refine ⟨by (first | omega | (simp (disch := omega) only [wrapI]; omega) | (simp (disch := omega) only [wrapI]; simp; omega) | (simp; omega)), ?_⟩ | (intro ep) | fail)))
def A62 : Ann := fun r => match r with
  | 0 => { slots := [(0, 0), (1, 1)] }
  | _ => {}
set_option maxHeartbeats 1000000 in
set_option maxRecDepth 100000 in
theorem sameIn62_spec (a b : Ins) (ha : a.cs.length ≤ 100000) (ha2 : a.steps.length ≤ 100000) : PRet C.P 62 [inA a, inA b] (.bool (decide (a = b))) := by
  obtain ⟨R, hR⟩ : ∃ R, R = decide (a = b) := ⟨_, rfl⟩
  obtain ⟨R1, hR1⟩ : ∃ R, R = eqBy (fun a b => decide (a = b)) a.cs b.cs := ⟨_, rfl⟩
  obtain ⟨R2, hR2⟩ : ∃ R, R = eqBy (fun a b => decide (a = b)) a.steps b.steps := ⟨_, rfl⟩
  rw [← hR]
  have hRR : R = (R1 && R2) := by rw [hR, hR1, hR2, eqBy_decide, eqBy_decide]; cases a; cases b; simp
  refine pret_of ok mixed (A := A62) 2 Try.func62 rfl ?_
  (conv => whnf)
  intro e0
  (conv => whnf)
  intro e1
  (repeat' (first | exact rfl | ((conv => whnf); first | exact rfl | refine ⟨by kernel_rfl, ?_⟩ | exact ⟨rfl, rfl⟩ | refine ⟨rfl, ?_⟩ | refine ⟨by (first | omega | (simp (disch := omega) only [wrapI]; omega) | (simp (disch := omega) only [wrapI]; simp; omega) | (simp; omega)), ?_⟩ | (intro ep) | refine ifB (fun hb => ?_) (fun hb => ?_) | fail)))
  · refine congrArg AV.bool ?_
    rw [hRR, hR1, eqBy_len (by intro e; simp [e] at hb)]; rfl
  · refine congrArg AV.bool ?_
    rw [hRR, hR2, eqBy_len (l := a.steps) (by intro e; simp [e] at hb), Bool.and_false]
  rename_i hb1
  have hlenR1 : a.cs.length = b.cs.length := by simp at hb1; omega
  have hlenR2 : a.steps.length = b.steps.length := by simp at hb; omega
  (repeat' (first | exact rfl | ((conv => whnf); first | exact rfl | refine ⟨by kernel_rfl, ?_⟩ | exact ⟨rfl, rfl⟩ | refine ⟨rfl, ?_⟩ | refine ⟨by (first | omega | (simp (disch := omega) only [wrapI]; omega) | (simp (disch := omega) only [wrapI]; simp; omega) | (simp; omega)), ?_⟩ | (intro ep) | fail)))
  (conv => whnf)
  refine loopM ok mixed (A := A62) [2, 3, 5] [0, 1] (S := EqS (fun a b => decide (a = b)) (a.cs) (b.cs) R1)
    (fr := fun s => frOf 0 59 [(2, .optr (.s 0) e0 2 0 0), (3, .optr (.s 1) e1 2 0 0), (5, .int .i64 (s.1 : Int))])
    (h := fun s => ⟨[.vec e0 [[crsA a.cs, intsA a.steps]], .vec e1 [[crsA b.cs, intsA b.steps]]], []⟩) (μ := fun s => (a.cs).length - s.1) ⟨0, by omega, hR1⟩ rfl rfl ?_
  rintro ⟨k, hk, he⟩
  show aexR _ _ _ (frOf 0 59 [(2, .optr (.s 0) e0 2 0 0), (3, .optr (.s 1) e1 2 0 0), (5, .int .i64 (k : Int))]) ⟨[.vec e0 [[crsA a.cs, intsA a.steps]], .vec e1 [[crsA b.cs, intsA b.steps]]], []⟩ _
  (repeat' (first | exact rfl | ((conv => whnf); first | exact rfl | refine ⟨by kernel_rfl, ?_⟩ | exact ⟨rfl, rfl⟩ | refine ⟨rfl, ?_⟩ | refine ⟨by (first | omega | (simp (disch := omega) only [wrapI]; omega) | (simp (disch := omega) only [wrapI]; simp; omega) | (simp; omega)), ?_⟩ | (intro ep) | fail)))
  (conv => whnf)
  refine ifB (fun h1 => ?_) (fun h1 => ?_)
  · simp only [decide_eq_true_eq] at h1
    have h2 : k < (a.cs).length := by omega
    have h3 : k < (b.cs).length := by omega
    
    (repeat' (first | exact rfl | ((conv => whnf); first | exact rfl | refine ⟨by kernel_rfl, ?_⟩ | exact ⟨rfl, rfl⟩ | refine ⟨rfl, ?_⟩ | refine ⟨by (first | omega | (simp (disch := omega) only [wrapI]; omega) | (simp (disch := omega) only [wrapI]; simp; omega) | (simp; omega)), ?_⟩ | (intro ep) | refine optS (mapR h2) ?_ | refine optS (mapR h3) ?_ | fail)))
    (conv => whnf)
    refine ifB (fun g => ?_) (fun g => ?_)
    · obtain e := eqBy_not h2 h3 ((crs_dec _ _).symm.trans (bT g)) he
      rw [e, Bool.false_and] at hRR
      subst hRR
      (repeat' (first | exact rfl | ((conv => whnf); first | exact rfl | refine ⟨by kernel_rfl, ?_⟩ | exact ⟨rfl, rfl⟩ | refine ⟨rfl, ?_⟩ | refine ⟨by (first | omega | (simp (disch := omega) only [wrapI]; omega) | (simp (disch := omega) only [wrapI]; simp; omega) | (simp; omega)), ?_⟩ | (intro ep) | fail)))
    · (repeat' (first | exact rfl | ((conv => whnf); first | exact rfl | refine ⟨by kernel_rfl, ?_⟩ | exact ⟨rfl, rfl⟩ | refine ⟨rfl, ?_⟩ | refine ⟨by (first | omega | (simp (disch := omega) only [wrapI]; omega) | (simp (disch := omega) only [wrapI]; simp; omega) | (simp; omega)), ?_⟩ | (intro ep) | fail)))
      (conv => whnf)
      refine back_of ⟨k + 1, by omega, eqBy_step h2 h3 ((crs_dec _ _).symm.trans (bF g)) he⟩ ⟨by (first | exact rfl | (simp (disch := omega) only [wrapI]; exact rfl)), rfl, by simp only; omega⟩
  simp only [decide_eq_false_iff_not] at h1
  have e := eqBy_end (f := (fun a b => decide (a = b))) hlenR1 (by omega) he
  rw [e, Bool.true_and] at hRR
  (repeat' (first | exact rfl | ((conv => whnf); first | exact rfl | refine ⟨by kernel_rfl, ?_⟩ | exact ⟨rfl, rfl⟩ | refine ⟨rfl, ?_⟩ | refine ⟨by (first | omega | (simp (disch := omega) only [wrapI]; omega) | (simp (disch := omega) only [wrapI]; simp; omega) | (simp; omega)), ?_⟩ | (intro ep) | fail)))
  (conv => whnf)
  refine loopM ok mixed (A := A62) [2, 3, 6] [0, 1] (S := EqS (fun a b => decide (a = b)) (a.steps) (b.steps) R2)
    (fr := fun s => frOf 0 59 [(2, .optr (.s 0) e0 2 0 0), (3, .optr (.s 1) e1 2 0 0), (6, .int .i64 (s.1 : Int))])
    (h := fun s => ⟨[.vec e0 [[crsA a.cs, intsA a.steps]], .vec e1 [[crsA b.cs, intsA b.steps]]], []⟩) (μ := fun s => (a.steps).length - s.1) ⟨0, by omega, hR2⟩ rfl rfl ?_
  rintro ⟨k, hk, he⟩
  show aexR _ _ _ (frOf 0 59 [(2, .optr (.s 0) e0 2 0 0), (3, .optr (.s 1) e1 2 0 0), (6, .int .i64 (k : Int))]) ⟨[.vec e0 [[crsA a.cs, intsA a.steps]], .vec e1 [[crsA b.cs, intsA b.steps]]], []⟩ _
  (repeat' (first | exact rfl | ((conv => whnf); first | exact rfl | refine ⟨by kernel_rfl, ?_⟩ | exact ⟨rfl, rfl⟩ | refine ⟨rfl, ?_⟩ | refine ⟨by (first | omega | (simp (disch := omega) only [wrapI]; omega) | (simp (disch := omega) only [wrapI]; simp; omega) | (simp; omega)), ?_⟩ | (intro ep) | fail)))
  (conv => whnf)
  refine ifB (fun h1 => ?_) (fun h1 => ?_)
  · simp only [decide_eq_true_eq] at h1
    have h2 : k < (a.steps).length := by omega
    have h3 : k < (b.steps).length := by omega
    
    (repeat' (first | exact rfl | ((conv => whnf); first | exact rfl | refine ⟨by kernel_rfl, ?_⟩ | exact ⟨rfl, rfl⟩ | refine ⟨rfl, ?_⟩ | refine ⟨by (first | omega | (simp (disch := omega) only [wrapI]; omega) | (simp (disch := omega) only [wrapI]; simp; omega) | (simp; omega)), ?_⟩ | (intro ep) | refine optS (intsR h2) ?_ | refine optS (intsR h3) ?_ | fail)))
    (conv => whnf)
    refine ifB (fun g => ?_) (fun g => ?_)
    · obtain e := eqBy_not h2 h3 (by simpa using g) he
      rw [e] at hRR
      subst hRR
      (repeat' (first | exact rfl | ((conv => whnf); first | exact rfl | refine ⟨by kernel_rfl, ?_⟩ | exact ⟨rfl, rfl⟩ | refine ⟨rfl, ?_⟩ | refine ⟨by (first | omega | (simp (disch := omega) only [wrapI]; omega) | (simp (disch := omega) only [wrapI]; simp; omega) | (simp; omega)), ?_⟩ | (intro ep) | fail)))
    · (repeat' (first | exact rfl | ((conv => whnf); first | exact rfl | refine ⟨by kernel_rfl, ?_⟩ | exact ⟨rfl, rfl⟩ | refine ⟨rfl, ?_⟩ | refine ⟨by (first | omega | (simp (disch := omega) only [wrapI]; omega) | (simp (disch := omega) only [wrapI]; simp; omega) | (simp; omega)), ?_⟩ | (intro ep) | fail)))
      (conv => whnf)
      refine back_of ⟨k + 1, by omega, eqBy_step h2 h3 (by simpa using g) he⟩ ⟨by (first | exact rfl | (simp (disch := omega) only [wrapI]; exact rfl)), rfl, by simp only; omega⟩
  simp only [decide_eq_false_iff_not] at h1
  have e := eqBy_end (f := (fun a b => decide (a = b))) hlenR2 (by omega) he
  rw [e] at hRR
  subst hRR
  (repeat' (first | exact rfl | ((conv => whnf); first | exact rfl | refine ⟨by kernel_rfl, ?_⟩ | exact ⟨rfl, rfl⟩ | refine ⟨rfl, ?_⟩ | refine ⟨by (first | omega | (simp (disch := omega) only [wrapI]; omega) | (simp (disch := omega) only [wrapI]; simp; omega) | (simp; omega)), ?_⟩ | (intro ep) | fail)))
def A82 : Ann := fun r => match r with
  | 0 => { slots := [(0, 0), (1, 1)] }
  | _ => {}
set_option maxHeartbeats 1000000 in
set_option maxRecDepth 100000 in
theorem refSameEv_spec (x y : Evt) (hx : x.stops.length ≤ 100000) : PRet C.P 82 [.agg (evR x), .agg (evR y)] (.bool (decide (x = y))) := by
  obtain ⟨R, hR⟩ : ∃ R, R = decide (x = y) := ⟨_, rfl⟩
  obtain ⟨R1, hR1⟩ : ∃ R, R = eqBy (fun a b => decide (a = b)) x.stops y.stops := ⟨_, rfl⟩
  rw [← hR]
  rw [evt_dec, ← eqBy_decide, ← hR1] at hR
  refine pret_of ok mixed (A := A82) 2 Try.func82 rfl ?_
  (conv => whnf)
  intro e0
  (conv => whnf)
  intro e1
  (repeat' (first | exact rfl | ((conv => whnf); first | exact rfl | refine ⟨by kernel_rfl, ?_⟩ | exact ⟨rfl, rfl⟩ | refine ⟨rfl, ?_⟩ | refine ⟨by (first | omega | (simp (disch := omega) only [wrapI]; omega) | (simp (disch := omega) only [wrapI]; simp; omega) | (simp; omega)), ?_⟩ | (intro ep) | refine ifB (fun hb => ?_) (fun hb => ?_) | fail)))
  · refine congrArg AV.bool ?_
    rw [hR, bT hb]; simp
  · refine congrArg AV.bool ?_
    rw [hR, bT hb]; simp
  · refine congrArg AV.bool ?_
    rw [hR, bT hb]; simp
  · refine congrArg AV.bool ?_
    rw [hR, hR1, eqBy_len (by intro e; simp [e] at hb)]; simp
  · rename_i hb3 hb2 hb1
    have hlenR1 : x.stops.length = y.stops.length := by simp at hb; omega
    rw [bF hb3, bF hb2, bF hb1] at hR
    simp only [Bool.true_and] at hR
    (repeat' (first | exact rfl | ((conv => whnf); first | exact rfl | refine ⟨by kernel_rfl, ?_⟩ | exact ⟨rfl, rfl⟩ | refine ⟨rfl, ?_⟩ | refine ⟨by (first | omega | (simp (disch := omega) only [wrapI]; omega) | (simp (disch := omega) only [wrapI]; simp; omega) | (simp; omega)), ?_⟩ | (intro ep) | fail)))
    (conv => whnf)
    refine loopM ok mixed (A := A82) [2, 3, 5] [0, 1] (S := EqS (fun a b => decide (a = b)) (x.stops) (y.stops) R1)
      (fr := fun s => frOf 0 52 [(2, .optr (.s 0) e0 6 0 0), (3, .optr (.s 1) e1 6 0 0), (5, .int .i64 (s.1 : Int))])
      (h := fun s => ⟨[.vec e0 [evR x], .vec e1 [evR y]], []⟩) (μ := fun s => (x.stops).length - s.1) ⟨0, by omega, hR1⟩ rfl rfl ?_
    rintro ⟨k, hk, he⟩
    show aexR _ _ _ (frOf 0 52 [(2, .optr (.s 0) e0 6 0 0), (3, .optr (.s 1) e1 6 0 0), (5, .int .i64 (k : Int))]) ⟨[.vec e0 [evR x], .vec e1 [evR y]], []⟩ _
    (repeat' (first | exact rfl | ((conv => whnf); first | exact rfl | refine ⟨by kernel_rfl, ?_⟩ | exact ⟨rfl, rfl⟩ | refine ⟨rfl, ?_⟩ | refine ⟨by (first | omega | (simp (disch := omega) only [wrapI]; omega) | (simp (disch := omega) only [wrapI]; simp; omega) | (simp; omega)), ?_⟩ | (intro ep) | fail)))
    (conv => whnf)
    refine ifB (fun h1 => ?_) (fun h1 => ?_)
    · simp only [decide_eq_true_eq] at h1
      have h2 : k < (x.stops).length := by omega
      have h3 : k < (y.stops).length := by omega
      
      (repeat' (first | exact rfl | ((conv => whnf); first | exact rfl | refine ⟨by kernel_rfl, ?_⟩ | exact ⟨rfl, rfl⟩ | refine ⟨rfl, ?_⟩ | refine ⟨by (first | omega | (simp (disch := omega) only [wrapI]; omega) | (simp (disch := omega) only [wrapI]; simp; omega) | (simp; omega)), ?_⟩ | (intro ep) | refine optS (mapR h2) ?_ | refine optS (mapR h3) ?_ | fail)))
      (conv => whnf)
      refine ifB (fun g => ?_) (fun g => ?_)
      · obtain e := eqBy_not h2 h3 ((stp_dec _ _).symm.trans (bT g)) he
        rw [e] at hR
        subst hR
        (repeat' (first | exact rfl | ((conv => whnf); first | exact rfl | refine ⟨by kernel_rfl, ?_⟩ | exact ⟨rfl, rfl⟩ | refine ⟨rfl, ?_⟩ | refine ⟨by (first | omega | (simp (disch := omega) only [wrapI]; omega) | (simp (disch := omega) only [wrapI]; simp; omega) | (simp; omega)), ?_⟩ | (intro ep) | fail)))
      · (repeat' (first | exact rfl | ((conv => whnf); first | exact rfl | refine ⟨by kernel_rfl, ?_⟩ | exact ⟨rfl, rfl⟩ | refine ⟨rfl, ?_⟩ | refine ⟨by (first | omega | (simp (disch := omega) only [wrapI]; omega) | (simp (disch := omega) only [wrapI]; simp; omega) | (simp; omega)), ?_⟩ | (intro ep) | fail)))
        (conv => whnf)
        refine back_of ⟨k + 1, by omega, eqBy_step h2 h3 ((stp_dec _ _).symm.trans (bF g)) he⟩ ⟨by (first | exact rfl | (simp (disch := omega) only [wrapI]; exact rfl)), rfl, by simp only; omega⟩
    simp only [decide_eq_false_iff_not] at h1
    have e := eqBy_end (f := (fun a b => decide (a = b))) hlenR1 (by omega) he
    rw [e] at hR
    subst hR
    (repeat' (first | exact rfl | ((conv => whnf); first | exact rfl | refine ⟨by kernel_rfl, ?_⟩ | exact ⟨rfl, rfl⟩ | refine ⟨rfl, ?_⟩ | refine ⟨by (first | omega | (simp (disch := omega) only [wrapI]; omega) | (simp (disch := omega) only [wrapI]; simp; omega) | (simp; omega)), ?_⟩ | (intro ep) | fail)))


end Go.Ab.V

/-
  Equality of pieces, on both sides: the functions that compare. No condition but the machine's bounds on lengths.
-/
namespace Go.Ab.V
open Go.Proofs

theorem pc_dec (p q : Pc) : decide (p = q) = (decide (p.ins = q.ins) && decide (p.evs = q.evs)) := by
  cases p; cases q; simp
structure Pc.Sm2 (p : Pc) : Prop where
  cs : p.ins.cs.length ≤ 100000
  st : p.ins.steps.length ≤ 100000
  ev : p.evs.length ≤ 100000
  sp : ∀ e ∈ p.evs, e.stops.length ≤ 100000
theorem Pc.Sm.two {p : Pc} (h : p.Sm) : p.Sm2 := ⟨by have := h.cs; omega, by have := h.st; omega, by have := h.ev; omega, fun e he => by have := h.sp e he; omega⟩
def A43 : Ann := fun r => match r with
  | 0 => { slots := [(0, 0), (1, 1)] }
  | _ => {}
set_option maxHeartbeats 1000000 in
set_option maxRecDepth 100000 in
theorem refSame_spec (p q : Pc) (hp : p.Sm2) : PRet C.P 43 [pcA p, pcA q] (.bool (decide (p = q))) := by
  obtain ⟨R, hR⟩ : ∃ R, R = decide (p = q) := ⟨_, rfl⟩
  obtain ⟨R1, hR1⟩ : ∃ R, R = eqBy (fun a b => decide (a = b)) p.evs q.evs := ⟨_, rfl⟩
  rw [← hR]
  rw [pc_dec, ← eqBy_decide p.evs, ← hR1] at hR
  have hi := sameIn62_spec p.ins q.ins hp.cs hp.st
  have hle := hp.ev
  refine pret_of ok mixed (A := A43) 2 Try.func43 rfl ?_
  (conv => whnf)
  intro e0
  (conv => whnf)
  intro e1
  (repeat' (first | exact rfl | ((conv => whnf); first | exact rfl | refine ⟨by kernel_rfl, ?_⟩ | exact ⟨rfl, rfl⟩ | refine ⟨rfl, ?_⟩ | refine ⟨by (first | omega | (simp (disch := omega) only [wrapI]; omega) | (simp (disch := omega) only [wrapI]; simp; omega) | (simp; omega)), ?_⟩ | (intro ep) | refine ⟨_, hi, ?_⟩ | refine ifB (fun hb => ?_) (fun hb => ?_) | fail)))
  · refine congrArg AV.bool ?_
    rw [hR, bT hb]; simp
  · refine congrArg AV.bool ?_
    rw [hR, hR1, eqBy_len (by intro e; simp [e] at hb)]; simp
  rename_i hb1
  have hlenR1 : p.evs.length = q.evs.length := by simp at hb; omega
  rw [bF hb1] at hR
  simp only [Bool.true_and] at hR
  (repeat' (first | exact rfl | ((conv => whnf); first | exact rfl | refine ⟨by kernel_rfl, ?_⟩ | exact ⟨rfl, rfl⟩ | refine ⟨rfl, ?_⟩ | refine ⟨by (first | omega | (simp (disch := omega) only [wrapI]; omega) | (simp (disch := omega) only [wrapI]; simp; omega) | (simp; omega)), ?_⟩ | (intro ep) | fail)))
  (conv => whnf)
  refine loopM ok mixed (A := A43) [2, 3, 5] [0, 1] (S := EqS (fun a b => decide (a = b)) (p.evs) (q.evs) R1)
    (fr := fun s => frOf 0 40 [(2, .optr (.s 0) e0 3 0 0), (3, .optr (.s 1) e1 3 0 0), (5, .int .i64 (s.1 : Int))])
    (h := fun s => ⟨[.vec e0 [[crsA p.ins.cs, intsA p.ins.steps, evsA p.evs]], .vec e1 [[crsA q.ins.cs, intsA q.ins.steps, evsA q.evs]]], []⟩) (μ := fun s => (p.evs).length - s.1) ⟨0, by omega, hR1⟩ rfl rfl ?_
  rintro ⟨k, hk, he⟩
  show aexR _ _ _ (frOf 0 40 [(2, .optr (.s 0) e0 3 0 0), (3, .optr (.s 1) e1 3 0 0), (5, .int .i64 (k : Int))]) ⟨[.vec e0 [[crsA p.ins.cs, intsA p.ins.steps, evsA p.evs]], .vec e1 [[crsA q.ins.cs, intsA q.ins.steps, evsA q.evs]]], []⟩ _
  (repeat' (first | exact rfl | ((conv => whnf); first | exact rfl | refine ⟨by kernel_rfl, ?_⟩ | exact ⟨rfl, rfl⟩ | refine ⟨rfl, ?_⟩ | refine ⟨by (first | omega | (simp (disch := omega) only [wrapI]; omega) | (simp (disch := omega) only [wrapI]; simp; omega) | (simp; omega)), ?_⟩ | (intro ep) | fail)))
  (conv => whnf)
  refine ifB (fun h1 => ?_) (fun h1 => ?_)
  · simp only [decide_eq_true_eq] at h1
    have h2 : k < (p.evs).length := by omega
    have h3 : k < (q.evs).length := by omega
    have hF := refSameEv_spec p.evs[k] q.evs[k] (hp.sp _ (List.getElem_mem h2))
    (repeat' (first | exact rfl | ((conv => whnf); first | exact rfl | refine ⟨by kernel_rfl, ?_⟩ | exact ⟨rfl, rfl⟩ | refine ⟨rfl, ?_⟩ | refine ⟨by (first | omega | (simp (disch := omega) only [wrapI]; omega) | (simp (disch := omega) only [wrapI]; simp; omega) | (simp; omega)), ?_⟩ | (intro ep) | refine optS (mapR h2) ?_ | refine optS (mapR h3) ?_ | refine ⟨_, hF, ?_⟩ | fail)))
    (conv => whnf)
    refine ifB (fun g => ?_) (fun g => ?_)
    · obtain e := eqBy_not h2 h3 (bT g) he
      rw [e] at hR
      subst hR
      (repeat' (first | exact rfl | ((conv => whnf); first | exact rfl | refine ⟨by kernel_rfl, ?_⟩ | exact ⟨rfl, rfl⟩ | refine ⟨rfl, ?_⟩ | refine ⟨by (first | omega | (simp (disch := omega) only [wrapI]; omega) | (simp (disch := omega) only [wrapI]; simp; omega) | (simp; omega)), ?_⟩ | (intro ep) | fail)))
    · (repeat' (first | exact rfl | ((conv => whnf); first | exact rfl | refine ⟨by kernel_rfl, ?_⟩ | exact ⟨rfl, rfl⟩ | refine ⟨rfl, ?_⟩ | refine ⟨by (first | omega | (simp (disch := omega) only [wrapI]; omega) | (simp (disch := omega) only [wrapI]; simp; omega) | (simp; omega)), ?_⟩ | (intro ep) | fail)))
      (conv => whnf)
      refine back_of ⟨k + 1, by omega, eqBy_step h2 h3 (bF g) he⟩ ⟨by (first | exact rfl | (simp (disch := omega) only [wrapI]; exact rfl)), rfl, by simp only; omega⟩
  simp only [decide_eq_false_iff_not] at h1
  have e := eqBy_end (f := (fun a b => decide (a = b))) hlenR1 (by omega) he
  rw [e] at hR
  subst hR
  (repeat' (first | exact rfl | ((conv => whnf); first | exact rfl | refine ⟨by kernel_rfl, ?_⟩ | exact ⟨rfl, rfl⟩ | refine ⟨rfl, ?_⟩ | refine ⟨by (first | omega | (simp (disch := omega) only [wrapI]; omega) | (simp (disch := omega) only [wrapI]; simp; omega) | (simp; omega)), ?_⟩ | (intro ep) | fail)))
def A46 : Ann := fun r => match r with
  | 0 => { slots := [(0, 0), (1, 1)] }
  | _ => {}
set_option maxHeartbeats 1000000 in
set_option maxRecDepth 100000 in
theorem same_spec (p q : Pc) (hp : p.Sm2) : PRet C.P 46 [pcA p, pcA q] (.bool (decide (p = q))) := by
  have hi := sameIn83_spec p.ins q.ins hp.cs hp.st
  have he := equalFunc88_spec p.evs q.evs hp.ev (fun k h => hp.sp _ (List.getElem_mem h)) rfl
  rw [eqBy_decide] at he
  rw [pc_dec]
  obtain ⟨R, hR⟩ : ∃ R, R = decide (p.ins = q.ins) := ⟨_, rfl⟩
  rw [← hR] at hi ⊢
  refine pret_of ok mixed (A := A46) 2 Try.func46 rfl ?_
  (repeat' (first | exact rfl | ((conv => whnf); first | exact rfl | refine ⟨by kernel_rfl, ?_⟩ | exact ⟨rfl, rfl⟩ | refine ⟨rfl, ?_⟩ | refine ⟨by (first | omega | (simp (disch := omega) only [wrapI]; omega) | (simp (disch := omega) only [wrapI]; simp; omega) | (simp; omega)), ?_⟩ | (intro ep) | refine ⟨_, hi, ?_⟩ | refine ⟨_, he, ?_⟩ | refine ifB (fun hb => ?_) (fun hb => ?_) | fail)))
  all_goals (obtain rfl := hb)
  all_goals (first | exact rfl | exact congrArg AV.bool (by simp))
def A93 : Ann := fun r => match r with
  | 0 => { slots := [(0, 0), (1, 1)] }
  | _ => {}

def plB (s t : Stp) : Bool := decide (s.c = t.c) && decide (s.f = t.f)
theorem plB_eq (s t : Stp) : plB s t = (s.c == t.c && s.f == t.f) := by unfold plB; rfl
set_option maxHeartbeats 1000000 in
theorem alikeStop_spec (s t : Stp) : PRet C.P 93 [.agg (stR s), .agg (stR t)] (.bool (plB s t)) := by
  rw [plB_eq]
  refine pret_of ok mixed (A := A93) 2 Try.func93 rfl ?_
  (repeat' (first | exact rfl | ((conv => whnf); first | exact rfl | refine ⟨by kernel_rfl, ?_⟩ | exact ⟨rfl, rfl⟩ | refine ⟨rfl, ?_⟩ | refine ⟨by (first | omega | (simp (disch := omega) only [wrapI]; omega) | (simp (disch := omega) only [wrapI]; simp; omega) | (simp; omega)), ?_⟩ | (intro ep) | refine ifB (fun hb => ?_) (fun hb => ?_) | fail)))
  all_goals exact congrArg AV.bool (by simp only [hb]; simp)

def A92 : Ann := fun r => match r with
  | 5 => { slots := [(3, 0)] }
  | 6 => { slots := [(4, 1)] }
  | _ => {}
set_option maxHeartbeats 1000000 in
set_option maxRecDepth 100000 in
theorem equalFunc93_spec (l m : List Stp) (hl : l.length ≤ 100000) (hyp : ∀ k (h : k < l.length), True) {R : Bool} (hR : R = eqBy plB l m) : PRet C.P 92 [stsA l, stsA m, .fn (.func 93) [] []] (.bool R) := by
  refine pret_of ok mixed (A := A92) 2 Try.func92 rfl ?_
  (repeat' (first | exact rfl | ((conv => whnf); first | exact rfl | refine ⟨by kernel_rfl, ?_⟩ | exact ⟨rfl, rfl⟩ | refine ⟨rfl, ?_⟩ | refine ⟨by (first | omega | (simp (disch := omega) only [wrapI]; omega) | (simp (disch := omega) only [wrapI]; simp; omega) | (simp; omega)), ?_⟩ | (intro ep) | fail)))
  (conv => whnf)
  refine ifB (fun g => ?_) (fun g => ?_)
  · obtain rfl : R = false := by rw [hR]; exact eqBy_len (by intro e; simp [e] at g)
    (repeat' (first | exact rfl | ((conv => whnf); first | exact rfl | refine ⟨by kernel_rfl, ?_⟩ | exact ⟨rfl, rfl⟩ | refine ⟨rfl, ?_⟩ | refine ⟨by (first | omega | (simp (disch := omega) only [wrapI]; omega) | (simp (disch := omega) only [wrapI]; simp; omega) | (simp; omega)), ?_⟩ | (intro ep) | fail)))
  have hlen : l.length = m.length := by simp at g; omega
  (repeat' (first | exact rfl | ((conv => whnf); first | exact rfl | refine ⟨by kernel_rfl, ?_⟩ | exact ⟨rfl, rfl⟩ | refine ⟨rfl, ?_⟩ | refine ⟨by (first | omega | (simp (disch := omega) only [wrapI]; omega) | (simp (disch := omega) only [wrapI]; simp; omega) | (simp; omega)), ?_⟩ | (intro ep) | fail)))
  (conv => whnf)
  refine loopM ok mixed (A := A92) [1, 2, 15, 16, 17] [] (S := EqS plB l m R)
    (fr := fun s => frOf 0 32 [(1, stsA m), (2, .fn (.func 93) [] []), (15, stsA l), (16, .int .i64 l.length), (17, .int .i64 (s.1 : Int))])
    (h := fun s => ⟨[.hole, .hole], []⟩) (μ := fun s => l.length - s.1) ⟨0, by omega, hR⟩ rfl rfl ?_
  rintro ⟨k, hk, he⟩
  show aexR _ _ _ (frOf 0 32 [(1, stsA m), (2, .fn (.func 93) [] []), (15, stsA l), (16, .int .i64 l.length), (17, .int .i64 (k : Int))]) ⟨[.hole, .hole], []⟩ _
  (conv => whnf)
  refine ifB (fun h1 => ?_) (fun h1 => ?_)
  · simp only [decide_eq_true_eq] at h1
    have h2 : k < l.length := by omega
    have h3 : k < m.length := by omega
    have hF := (fun x y (_ : True) => alikeStop_spec x y) l[k] m[k] (hyp k h2)
    (repeat' (first | exact rfl | ((conv => whnf); first | exact rfl | refine ⟨by kernel_rfl, ?_⟩ | exact ⟨rfl, rfl⟩ | refine ⟨rfl, ?_⟩ | refine ⟨by (first | omega | (simp (disch := omega) only [wrapI]; omega) | (simp (disch := omega) only [wrapI]; simp; omega) | (simp; omega)), ?_⟩ | (intro ep) | refine optS (mapR h2) ?_ | refine optS (mapR h3) ?_ | refine ⟨_, hF, ?_⟩ | fail)))
    (conv => whnf)
    refine ifB (fun g => ?_) (fun g => ?_)
    · obtain rfl := eqBy_not h2 h3 (bT g) he
      (repeat' (first | exact rfl | ((conv => whnf); first | exact rfl | refine ⟨by kernel_rfl, ?_⟩ | exact ⟨rfl, rfl⟩ | refine ⟨rfl, ?_⟩ | refine ⟨by (first | omega | (simp (disch := omega) only [wrapI]; omega) | (simp (disch := omega) only [wrapI]; simp; omega) | (simp; omega)), ?_⟩ | (intro ep) | fail)))
    · (repeat' (first | exact rfl | ((conv => whnf); first | exact rfl | refine ⟨by kernel_rfl, ?_⟩ | exact ⟨rfl, rfl⟩ | refine ⟨rfl, ?_⟩ | refine ⟨by (first | omega | (simp (disch := omega) only [wrapI]; omega) | (simp (disch := omega) only [wrapI]; simp; omega) | (simp; omega)), ?_⟩ | (intro ep) | fail)))
      (conv => whnf)
      refine back_of ⟨k + 1, by omega, eqBy_step h2 h3 (bF g) he⟩ ⟨by (first | exact rfl | (simp (disch := omega) only [wrapI]; exact rfl)), rfl, by simp only; omega⟩
  · simp only [decide_eq_false_iff_not] at h1
    obtain rfl := eqBy_end hlen (by omega) he
    (repeat' (first | exact rfl | ((conv => whnf); first | exact rfl | refine ⟨by kernel_rfl, ?_⟩ | exact ⟨rfl, rfl⟩ | refine ⟨rfl, ?_⟩ | refine ⟨by (first | omega | (simp (disch := omega) only [wrapI]; omega) | (simp (disch := omega) only [wrapI]; simp; omega) | (simp; omega)), ?_⟩ | (intro ep) | fail)))

def plE (x y : Evt) : Bool := x.tie == y.tie && eqBy plB x.stops y.stops
def A91 : Ann := fun r => match r with
  | 0 => { slots := [(0, 0), (1, 1)] }
  | _ => {}

set_option maxHeartbeats 1000000 in
theorem alikeEv_spec (x y : Evt) (hx : x.stops.length ≤ 100000) : PRet C.P 91 [.agg (evR x), .agg (evR y)] (.bool (plE x y)) := by
  have he := equalFunc93_spec x.stops y.stops hx (fun _ _ => trivial) rfl
  unfold plE
  refine pret_of ok mixed (A := A91) 2 Try.func91 rfl ?_
  (repeat' (first | exact rfl | ((conv => whnf); first | exact rfl | refine ⟨by kernel_rfl, ?_⟩ | exact ⟨rfl, rfl⟩ | refine ⟨rfl, ?_⟩ | refine ⟨by (first | omega | (simp (disch := omega) only [wrapI]; omega) | (simp (disch := omega) only [wrapI]; simp; omega) | (simp; omega)), ?_⟩ | (intro ep) | refine ⟨_, he, ?_⟩ | refine ifB (fun hb => ?_) (fun hb => ?_) | fail)))
  all_goals exact congrArg AV.bool (by simp only [hb]; simp)

set_option maxHeartbeats 1000000 in
set_option maxRecDepth 100000 in
theorem equalFunc91_spec (l m : List Evt) (hl : l.length ≤ 100000) (hyp : ∀ k (h : k < l.length), l[k].stops.length ≤ 100000) {R : Bool} (hR : R = eqBy plE l m) : PRet C.P 87 [evsA l, evsA m, .fn (.func 91) [] []] (.bool R) := by
  refine pret_of ok mixed (A := A87) 2 Try.func87 rfl ?_
  (repeat' (first | exact rfl | ((conv => whnf); first | exact rfl | refine ⟨by kernel_rfl, ?_⟩ | exact ⟨rfl, rfl⟩ | refine ⟨rfl, ?_⟩ | refine ⟨by (first | omega | (simp (disch := omega) only [wrapI]; omega) | (simp (disch := omega) only [wrapI]; simp; omega) | (simp; omega)), ?_⟩ | (intro ep) | fail)))
  (conv => whnf)
  refine ifB (fun g => ?_) (fun g => ?_)
  · obtain rfl : R = false := by rw [hR]; exact eqBy_len (by intro e; simp [e] at g)
    (repeat' (first | exact rfl | ((conv => whnf); first | exact rfl | refine ⟨by kernel_rfl, ?_⟩ | exact ⟨rfl, rfl⟩ | refine ⟨rfl, ?_⟩ | refine ⟨by (first | omega | (simp (disch := omega) only [wrapI]; omega) | (simp (disch := omega) only [wrapI]; simp; omega) | (simp; omega)), ?_⟩ | (intro ep) | fail)))
  have hlen : l.length = m.length := by simp at g; omega
  (repeat' (first | exact rfl | ((conv => whnf); first | exact rfl | refine ⟨by kernel_rfl, ?_⟩ | exact ⟨rfl, rfl⟩ | refine ⟨rfl, ?_⟩ | refine ⟨by (first | omega | (simp (disch := omega) only [wrapI]; omega) | (simp (disch := omega) only [wrapI]; simp; omega) | (simp; omega)), ?_⟩ | (intro ep) | fail)))
  (conv => whnf)
  refine loopM ok mixed (A := A87) [1, 2, 15, 16, 17] [] (S := EqS plE l m R)
    (fr := fun s => frOf 0 32 [(1, evsA m), (2, .fn (.func 91) [] []), (15, evsA l), (16, .int .i64 l.length), (17, .int .i64 (s.1 : Int))])
    (h := fun s => ⟨[.hole, .hole], []⟩) (μ := fun s => l.length - s.1) ⟨0, by omega, hR⟩ rfl rfl ?_
  rintro ⟨k, hk, he⟩
  show aexR _ _ _ (frOf 0 32 [(1, evsA m), (2, .fn (.func 91) [] []), (15, evsA l), (16, .int .i64 l.length), (17, .int .i64 (k : Int))]) ⟨[.hole, .hole], []⟩ _
  (conv => whnf)
  refine ifB (fun h1 => ?_) (fun h1 => ?_)
  · simp only [decide_eq_true_eq] at h1
    have h2 : k < l.length := by omega
    have h3 : k < m.length := by omega
    have hF := alikeEv_spec l[k] m[k] (hyp k h2)
    (repeat' (first | exact rfl | ((conv => whnf); first | exact rfl | refine ⟨by kernel_rfl, ?_⟩ | exact ⟨rfl, rfl⟩ | refine ⟨rfl, ?_⟩ | refine ⟨by (first | omega | (simp (disch := omega) only [wrapI]; omega) | (simp (disch := omega) only [wrapI]; simp; omega) | (simp; omega)), ?_⟩ | (intro ep) | refine optS (mapR h2) ?_ | refine optS (mapR h3) ?_ | refine ⟨_, hF, ?_⟩ | fail)))
    (conv => whnf)
    refine ifB (fun g => ?_) (fun g => ?_)
    · obtain rfl := eqBy_not h2 h3 (bT g) he
      (repeat' (first | exact rfl | ((conv => whnf); first | exact rfl | refine ⟨by kernel_rfl, ?_⟩ | exact ⟨rfl, rfl⟩ | refine ⟨rfl, ?_⟩ | refine ⟨by (first | omega | (simp (disch := omega) only [wrapI]; omega) | (simp (disch := omega) only [wrapI]; simp; omega) | (simp; omega)), ?_⟩ | (intro ep) | fail)))
    · (repeat' (first | exact rfl | ((conv => whnf); first | exact rfl | refine ⟨by kernel_rfl, ?_⟩ | exact ⟨rfl, rfl⟩ | refine ⟨rfl, ?_⟩ | refine ⟨by (first | omega | (simp (disch := omega) only [wrapI]; omega) | (simp (disch := omega) only [wrapI]; simp; omega) | (simp; omega)), ?_⟩ | (intro ep) | fail)))
      (conv => whnf)
      refine back_of ⟨k + 1, by omega, eqBy_step h2 h3 (bF g) he⟩ ⟨by (first | exact rfl | (simp (disch := omega) only [wrapI]; exact rfl)), rfl, by simp only; omega⟩
  · simp only [decide_eq_false_iff_not] at h1
    obtain rfl := eqBy_end hlen (by omega) he
    (repeat' (first | exact rfl | ((conv => whnf); first | exact rfl | refine ⟨by kernel_rfl, ?_⟩ | exact ⟨rfl, rfl⟩ | refine ⟨rfl, ?_⟩ | refine ⟨by (first | omega | (simp (disch := omega) only [wrapI]; omega) | (simp (disch := omega) only [wrapI]; simp; omega) | (simp; omega)), ?_⟩ | (intro ep) | fail)))
def A53 : Ann := fun r => match r with
  | 0 => { slots := [(0, 0), (1, 1)] }
  | _ => {}
set_option maxHeartbeats 1000000 in
set_option maxRecDepth 100000 in
theorem samePlaces_spec (x y : Evt) (hx : x.stops.length ≤ 100000) : PRet C.P 53 [.agg (evR x), .agg (evR y)] (.bool (eqBy plB x.stops y.stops)) := by
  obtain ⟨R1, hR1⟩ : ∃ R, R = eqBy plB x.stops y.stops := ⟨_, rfl⟩
  rw [← hR1]
  refine pret_of ok mixed (A := A53) 2 Try.func53 rfl ?_
  (conv => whnf)
  intro e0
  (conv => whnf)
  intro e1
  (repeat' (first | exact rfl | ((conv => whnf); first | exact rfl | refine ⟨by kernel_rfl, ?_⟩ | exact ⟨rfl, rfl⟩ | refine ⟨rfl, ?_⟩ | refine ⟨by (first | omega | (simp (disch := omega) only [wrapI]; omega) | (simp (disch := omega) only [wrapI]; simp; omega) | (simp; omega)), ?_⟩ | (intro ep) | refine ifB (fun hb => ?_) (fun hb => ?_) | fail)))
  · refine congrArg AV.bool ?_
    rw [hR1, eqBy_len (by intro e; simp [e] at hb)]
  have hlenR1 : x.stops.length = y.stops.length := by simp at hb; omega
  (conv => whnf)
  refine loopM ok mixed (A := A53) [2, 3, 5] [0, 1] (S := EqS plB (x.stops) (y.stops) R1)
    (fr := fun s => frOf 0 48 [(2, .optr (.s 0) e0 6 0 0), (3, .optr (.s 1) e1 6 0 0), (5, .int .i64 (s.1 : Int))])
    (h := fun s => ⟨[.vec e0 [evR x], .vec e1 [evR y]], []⟩) (μ := fun s => (x.stops).length - s.1) ⟨0, by omega, hR1⟩ rfl rfl ?_
  rintro ⟨k, hk, he⟩
  show aexR _ _ _ (frOf 0 48 [(2, .optr (.s 0) e0 6 0 0), (3, .optr (.s 1) e1 6 0 0), (5, .int .i64 (k : Int))]) ⟨[.vec e0 [evR x], .vec e1 [evR y]], []⟩ _
  (repeat' (first | exact rfl | ((conv => whnf); first | exact rfl | refine ⟨by kernel_rfl, ?_⟩ | exact ⟨rfl, rfl⟩ | refine ⟨rfl, ?_⟩ | refine ⟨by (first | omega | (simp (disch := omega) only [wrapI]; omega) | (simp (disch := omega) only [wrapI]; simp; omega) | (simp; omega)), ?_⟩ | (intro ep) | fail)))
  (conv => whnf)
  refine ifB (fun h1 => ?_) (fun h1 => ?_)
  · simp only [decide_eq_true_eq] at h1
    have h2 : k < (x.stops).length := by omega
    have h3 : k < (y.stops).length := by omega
    
    (repeat' (first | exact rfl | ((conv => whnf); first | exact rfl | refine ⟨by kernel_rfl, ?_⟩ | exact ⟨rfl, rfl⟩ | refine ⟨rfl, ?_⟩ | refine ⟨by (first | omega | (simp (disch := omega) only [wrapI]; omega) | (simp (disch := omega) only [wrapI]; simp; omega) | (simp; omega)), ?_⟩ | (intro ep) | refine optS (mapR h2) ?_ | refine optS (mapR h3) ?_ | fail)))
    (conv => whnf)
    refine ifB (fun g => ?_) (fun g => ?_)
    · obtain rfl := eqBy_not h2 h3 (by rw [plB_eq]; rw [bT g]; rfl) he
      (repeat' (first | exact rfl | ((conv => whnf); first | exact rfl | refine ⟨by kernel_rfl, ?_⟩ | exact ⟨rfl, rfl⟩ | refine ⟨rfl, ?_⟩ | refine ⟨by (first | omega | (simp (disch := omega) only [wrapI]; omega) | (simp (disch := omega) only [wrapI]; simp; omega) | (simp; omega)), ?_⟩ | (intro ep) | fail)))
    · (repeat' (first | exact rfl | ((conv => whnf); first | exact rfl | refine ⟨by kernel_rfl, ?_⟩ | exact ⟨rfl, rfl⟩ | refine ⟨rfl, ?_⟩ | refine ⟨by (first | omega | (simp (disch := omega) only [wrapI]; omega) | (simp (disch := omega) only [wrapI]; simp; omega) | (simp; omega)), ?_⟩ | (intro ep) | refine optS (mapR h2) ?_ | refine optS (mapR h3) ?_ | refine ifB (fun hb => ?_) (fun hb => ?_) | fail)))
      · refine congrArg AV.bool ?_
        rw [eqBy_not h2 h3 (by rw [plB_eq]; rw [bT hb]; simp) he]
      (conv => whnf)
      refine back_of ⟨k + 1, by omega, eqBy_step h2 h3 (by rw [plB_eq, bF g, bF hb]; rfl) he⟩ ⟨by (first | exact rfl | (simp (disch := omega) only [wrapI]; exact rfl)), rfl, by simp only; omega⟩
  simp only [decide_eq_false_iff_not] at h1
  have e := eqBy_end (f := plB) hlenR1 (by omega) he
  subst e
  (repeat' (first | exact rfl | ((conv => whnf); first | exact rfl | refine ⟨by kernel_rfl, ?_⟩ | exact ⟨rfl, rfl⟩ | refine ⟨rfl, ?_⟩ | refine ⟨by (first | omega | (simp (disch := omega) only [wrapI]; omega) | (simp (disch := omega) only [wrapI]; simp; omega) | (simp; omega)), ?_⟩ | (intro ep) | fail)))

end Go.Ab.V

/-
  Equality of pieces, on both sides: the functions that compare. No condition but the machine's bounds on lengths.
-/
namespace Go.Ab.V
open Go.Proofs

def alike (p q : Pc) : Bool := decide (chk p = 0) && decide (chk q = 0) && decide (p.ins = q.ins) && decide (onsets p = onsets q) && eqBy plE p.evs q.evs
def A47 : Ann := fun r => match r with
  | 0 => { slots := [(0, 0), (1, 1)] }
  | _ => {}
set_option maxHeartbeats 1000000 in
set_option maxRecDepth 100000 in
theorem alike_spec (p q : Pc) (hp : p.Ok) (hq : q.Ok) (hs : p.Sm) : PRet C.P 47 [pcA p, pcA q] (.bool (alike p q)) := by
  have h1 := onsets_spec p hp
  have h2 := onsets_spec q hq
  have hi := sameIn83_spec p.ins q.ins hs.two.cs hs.two.st
  have he := equalFunc91_spec p.evs q.evs hs.two.ev (fun k h => hs.two.sp _ (List.getElem_mem h)) rfl
  have ho := equalInts_spec (onsets p) (onsets q) (by rw [ons_len]; have := hs.ev; omega) rfl
  rw [eqBy_decide] at ho
  unfold onsV at h1 h2
  obtain ⟨R1, hR1⟩ : ∃ R, R = decide (p.ins = q.ins) := ⟨_, rfl⟩
  obtain ⟨R2, hR2⟩ : ∃ R, R = decide (onsets p = onsets q) := ⟨_, rfl⟩
  obtain ⟨R3, hR3⟩ : ∃ R, R = eqBy plE p.evs q.evs := ⟨_, rfl⟩
  unfold alike
  rw [← hR1] at hi ⊢
  rw [← hR2] at ho ⊢
  rw [← hR3] at he ⊢
  refine pret_of ok mixed (A := A47) 2 Try.func47 rfl ?_
  by_cases g1 : chk p = 0
  · rw [if_pos g1] at h1
    by_cases g2 : chk q = 0
    · rw [if_pos g2] at h2
      (repeat' (first | exact rfl | ((conv => whnf); first | exact rfl | refine ⟨by kernel_rfl, ?_⟩ | exact ⟨rfl, rfl⟩ | refine ⟨rfl, ?_⟩ | refine ⟨by (first | omega | (simp (disch := omega) only [wrapI]; omega) | (simp (disch := omega) only [wrapI]; simp; omega) | (simp; omega)), ?_⟩ | (intro ep) | refine ⟨_, h1, ?_⟩ | refine ⟨_, h2, ?_⟩ | refine ⟨_, hi, ?_⟩ | refine ⟨_, ho, ?_⟩ | refine ⟨_, he, ?_⟩ | refine ifB (fun hb => ?_) (fun hb => ?_) | fail)))
      all_goals first | exact congrArg AV.bool (by simp_all) | exact absurd hb (by decide)
    · rw [if_neg g2] at h2
      (repeat' (first | exact rfl | ((conv => whnf); first | exact rfl | refine ⟨by kernel_rfl, ?_⟩ | exact ⟨rfl, rfl⟩ | refine ⟨rfl, ?_⟩ | refine ⟨by (first | omega | (simp (disch := omega) only [wrapI]; omega) | (simp (disch := omega) only [wrapI]; simp; omega) | (simp; omega)), ?_⟩ | (intro ep) | refine ⟨_, h1, ?_⟩ | refine ⟨_, h2, ?_⟩ | refine ifB (fun hb => ?_) (fun hb => ?_) | fail)))
      all_goals first | exact congrArg AV.bool (by simp_all) | (exfalso; simp_all; done)
  · rw [if_neg g1] at h1
    by_cases g2 : chk q = 0
    · rw [if_pos g2] at h2
      (repeat' (first | exact rfl | ((conv => whnf); first | exact rfl | refine ⟨by kernel_rfl, ?_⟩ | exact ⟨rfl, rfl⟩ | refine ⟨rfl, ?_⟩ | refine ⟨by (first | omega | (simp (disch := omega) only [wrapI]; omega) | (simp (disch := omega) only [wrapI]; simp; omega) | (simp; omega)), ?_⟩ | (intro ep) | refine ⟨_, h1, ?_⟩ | refine ⟨_, h2, ?_⟩ | refine ifB (fun hb => ?_) (fun hb => ?_) | fail)))
      all_goals first | exact congrArg AV.bool (by simp_all) | (exfalso; simp_all; done)
    · rw [if_neg g2] at h2
      (repeat' (first | exact rfl | ((conv => whnf); first | exact rfl | refine ⟨by kernel_rfl, ?_⟩ | exact ⟨rfl, rfl⟩ | refine ⟨rfl, ?_⟩ | refine ⟨by (first | omega | (simp (disch := omega) only [wrapI]; omega) | (simp (disch := omega) only [wrapI]; simp; omega) | (simp; omega)), ?_⟩ | (intro ep) | refine ⟨_, h1, ?_⟩ | refine ⟨_, h2, ?_⟩ | refine ifB (fun hb => ?_) (fun hb => ?_) | fail)))
      all_goals first | exact congrArg AV.bool (by simp_all) | (exfalso; simp_all; done)
def A48 : Ann := fun r => match r with
  | 0 => { slots := [(0, 0), (1, 1)] }
  | _ => {}
set_option maxHeartbeats 1000000 in
set_option maxRecDepth 100000 in
theorem refAlike_spec (p q : Pc) (hp : p.Ok) (hq : q.Ok) (hs : p.Sm) (hs2 : q.Sm) : PRet C.P 48 [pcA p, pcA q] (.bool (alike p q)) := by
  have h1 := refCheck_spec p hp hs.ev
  have h2 := refCheck_spec q hq hs2.ev
  have hi := sameIn62_spec p.ins q.ins hs.two.cs hs.two.st
  have t1 := times_spec p hs
  have t2 := times_spec q hs2
  have hle := hs.ev
  have hle2 := hs2.ev
  obtain ⟨R, hR⟩ : ∃ R, R = alike p q := ⟨_, rfl⟩
  rw [← hR]
  unfold alike at hR
  obtain ⟨R1, hR1⟩ : ∃ R, R = decide (p.ins = q.ins) := ⟨_, rfl⟩
  rw [← hR1] at hi hR
  rw [← eqBy_decide (onsets p)] at hR
  obtain ⟨R2, hR2⟩ : ∃ R, R = eqBy (fun a b => decide (a = b)) (onsets p) (onsets q) := ⟨_, rfl⟩
  obtain ⟨R3, hR3⟩ : ∃ R, R = eqBy plE p.evs q.evs := ⟨_, rfl⟩
  rw [← hR2, ← hR3] at hR
  refine pret_of ok mixed (A := A48) 2 Try.func48 rfl ?_
  (conv => whnf)
  intro e0
  (conv => whnf)
  intro e1
  (repeat' (first | exact rfl | ((conv => whnf); first | exact rfl | refine ⟨by kernel_rfl, ?_⟩ | exact ⟨rfl, rfl⟩ | refine ⟨rfl, ?_⟩ | refine ⟨by (first | omega | (simp (disch := omega) only [wrapI]; omega) | (simp (disch := omega) only [wrapI]; simp; omega) | (simp; omega)), ?_⟩ | (intro ep) | refine ⟨_, h1, ?_⟩ | refine ⟨_, h2, ?_⟩ | refine ⟨_, hi, ?_⟩ | refine ifB (fun hb => ?_) (fun hb => ?_) | fail)))
  · exact congrArg AV.bool (by simp_all)
  · exact congrArg AV.bool (by simp_all)
  · exact congrArg AV.bool (by simp_all)
  · refine congrArg AV.bool ?_
    rw [hR, hR3, eqBy_len (by intro e; simp [e] at hb)]; simp
  rename_i hb3 hb2 hb1
  have hlenR3 : p.evs.length = q.evs.length := by simp at hb; omega
  have g1 : chk p = 0 := by simpa using hb3
  have g2 : chk q = 0 := by simpa using hb2
  have hlenR2 : (onsets p).length = (onsets q).length := by rw [ons_len, ons_len, hlenR3]
  have hn := ons_len p
  rw [times_onsets g1, ← hn] at t1
  rw [times_onsets g2, ← hlenR3, ← hn] at t2
  rw [bF hb1] at hR
  simp only [g1, g2, decide_true, Bool.true_and] at hR
  (repeat' (first | exact rfl | ((conv => whnf); first | exact rfl | refine ⟨by kernel_rfl, ?_⟩ | exact ⟨rfl, rfl⟩ | refine ⟨rfl, ?_⟩ | refine ⟨by (first | omega | (simp (disch := omega) only [wrapI]; omega) | (simp (disch := omega) only [wrapI]; simp; omega) | (simp; omega)), ?_⟩ | (intro ep) | refine ⟨_, t1, ?_⟩ | refine ⟨_, t2, ?_⟩ | fail)))
  (conv => whnf)
  refine loopM ok mixed (A := A48) [2, 3, 5, 6, 7] [0, 1] (S := EqS (fun a b => decide (a = b)) (onsets p) (onsets q) R2)
    (fr := fun s => frOf 0 87 [(2, .optr (.s 0) e0 3 0 0), (3, .optr (.s 1) e1 3 0 0), (5, .lslc 1 (ints (onsets p)) 0 (onsets p).length false), (6, .lslc 1 (ints (onsets q)) 0 (onsets p).length false), (7, .int .i64 (s.1 : Int))])
    (h := fun s => ⟨[.vec e0 [[crsA p.ins.cs, intsA p.ins.steps, evsA p.evs]], .vec e1 [[crsA q.ins.cs, intsA q.ins.steps, evsA q.evs]]], []⟩) (μ := fun s => (onsets p).length - s.1) ⟨0, by omega, hR2⟩ rfl rfl ?_
  rintro ⟨k, hk, he⟩
  show aexR _ _ _ (frOf 0 87 [(2, .optr (.s 0) e0 3 0 0), (3, .optr (.s 1) e1 3 0 0), (5, .lslc 1 (ints (onsets p)) 0 (onsets p).length false), (6, .lslc 1 (ints (onsets q)) 0 (onsets p).length false), (7, .int .i64 (k : Int))]) ⟨[.vec e0 [[crsA p.ins.cs, intsA p.ins.steps, evsA p.evs]], .vec e1 [[crsA q.ins.cs, intsA q.ins.steps, evsA q.evs]]], []⟩ _
  (repeat' (first | exact rfl | ((conv => whnf); first | exact rfl | refine ⟨by kernel_rfl, ?_⟩ | exact ⟨rfl, rfl⟩ | refine ⟨rfl, ?_⟩ | refine ⟨by (first | omega | (simp (disch := omega) only [wrapI]; omega) | (simp (disch := omega) only [wrapI]; simp; omega) | (simp; omega)), ?_⟩ | (intro ep) | fail)))
  (conv => whnf)
  refine ifB (fun h1 => ?_) (fun h1 => ?_)
  · simp only [decide_eq_true_eq] at h1
    have h2 : k < (onsets p).length := by omega
    have h3 : k < (onsets q).length := by omega
    
    (repeat' (first | exact rfl | ((conv => whnf); first | exact rfl | refine ⟨by kernel_rfl, ?_⟩ | exact ⟨rfl, rfl⟩ | refine ⟨rfl, ?_⟩ | refine ⟨by (first | omega | (simp (disch := omega) only [wrapI]; omega) | (simp (disch := omega) only [wrapI]; simp; omega) | (simp; omega)), ?_⟩ | (intro ep) | refine optS (intsR h2) ?_ | refine optS (intsR h3) ?_ | fail)))
    (conv => whnf)
    refine ifB (fun g => ?_) (fun g => ?_)
    · obtain e := eqBy_not h2 h3 (by simpa using g) he
      rw [e, Bool.false_and] at hR
      subst hR
      (repeat' (first | exact rfl | ((conv => whnf); first | exact rfl | refine ⟨by kernel_rfl, ?_⟩ | exact ⟨rfl, rfl⟩ | refine ⟨rfl, ?_⟩ | refine ⟨by (first | omega | (simp (disch := omega) only [wrapI]; omega) | (simp (disch := omega) only [wrapI]; simp; omega) | (simp; omega)), ?_⟩ | (intro ep) | fail)))
    · (repeat' (first | exact rfl | ((conv => whnf); first | exact rfl | refine ⟨by kernel_rfl, ?_⟩ | exact ⟨rfl, rfl⟩ | refine ⟨rfl, ?_⟩ | refine ⟨by (first | omega | (simp (disch := omega) only [wrapI]; omega) | (simp (disch := omega) only [wrapI]; simp; omega) | (simp; omega)), ?_⟩ | (intro ep) | fail)))
      (conv => whnf)
      refine back_of ⟨k + 1, by omega, eqBy_step h2 h3 (by simpa using g) he⟩ ⟨by (first | exact rfl | (simp (disch := omega) only [wrapI]; exact rfl)), rfl, by simp only; omega⟩
  simp only [decide_eq_false_iff_not] at h1
  have e := eqBy_end (f := (fun a b => decide (a = b))) hlenR2 (by omega) he
  rw [e, Bool.true_and] at hR
  (repeat' (first | exact rfl | ((conv => whnf); first | exact rfl | refine ⟨by kernel_rfl, ?_⟩ | exact ⟨rfl, rfl⟩ | refine ⟨rfl, ?_⟩ | refine ⟨by (first | omega | (simp (disch := omega) only [wrapI]; omega) | (simp (disch := omega) only [wrapI]; simp; omega) | (simp; omega)), ?_⟩ | (intro ep) | fail)))
  (conv => whnf)
  refine loopM ok mixed (A := A48) [2, 3, 8] [0, 1] (S := EqS plE (p.evs) (q.evs) R3)
    (fr := fun s => frOf 0 87 [(2, .optr (.s 0) e0 3 0 0), (3, .optr (.s 1) e1 3 0 0), (8, .int .i64 (s.1 : Int))])
    (h := fun s => ⟨[.vec e0 [[crsA p.ins.cs, intsA p.ins.steps, evsA p.evs]], .vec e1 [[crsA q.ins.cs, intsA q.ins.steps, evsA q.evs]]], []⟩) (μ := fun s => (p.evs).length - s.1) ⟨0, by omega, hR3⟩ rfl rfl ?_
  rintro ⟨k, hk, he⟩
  show aexR _ _ _ (frOf 0 87 [(2, .optr (.s 0) e0 3 0 0), (3, .optr (.s 1) e1 3 0 0), (8, .int .i64 (k : Int))]) ⟨[.vec e0 [[crsA p.ins.cs, intsA p.ins.steps, evsA p.evs]], .vec e1 [[crsA q.ins.cs, intsA q.ins.steps, evsA q.evs]]], []⟩ _
  (repeat' (first | exact rfl | ((conv => whnf); first | exact rfl | refine ⟨by kernel_rfl, ?_⟩ | exact ⟨rfl, rfl⟩ | refine ⟨rfl, ?_⟩ | refine ⟨by (first | omega | (simp (disch := omega) only [wrapI]; omega) | (simp (disch := omega) only [wrapI]; simp; omega) | (simp; omega)), ?_⟩ | (intro ep) | fail)))
  (conv => whnf)
  refine ifB (fun h1 => ?_) (fun h1 => ?_)
  · simp only [decide_eq_true_eq] at h1
    have h2 : k < (p.evs).length := by omega
    have h3 : k < (q.evs).length := by omega
    have hF := samePlaces_spec p.evs[k] q.evs[k] (hs.two.sp _ (List.getElem_mem h2))
    (repeat' (first | exact rfl | ((conv => whnf); first | exact rfl | refine ⟨by kernel_rfl, ?_⟩ | exact ⟨rfl, rfl⟩ | refine ⟨rfl, ?_⟩ | refine ⟨by (first | omega | (simp (disch := omega) only [wrapI]; omega) | (simp (disch := omega) only [wrapI]; simp; omega) | (simp; omega)), ?_⟩ | (intro ep) | refine optS (mapR h2) ?_ | refine optS (mapR h3) ?_ | fail)))
    (conv => whnf)
    refine ifB (fun g => ?_) (fun g => ?_)
    · obtain e := eqBy_not h2 h3 (by unfold plE; rw [bT g]; rfl) he
      subst e
      subst hR
      (repeat' (first | exact rfl | ((conv => whnf); first | exact rfl | refine ⟨by kernel_rfl, ?_⟩ | exact ⟨rfl, rfl⟩ | refine ⟨rfl, ?_⟩ | refine ⟨by (first | omega | (simp (disch := omega) only [wrapI]; omega) | (simp (disch := omega) only [wrapI]; simp; omega) | (simp; omega)), ?_⟩ | (intro ep) | fail)))
    · (repeat' (first | exact rfl | ((conv => whnf); first | exact rfl | refine ⟨by kernel_rfl, ?_⟩ | exact ⟨rfl, rfl⟩ | refine ⟨rfl, ?_⟩ | refine ⟨by (first | omega | (simp (disch := omega) only [wrapI]; omega) | (simp (disch := omega) only [wrapI]; simp; omega) | (simp; omega)), ?_⟩ | (intro ep) | refine optS (mapR h2) ?_ | refine optS (mapR h3) ?_ | refine ⟨_, hF, ?_⟩ | refine ifB (fun hb => ?_) (fun hb => ?_) | fail)))
      · refine congrArg AV.bool ?_
        rw [hR, eqBy_not h2 h3 (by unfold plE; rw [bT hb]; simp) he]
      (conv => whnf)
      refine back_of ⟨k + 1, by omega, eqBy_step h2 h3 (by unfold plE; rw [bF g, bF hb]; rfl) he⟩ ⟨by (first | exact rfl | (simp (disch := omega) only [wrapI]; exact rfl)), rfl, by simp only; omega⟩
  simp only [decide_eq_false_iff_not] at h1
  have e := eqBy_end (f := plE) hlenR3 (by omega) he
  subst e
  subst hR
  (repeat' (first | exact rfl | ((conv => whnf); first | exact rfl | refine ⟨by kernel_rfl, ?_⟩ | exact ⟨rfl, rfl⟩ | refine ⟨rfl, ?_⟩ | refine ⟨by (first | omega | (simp (disch := omega) only [wrapI]; omega) | (simp (disch := omega) only [wrapI]; simp; omega) | (simp; omega)), ?_⟩ | (intro ep) | fail)))

theorem eqBy_refl {α : Type} {f : α → α → Bool} (h : ∀ x, f x x = true) : ∀ l, eqBy f l l = true
  | [] => rfl
  | x :: l => by rw [eqBy, h x, eqBy_refl h l]; rfl
theorem alike_refl (q : Pc) : alike q q = decide (chk q = 0) := by
  unfold alike
  rw [eqBy_refl fun x => by unfold plE; rw [eqBy_refl fun s => by simp [plB]]; simp]
  simp

def A11 : Ann := fun r => match r with
  | 0 => { slots := [(0, 0), (1, 1)] }
  | 3 => { slots := [(4, 2), (5, 3)] }
  | _ => {}
set_option maxHeartbeats 4000000 in
set_option maxRecDepth 100000 in
theorem law_compares (p q : Pc) (hp : p.Ok) (hq : q.Ok) : ACalls C.P 11 [pcA p, pcA q] Heap.nil fun r _ => r = .bool true := by
  have b1 := big_spec p hp
  have b2 := big_spec q hq
  cases g1 : bigB p
  · cases g2 : bigB q
    · rw [g1] at b1
      rw [g2] at b2
      have s1 := Pc.Sm.of_big g1
      have s2 := Pc.Sm.of_big g2
      have c1 := copy_spec p s1
      have c2 := copy_spec q s2
      have e1 := same_spec p q s1.two
      have e2 := refSame_spec p q s1.two
      have e3 := alike_spec p q hp hq s1
      have e4 := refAlike_spec p q hp hq s1 s2
      have e5 := same_spec p p s1.two
      have e6 := alike_spec q q hq hq s2
      have e7 := refCheck_spec q hq s2.ev
      rw [show decide (p = p) = true by simp] at e5
      rw [alike_refl] at e6
      obtain ⟨R1, hR1⟩ : ∃ R, R = decide (p = q) := ⟨_, rfl⟩
      obtain ⟨R2, hR2⟩ : ∃ R, R = alike p q := ⟨_, rfl⟩
      rw [← hR1] at e1 e2
      rw [← hR2] at e3 e4
      refine fn_of ok mixed (A := A11) 4 Try.func11 rfl ?_
      (repeat' (first | exact rfl | ((conv => whnf); first | exact rfl | refine ⟨by kernel_rfl, ?_⟩ | exact ⟨rfl, rfl⟩ | refine ⟨rfl, ?_⟩ | refine ⟨by (first | omega | (simp (disch := omega) only [wrapI]; omega) | (simp (disch := omega) only [wrapI]; simp; omega) | (simp; omega)), ?_⟩ | (intro ep) | refine ⟨_, b1, ?_⟩ | refine ⟨_, b2, ?_⟩ | refine ⟨_, c1, ?_⟩ | refine ⟨_, c2, ?_⟩ | refine ⟨_, e1, ?_⟩ | refine ⟨_, e2, ?_⟩ | refine ⟨_, e3, ?_⟩ | refine ⟨_, e4, ?_⟩ | refine ⟨_, e5, ?_⟩ | refine ⟨_, e6, ?_⟩ | refine ⟨_, e7, ?_⟩ | refine ⟨_, works_spec, ?_⟩ | refine ifB (fun hb => ?_) (fun hb => ?_) | fail)))
      all_goals exfalso
      all_goals first | (simp at hb; done) | (have e : decide (chk q = 0) = (chk q == 0) := rfl; rw [e] at hb; simp at hb; done)
    · rw [g1] at b1
      rw [g2] at b2
      refine fn_of ok mixed (A := A11) 4 Try.func11 rfl ?_
      (repeat' (first | exact rfl | ((conv => whnf); first | exact rfl | refine ⟨by kernel_rfl, ?_⟩ | exact ⟨rfl, rfl⟩ | refine ⟨rfl, ?_⟩ | refine ⟨by (first | omega | (simp (disch := omega) only [wrapI]; omega) | (simp (disch := omega) only [wrapI]; simp; omega) | (simp; omega)), ?_⟩ | (intro ep) | refine ⟨_, b1, ?_⟩ | refine ⟨_, b2, ?_⟩ | refine ⟨_, works_spec, ?_⟩ | (refine ifB (fun hb => ?_) (fun hb => ?_) <;> (try simp only [decide_eq_true_eq, decide_eq_false_iff_not, beq_iff_eq, beq_eq_false_iff_ne, bne_iff_ne, bne_eq_false_iff_eq, ne_eq, not_false_eq_true, not_true_eq_false, Bool.not_eq_true, Bool.not_eq_true', Bool.not_eq_false', Int.not_lt, Int.not_le] at hb) <;> (try simp (disch := omega) only [wrapI] at hb) <;> (try (exfalso; omega))) | fail)))
  · rw [g1] at b1
    refine fn_of ok mixed (A := A11) 4 Try.func11 rfl ?_
    (repeat' (first | exact rfl | ((conv => whnf); first | exact rfl | refine ⟨by kernel_rfl, ?_⟩ | exact ⟨rfl, rfl⟩ | refine ⟨rfl, ?_⟩ | refine ⟨by (first | omega | (simp (disch := omega) only [wrapI]; omega) | (simp (disch := omega) only [wrapI]; simp; omega) | (simp; omega)), ?_⟩ | (intro ep) | refine ⟨_, b1, ?_⟩ | refine ⟨_, works_spec, ?_⟩ | (refine ifB (fun hb => ?_) (fun hb => ?_) <;> (try simp only [decide_eq_true_eq, decide_eq_false_iff_not, beq_iff_eq, beq_eq_false_iff_ne, bne_iff_ne, bne_eq_false_iff_eq, ne_eq, not_false_eq_true, not_true_eq_false, Bool.not_eq_true, Bool.not_eq_true', Bool.not_eq_false', Int.not_lt, Int.not_le] at hb) <;> (try simp (disch := omega) only [wrapI] at hb) <;> (try (exfalso; omega))) | fail)))

end Go.Ab.V
