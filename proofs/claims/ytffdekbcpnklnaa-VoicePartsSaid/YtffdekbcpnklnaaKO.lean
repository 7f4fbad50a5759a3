/-
  What is proved here serves the law's text: each part says its own claim and its conditions. No condition is left open.
-/
import Derived.Test.YtffdekbcpnklnaaKN
set_option linter.unusedSimpArgs false
set_option linter.unusedVariables false

/-
  The stretches of notes of one event. No condition but the lengths.
-/
namespace Go.Ab.V
open Go.Proofs

def both (x : Lm) (n : List Nt) : Int := if chkL x ≠ 0 then chkL x else chkN n
def A51 : Ann := fun r => match r with
  | 0 => { slots := [(0, 0)] }
  | _ => {}
set_option maxHeartbeats 4000000 in
set_option maxRecDepth 100000 in
theorem check51_spec (x : Lm) (n : List Nt) (hl : x.lo.length ≤ 9223372036854775807) (hh : x.hi.length ≤ 9223372036854775807) (h3 : n.length ≤ 9223372036854775807) : PRet C.P 51 [lmA x, ntsA n] (.int .i64 (both x n)) := by
  have a1 := check_spec x hl hh
  have b1 := checkNotes_spec n h3
  unfold both
  generalize chkL x = a at a1
  generalize chkN n = b at b1
  by_cases h : a = 0
  · rw [if_neg (by omega)]
    refine pret_of ok mixed (A := A51) 1 Try.func51 rfl ?_
    (repeat' (first | exact rfl | ((conv => whnf); first | refine ⟨_, a1, ?_⟩ | refine ⟨_, b1, ?_⟩ | exact rfl | refine ⟨by kernel_rfl, ?_⟩ | exact ⟨rfl, rfl⟩ | refine ⟨rfl, ?_⟩ | refine ⟨by (first | omega | (simp (disch := omega) only [wrapI]; omega) | (simp (disch := omega) only [wrapI]; simp; omega) | (simp; omega)), ?_⟩ | (intro ep) | (refine ifB (fun hb => ?_) (fun hb => ?_) <;> (try simp only [decide_eq_true_eq, decide_eq_false_iff_not, beq_iff_eq, beq_eq_false_iff_ne, bne_iff_ne, bne_eq_false_iff_eq, ne_eq, not_false_eq_true, not_true_eq_false, Bool.not_eq_true, Bool.not_eq_true', Bool.not_eq_false', Int.not_lt, Int.not_le] at hb) <;> (try simp (disch := omega) only [wrapI] at hb) <;> (try (exfalso; omega))) | fail)))
  · rw [if_pos h]
    refine pret_of ok mixed (A := A51) 1 Try.func51 rfl ?_
    (repeat' (first | exact rfl | ((conv => whnf); first | refine ⟨_, a1, ?_⟩ | refine ⟨_, b1, ?_⟩ | exact rfl | refine ⟨by kernel_rfl, ?_⟩ | exact ⟨rfl, rfl⟩ | refine ⟨rfl, ?_⟩ | refine ⟨by (first | omega | (simp (disch := omega) only [wrapI]; omega) | (simp (disch := omega) only [wrapI]; simp; omega) | (simp; omega)), ?_⟩ | (intro ep) | (refine ifB (fun hb => ?_) (fun hb => ?_) <;> (try simp only [decide_eq_true_eq, decide_eq_false_iff_not, beq_iff_eq, beq_eq_false_iff_ne, bne_iff_ne, bne_eq_false_iff_eq, ne_eq, not_false_eq_true, not_true_eq_false, Bool.not_eq_true, Bool.not_eq_true', Bool.not_eq_false', Int.not_lt, Int.not_le] at hb) <;> (try simp (disch := omega) only [wrapI] at hb) <;> (try (exfalso; omega))) | fail)))
set_option maxHeartbeats 4000000 in
set_option maxRecDepth 100000 in
theorem both56_spec (x : Lm) (n : List Nt) (hl : x.lo.length ≤ 9223372036854775807) (hh : x.hi.length ≤ 9223372036854775807) (h3 : n.length ≤ 9223372036854775807) : PRet C.P 56 [lmA x, ntsA n] (.int .i64 (both x n)) := by
  have a1 := refCheck_spec x hl hh
  have b1 := refCheckNotes_spec n h3
  unfold both
  generalize chkL x = a at a1
  generalize chkN n = b at b1
  by_cases h : a = 0
  · rw [if_neg (by omega)]
    refine pret_of ok mixed (A := A51) 1 Try.func56 rfl ?_
    (repeat' (first | exact rfl | ((conv => whnf); first | refine ⟨_, a1, ?_⟩ | refine ⟨_, b1, ?_⟩ | exact rfl | refine ⟨by kernel_rfl, ?_⟩ | exact ⟨rfl, rfl⟩ | refine ⟨rfl, ?_⟩ | refine ⟨by (first | omega | (simp (disch := omega) only [wrapI]; omega) | (simp (disch := omega) only [wrapI]; simp; omega) | (simp; omega)), ?_⟩ | (intro ep) | (refine ifB (fun hb => ?_) (fun hb => ?_) <;> (try simp only [decide_eq_true_eq, decide_eq_false_iff_not, beq_iff_eq, beq_eq_false_iff_ne, bne_iff_ne, bne_eq_false_iff_eq, ne_eq, not_false_eq_true, not_true_eq_false, Bool.not_eq_true, Bool.not_eq_true', Bool.not_eq_false', Int.not_lt, Int.not_le] at hb) <;> (try simp (disch := omega) only [wrapI] at hb) <;> (try (exfalso; omega))) | fail)))
  · rw [if_pos h]
    refine pret_of ok mixed (A := A51) 1 Try.func56 rfl ?_
    (repeat' (first | exact rfl | ((conv => whnf); first | refine ⟨_, a1, ?_⟩ | refine ⟨_, b1, ?_⟩ | exact rfl | refine ⟨by kernel_rfl, ?_⟩ | exact ⟨rfl, rfl⟩ | refine ⟨rfl, ?_⟩ | refine ⟨by (first | omega | (simp (disch := omega) only [wrapI]; omega) | (simp (disch := omega) only [wrapI]; simp; omega) | (simp; omega)), ?_⟩ | (intro ep) | (refine ifB (fun hb => ?_) (fun hb => ?_) <;> (try simp only [decide_eq_true_eq, decide_eq_false_iff_not, beq_iff_eq, beq_eq_false_iff_ne, bne_iff_ne, bne_eq_false_iff_eq, ne_eq, not_false_eq_true, not_true_eq_false, Bool.not_eq_true, Bool.not_eq_true', Bool.not_eq_false', Int.not_lt, Int.not_le] at hb) <;> (try simp (disch := omega) only [wrapI] at hb) <;> (try (exfalso; omega))) | fail)))

/-- how many notes at the beginning have this event -/
def run1 (e : Int) : List Nt → Nat
  | [] => 0
  | n :: r => if n.e = e then run1 e r + 1 else 0
theorem run1_le (e : Int) : ∀ l : List Nt, run1 e l ≤ l.length
  | [] => Nat.le_refl _
  | n :: r => by
    unfold run1
    split
    · have := run1_le e r; simp; omega
    · exact Nat.zero_le _
/-- the stretches: where each begins, and how many notes it has -/
def segF (e : Int) (s i : Nat) : List Nt → List (Nat × Nat)
  | [] => [(s, i - s)]
  | n :: r => if n.e = e then segF e s (i + 1) r else (s, i - s) :: segF n.e i (i + 1) r
def segR (o : Nat) : List Nt → List (Nat × Nat)
  | [] => []
  | n :: r => segF n.e o (o + 1) r
theorem segF_run (e : Int) (s : Nat) : ∀ (i : Nat) (l : List Nt), segF e s i l = (s, i + run1 e l - s) :: segR (i + run1 e l) (l.drop (run1 e l))
  | i, [] => by simp [segF, run1, segR]
  | i, n :: r => by
    unfold segF run1
    split
    · rename_i h
      rw [segF_run e s (i + 1) r, List.drop_succ_cons, show i + (run1 e r + 1) = i + 1 + run1 e r by omega]
    · simp [segR]
theorem segR_cons (o : Nat) (n : Nt) (r : List Nt) : segR o (n :: r) = (o, run1 n.e r + 1) :: segR (o + (run1 n.e r + 1)) ((n :: r).drop (run1 n.e r + 1)) := by
  rw [List.drop_succ_cons]
  show segF n.e o (o + 1) r = _
  rw [segF_run, show o + 1 + run1 n.e r - o = run1 n.e r + 1 by omega, show o + 1 + run1 n.e r = o + (run1 n.e r + 1) by omega]
/-- a chain of stretches -/
def Chain (L : Nat) : Nat → List (Nat × Nat) → Prop
  | o, [] => o = L
  | o, (a, n) :: r => a = o ∧ 0 < n ∧ Chain L (o + n) r
theorem chain_segR : ∀ (k o : Nat) (l : List Nt), l.length ≤ k → Chain (o + l.length) o (segR o l)
  | k, o, [], _ => by simp [segR, Chain]
  | 0, o, n :: r, h => by simp at h
  | k + 1, o, n :: r, h => by
    rw [segR_cons]
    have hr := run1_le n.e r
    refine ⟨rfl, Nat.succ_pos _, ?_⟩
    have := chain_segR k (o + (run1 n.e r + 1)) ((n :: r).drop (run1 n.e r + 1)) (by simp at h ⊢; omega)
    simp only [List.length_drop, List.length_cons] at this ⊢
    rwa [show o + (run1 n.e r + 1) + (r.length + 1 - (run1 n.e r + 1)) = o + (r.length + 1) by omega] at this
theorem run1_at {e : Int} : ∀ {l : List Nt} {k : Nat}, k < run1 e l → ∃ h : k < l.length, (l[k]'h).e = e
  | [], k, h => by simp [run1] at h
  | n :: r, 0, h => by
    unfold run1 at h
    split at h
    · rename_i x; exact ⟨by simp, x⟩
    · omega
  | n :: r, k + 1, h => by
    unfold run1 at h
    split at h
    · obtain ⟨x, y⟩ := run1_at (e := e) (l := r) (k := k) (by omega)
      exact ⟨by simpa using x, by simpa using y⟩
    · omega
theorem run1_end {e : Int} : ∀ {l : List Nt} (h : run1 e l < l.length), (l[run1 e l]'h).e ≠ e
  | [], h => by simp [run1] at h
  | n :: r, h => by
    by_cases x : n.e = e
    · have h1 : run1 e (n :: r) = run1 e r + 1 := by rw [run1, if_pos x]
      have := run1_end (e := e) (l := r) (by rw [h1] at h; simpa using h)
      simp only [h1, List.getElem_cons_succ]
      exact this
    · have h1 : run1 e (n :: r) = 0 := by rw [run1, if_neg x]
      simp only [h1, List.getElem_cons_zero]
      exact x
end Go.Ab.V
