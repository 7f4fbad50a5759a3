/-
  What is proved here serves the law's text: each part says its own claim and its conditions. No condition is left open.
-/
import Derived.Test.YtgnhnapnjmbieaaKN
import Derived.Test.YtgnhnapnjmbieaaKF
import Derived.Test.YtgnhnapnjmbieaaKM
set_option linter.unusedSimpArgs false
set_option linter.unusedVariables false

/-
  When a piece is valid, event by event; cut and joined pieces are valid. Plain Lean. No condition.
-/
namespace Go.Ab.V
open Go.Proofs

theorem chkEvs_iff {p : Pc} : ∀ {l : List Evt} {k : Nat}, chkEvs p k l = 0 ↔ ∀ j (h : j < l.length), chkEv p (k + j) l[j] = 0
  | [], k => by simp [chkEvs]
  | e :: r, k => by
    unfold chkEvs
    constructor
    · intro h j hj
      split at h
      · rename_i h0
        cases j with
        | zero => exact h0
        | succ j =>
          have := (chkEvs_iff.1 h) j (by simpa using hj)
          rw [show k + (j + 1) = k + 1 + j by omega]
          exact this
      · rename_i h0; exact absurd h h0
    · intro h
      have h0 : chkEv p k e = 0 := h 0 (by simp)
      rw [if_pos h0]
      refine chkEvs_iff.2 fun j hj => ?_
      have := h (j + 1) (by simpa using hj)
      rw [show k + 1 + j = k + (j + 1) by omega]
      exact this
theorem chk_iff {p : Pc} : chk p = 0 ↔ chkIn p.ins = 0 ∧ p.evs.length ≤ 400 ∧ ∀ j (h : j < p.evs.length), chkEv p j p.evs[j] = 0 := by
  unfold chk
  constructor
  · intro h
    split at h
    · rename_i h1
      split at h
      · cases h
      · refine ⟨h1, by omega, fun j hj => ?_⟩
        have := chkEvs_iff.1 h j hj
        rwa [Nat.zero_add] at this
    · rename_i h1; exact absurd h h1
  · rintro ⟨h1, h2, h3⟩
    rw [if_pos h1, if_neg (by omega)]
    refine chkEvs_iff.2 fun j hj => ?_
    rw [Nat.zero_add]
    exact h3 j hj
/-- the stops of an event are valid, the greatest holds being lg -/
def StpsOk (i : Ins) (lg : Int → Int) : Int → List Stp → Prop
  | _, [] => True
  | last, s :: r => chkStop i (lg s.c) s last = 0 ∧ StpsOk i lg s.c r
theorem chkStops_iff {p : Pc} {k : Nat} : ∀ {l : List Stp} {last : Int}, chkStops p k last l = 0 ↔ StpsOk p.ins (fun c => longest p.evs k c) last l
  | [], last => by simp [chkStops, StpsOk]
  | s :: r, last => by
    unfold chkStops StpsOk
    constructor
    · intro h
      split at h
      · rename_i h0; exact ⟨h0, chkStops_iff.1 h⟩
      · rename_i h0; exact absurd h h0
    · rintro ⟨h0, h⟩
      rw [if_pos h0]
      exact chkStops_iff.2 h
theorem chkEv_iff {p : Pc} {k : Nat} {e : Evt} : chkEv p k e = 0 ↔ right e.v e.d e.t = true ∧ ¬ (k = 0 ∧ e.v = 0) ∧ ¬ (e.tie = true ∧ (k = 0 ∨ 0 < e.stops.length)) ∧ StpsOk p.ins (fun c => longest p.evs k c) 0 e.stops := by
  unfold chkEv
  constructor
  · intro h
    split at h
    · cases h
    · rename_i h1
      split at h
      · cases h
      · rename_i h2
        refine ⟨?_, fun x => h1 (.inr x), h2, chkStops_iff.1 h⟩
        cases hr : right e.v e.d e.t
        · exact absurd (.inl hr) h1
        · rfl
  · rintro ⟨h1, h2, h3, h4⟩
    rw [if_neg (by rintro (h | h); · rw [h1] at h; cases h
                   · exact h2 h), if_neg h3]
    exact chkStops_iff.2 h4
theorem chkStop_iff {i : Ins} {lg last : Int} {s : Stp} : chkStop i lg s last = 0 ↔ (1 ≤ s.c ∧ s.c ≤ i.cs.length) ∧ (0 ≤ s.f ∧ s.f ≤ fretsOf i s.c) ∧ last < s.c ∧ (0 ≤ s.r ∧ s.r ≤ 3 ∧ 0 ≤ s.g ∧ s.g ≤ 4) ∧ (0 ≤ s.h ∧ s.h ≤ lg ∧ (0 < s.h → s.f ≠ 0)) := by
  unfold chkStop
  constructor
  · intro h
    repeat' (split at h; · cases h)
    omega
  · intro h
    rw [if_neg (by omega), if_neg (by omega), if_neg (by omega), if_neg (by omega), if_neg (by omega)]
theorem longest_at {l : List Evt} {k : Nat} (h : k < l.length) (c : Int) : longest l k c = (longL c 15 (l.drop (k + 1)) : Nat) := by
  unfold longest
  rw [if_neg (by omega)]
  congr 3
end Go.Ab.V

/-
  The sign of so many ticks, on both sides. No condition.
-/
namespace Go.Ab.V
open Go.Proofs

def sgs : List Sgn := allS.map fun s => ⟨s.1, s.2.1, s.2.2⟩
theorem allRows_sgs : allRows = sgs.map sgnR := rfl
theorem sgs_len : sgs.length = 21 := by decide
end Go.Ab.V

/-
  What Join makes of the events of a piece. Plain Lean. No condition.
-/
namespace Go.Ab.V
open Go.Proofs

def tkE (e : Evt) : Int := ticks e.v e.d e.t
/-- the holds of a valid piece stop within it -/
theorem longL_len (c : Int) : ∀ (n : Nat) (l : List Evt), longL c n l ≤ l.length
  | 0, _ => by simp [longL]
  | n + 1, [] => by simp [longL]
  | n + 1, e :: r => by
    simp only [longL, List.length_cons]
    split
    · omega
    · have := longL_len c n r; omega
theorem stps_h {i : Ins} {lg : Int → Int} {b : Int} (h : ∀ c, lg c ≤ b) : ∀ {l : List Stp} {last : Int}, StpsOk i lg last l → ∀ s ∈ l, 0 ≤ s.h ∧ s.h ≤ b
  | [], _, _, s, hs => by cases hs
  | a :: r, last, ⟨h1, h2⟩, s, hs => by
    rcases List.mem_cons.1 hs with rfl | hs
    · rw [chkStop_iff] at h1
      have := h s.c
      omega
    · exact stps_h h h2 s hs
theorem chk_holds {p : Pc} (hc : chk p = 0) {k : Nat} (h : k < p.evs.length) : ∀ s ∈ (p.evs[k]).stops, 0 ≤ s.h ∧ k + 1 + s.h.toNat ≤ p.evs.length := by
  intro s hs
  have h1 := (chkEv_iff.1 ((chk_iff.1 hc).2.2 k h)).2.2.2
  have := stps_h (b := ((p.evs.length - (k + 1) : Nat) : Int)) (fun c => by
    rw [longest_at h]
    have := longL_len c 15 (p.evs.drop (k + 1))
    rw [List.length_drop] at this
    omega) h1 s hs
  omega

end Go.Ab.V

/-
  The program's Join. No condition but the machine's bounds on lengths.
-/
namespace Go.Ab.V
open Go.Proofs

/-- kept away from omega -/
def Hid (p : Prop) : Prop := p
theorem Hid.get {p : Prop} (h : Hid p) : p := h
end Go.Ab.V

/-
  The document's Join. No condition but the machine's bounds on lengths.
-/
namespace Go.Ab.V
open Go.Proofs

/-- rows whose stops lie where the events come from -/
def rowJ (eps : Nat → Nat) (i : Nat) (e : Evt) : List AV := evX e (.oslc (.d (0 + memL.c * (0 + i))) (eps (0 + i)) 5 0 e.stops.length false)
theorem evX_fz {eps : Nat → Nat} {X : List AObj} {i : Nat} {e : Evt} {ss : List Stp} (hl : ss.length = e.stops.length) (h : X[0 + memL.c * (0 + i)]? = some (.vec (eps (0 + i)) (ss.map stR))) : (rowJ eps i e).map (fzC2 X) = evR (evS e ss) := by
  show [AV.bool e.bar, .int .i64 e.v, .bool e.d, .bool e.t, .bool e.tie, fzC2 X (.oslc (.d (0 + memL.c * (0 + i))) (eps (0 + i)) 5 0 e.stops.length false)] = _
  have : fzC2 X (.oslc (.d (0 + memL.c * (0 + i))) (eps (0 + i)) 5 0 e.stops.length false) = stsA ss := by
    simp only [fzC2, h, if_pos, ← hl]
    rfl
  rw [this]
  rfl
end Go.Ab.V

/-
  The law PieceRewrites. No condition.
-/
namespace Go.Ab.V
open Go.Proofs

end Go.Ab.V
