/-
  What is proved here serves the law's text: each part says its own claim and its conditions. No condition is left open.
-/
import Derived.Lib.RowBridge
import Derived.Laws.AppendOwn
import Derived.Test.YtffdekbcpnklnaaKP
import Derived.Test.YtffdekbcpnklnaaKQ
import Derived.Test.YtffdekbcpnklnaaKO
set_option linter.unusedSimpArgs false
set_option linter.unusedVariables false

/-
  Sort, Compact and Grow at this program, as calls in abstract terms. No condition but the lengths.
-/
namespace Go.Ab.V
open Go.Proofs Go.Sort

theorem sort68 {h : Heap} {id : Id} {ep : Nat} {zs : List Int} (ho : h[id]? = some (.vec ep (ints zs))) (hl : zs.length < 4611686018427387904) :
    ACalls C.P 68 [.oslc id ep 1 0 zs.length false] h fun r h' => r = .tup [] ∧ h' = h.set id (.vec ep (ints (srt zs))) :=
  sort_acalls (P := Try.prog) (f := 68) (fun blk off cap zs w hH hb hz => Any.slices_Sort_int Try.lays189 blk off cap zs w hH hb hz) (fun p cap w => Any.slices_Sort_int_none Try.lays189 p cap w) ho hl
def cpt (zs : List Int) : List Int := Lib.compact zs
theorem cpt_nil : cpt [] = [] := rfl
theorem compact69 {h : Heap} {id : Id} {ep : Nat} {zs : List Int} (ho : h[id]? = some (.vec ep (ints zs))) (hl : zs.length ≤ 9223372036854775807) :
    ACalls C.P 69 [.oslc id ep 1 0 zs.length false] h fun r h' => r = .oslc id ep 1 0 (cpt zs).length false ∧ h' = h.set id (.vec ep (ints (cpt zs ++ List.replicate (zs.length - (cpt zs).length) 0))) :=
  compact_acalls (P := Try.prog) (f := 69) cpt_nil (fun zs => Lib.compact_length_le zs) (fun blk off cap zs w hH h1 h2 => Any.slices_Compact_int Try.laysCompact blk off cap zs w hH h1 h2) (fun p cap w => Any.slices_Compact_int_empty Try.laysCompact p cap w) ho hl
theorem info83 : (Try.prog.info? 83).map (fun i => (i.zero, i.size, i.bytes)) = some (some (.agg #[.int .i64 0, .int .i64 0, .int .i64 0]), 3, 24) := by kernel_rfl
theorem grow80 {h : Heap} {n : Nat} (hn : n ≤ 1000000) : ACalls C.P 80 [.nils, .int .i64 n] h fun r h' => ∃ ep, r = .oslc (.d h.dy.length) ep 3 0 0 false ∧ h' = ⟨h.st, h.dy ++ [.vec ep []]⟩ := by
  refine grow_acalls (P := Try.prog) (f := 80) (sz := 3) (fun n w h0 hn => ?_) (fun w => ?_) hn
  · have h := info83
    obtain ⟨i0, hi⟩ : ∃ i0, Try.prog.info? 83 = some i0 := by
      cases hh : Try.prog.info? 83 with
      | none => rw [hh] at h; cases h
      | some i0 => exact ⟨i0, rfl⟩
    rw [hi] at h
    simp only [Option.map_some, Option.some.injEq, Prod.mk.injEq] at h
    obtain ⟨hz, hs, hb⟩ := h
    have := Any8.slices_Grow_grow Try.laysGrow i0 _ hi hz (by omega) none 0 0 n [] w (Nat.le_refl _) (by omega) (by rw [hb]; omega) (by omega) (by simp) (fun _ => rfl) (fun a x => by cases x)
    refine this.mono ?_
    rintro e w' ⟨rfl, rfl⟩
    refine ⟨_, _, _, ?_, rfl, rfl⟩
    simp only [Array.size_append, size_zeroCells, Value.cells]
    have hg := grownCap_ge w n 0 (Try.laysGrow_ren.t 25)
    simp
    omega
  · have := Any8.slices_Grow_room Try.laysGrow none 0 0 0 w (Nat.le_refl _) (by omega) (by omega) (Nat.le_refl _)
    exact this
end Go.Ab.V

/-
  Motions, comparing, and where a part stands at a time. No condition but the lengths.
-/
namespace Go.Ab.V
open Go.Proofs

/-- the motion of two parts -/
def mot (a b : Int) : Int := if a = 0 ∧ b = 0 then 5 else if a = 0 ∨ b = 0 then 1 else if decide (0 < a) ≠ decide (0 < b) then 2 else if a = b then 4 else 3
def cmpI (a b : Int) : Int := if a < b then -1 else if b < a then 1 else 0
def A71 : Ann := fun _ => {}
def A93 : Ann := fun _ => {}
def A84 : Ann := fun _ => {}
def A107 : Ann := fun _ => {}
def A91 : Ann := fun r => match r with
  | 0 => { slots := [(0, 0)] }
  | _ => {}
theorem nan107 (a : Int) : PRet C.P 107 [.int .i64 a] (.bool false) := by
  refine pret_of ok mixed (A := A107) 0 Try.func107 rfl ?_
  (repeat' (first | exact rfl | ((conv => whnf); first | exact rfl | exact ⟨rfl, rfl⟩ | refine ⟨(by kernel_rfl : drawOk _ _ _ _ = true), ?_⟩ | refine ⟨(by kernel_rfl : planOk _ _ _ _ = true), ?_⟩ | refine ⟨rfl, ?_⟩ | refine ⟨by (first | omega | (simp (disch := omega) only [wrapI]; omega) | (simp (disch := omega) only [wrapI]; simp; omega) | (simp; omega)), ?_⟩ | (intro ep) | (refine ifB (fun hb => ?_) (fun hb => ?_) <;> (try simp only [decide_eq_true_eq, decide_eq_false_iff_not, beq_iff_eq, beq_eq_false_iff_ne, bne_iff_ne, bne_eq_false_iff_eq, ne_eq, not_false_eq_true, not_true_eq_false, Bool.not_eq_true, Bool.not_eq_true', Bool.not_eq_false', Int.not_lt, Int.not_le] at hb) <;> (try simp (disch := omega) only [wrapI] at hb) <;> (try (exfalso; omega))) | fail)))
  all_goals (conv => whnf)
  all_goals simp
theorem cmp84 (a b : Int) : PRet C.P 84 [.int .i64 a, .int .i64 b] (.int .i64 (cmpI a b)) := by
  have n1 := nan107 a
  have n2 := nan107 b
  unfold cmpI
  by_cases c1 : a < b
  · rw [if_pos c1]
    refine pret_of ok mixed (A := A84) 0 Try.func84 rfl ?_
    (repeat' (first | exact rfl | ((conv => whnf); first | refine ⟨_, n1, ?_⟩ | refine ⟨_, n2, ?_⟩ | exact rfl | exact ⟨rfl, rfl⟩ | refine ⟨(by kernel_rfl : drawOk _ _ _ _ = true), ?_⟩ | refine ⟨(by kernel_rfl : planOk _ _ _ _ = true), ?_⟩ | refine ⟨rfl, ?_⟩ | refine ⟨by (first | omega | (simp (disch := omega) only [wrapI]; omega) | (simp (disch := omega) only [wrapI]; simp; omega) | (simp; omega)), ?_⟩ | (intro ep) | (refine ifB (fun hb => ?_) (fun hb => ?_) <;> (try simp only [decide_eq_true_eq, decide_eq_false_iff_not, beq_iff_eq, beq_eq_false_iff_ne, bne_iff_ne, bne_eq_false_iff_eq, ne_eq, not_false_eq_true, not_true_eq_false, Bool.not_eq_true, Bool.not_eq_true', Bool.not_eq_false', Int.not_lt, Int.not_le] at hb) <;> (try simp (disch := omega) only [wrapI] at hb) <;> (try (exfalso; omega))) | fail)))
  rw [if_neg c1]
  by_cases c2 : b < a
  · rw [if_pos c2]
    refine pret_of ok mixed (A := A84) 0 Try.func84 rfl ?_
    (repeat' (first | exact rfl | ((conv => whnf); first | refine ⟨_, n1, ?_⟩ | refine ⟨_, n2, ?_⟩ | exact rfl | exact ⟨rfl, rfl⟩ | refine ⟨(by kernel_rfl : drawOk _ _ _ _ = true), ?_⟩ | refine ⟨(by kernel_rfl : planOk _ _ _ _ = true), ?_⟩ | refine ⟨rfl, ?_⟩ | refine ⟨by (first | omega | (simp (disch := omega) only [wrapI]; omega) | (simp (disch := omega) only [wrapI]; simp; omega) | (simp; omega)), ?_⟩ | (intro ep) | (refine ifB (fun hb => ?_) (fun hb => ?_) <;> (try simp only [decide_eq_true_eq, decide_eq_false_iff_not, beq_iff_eq, beq_eq_false_iff_ne, bne_iff_ne, bne_eq_false_iff_eq, ne_eq, not_false_eq_true, not_true_eq_false, Bool.not_eq_true, Bool.not_eq_true', Bool.not_eq_false', Int.not_lt, Int.not_le] at hb) <;> (try simp (disch := omega) only [wrapI] at hb) <;> (try (exfalso; omega))) | fail)))
  rw [if_neg c2]
  refine pret_of ok mixed (A := A84) 0 Try.func84 rfl ?_
  (repeat' (first | exact rfl | ((conv => whnf); first | refine ⟨_, n1, ?_⟩ | refine ⟨_, n2, ?_⟩ | exact rfl | exact ⟨rfl, rfl⟩ | refine ⟨(by kernel_rfl : drawOk _ _ _ _ = true), ?_⟩ | refine ⟨(by kernel_rfl : planOk _ _ _ _ = true), ?_⟩ | refine ⟨rfl, ?_⟩ | refine ⟨by (first | omega | (simp (disch := omega) only [wrapI]; omega) | (simp (disch := omega) only [wrapI]; simp; omega) | (simp; omega)), ?_⟩ | (intro ep) | (refine ifB (fun hb => ?_) (fun hb => ?_) <;> (try simp only [decide_eq_true_eq, decide_eq_false_iff_not, beq_iff_eq, beq_eq_false_iff_ne, bne_iff_ne, bne_eq_false_iff_eq, ne_eq, not_false_eq_true, not_true_eq_false, Bool.not_eq_true, Bool.not_eq_true', Bool.not_eq_false', Int.not_lt, Int.not_le] at hb) <;> (try simp (disch := omega) only [wrapI] at hb) <;> (try (exfalso; omega))) | fail)))
theorem clo91 (x : Tn) (t : Int) (h0 : -9223372036854775808 ≤ t) (ht : t < 9223372036854775807) : PRet C.P 91 [.agg (tnR x), .int .i64 t] (.int .i64 (cmpI x.f (t + 1))) := by
  obtain ⟨xp, xf, xt⟩ := x
  simp only
  have hw : IntKind.i64.wrap (t + 1) = t + 1 := wrapI (by omega) (by omega)
  have n1 := cmp84 xf (IntKind.i64.wrap (t + 1))
  rw [← hw]
  refine pret_of ok mixed (A := A91) 1 Try.func91 rfl ?_
  (conv => whnf)
  intro e0
  (repeat' (first | exact rfl | ((conv => whnf); first | refine ⟨_, n1, ?_⟩ | exact rfl | exact ⟨rfl, rfl⟩ | refine ⟨(by kernel_rfl : drawOk _ _ _ _ = true), ?_⟩ | refine ⟨(by kernel_rfl : planOk _ _ _ _ = true), ?_⟩ | refine ⟨rfl, ?_⟩ | refine ⟨by (first | omega | (simp (disch := omega) only [wrapI]; omega) | (simp (disch := omega) only [wrapI]; simp; omega) | (simp; omega)), ?_⟩ | (intro ep) | (refine ifB (fun hb => ?_) (fun hb => ?_) <;> (try simp only [decide_eq_true_eq, decide_eq_false_iff_not, beq_iff_eq, beq_eq_false_iff_ne, bne_iff_ne, bne_eq_false_iff_eq, ne_eq, not_false_eq_true, not_true_eq_false, Bool.not_eq_true, Bool.not_eq_true', Bool.not_eq_false', Int.not_lt, Int.not_le] at hb) <;> (try simp (disch := omega) only [wrapI] at hb) <;> (try (exfalso; omega))) | fail)))
theorem mot71 (a b : Int) : PRet C.P 71 [.int .i64 a, .int .i64 b] (.int .i64 (mot a b)) := by
  unfold mot
  by_cases c1 : a = 0
  · by_cases c2 : b = 0
    · rw [if_pos ⟨c1, c2⟩]
      refine pret_of ok mixed (A := A71) 0 Try.func71 rfl ?_
      (repeat' (first | exact rfl | ((conv => whnf); first | exact rfl | exact ⟨rfl, rfl⟩ | refine ⟨(by kernel_rfl : drawOk _ _ _ _ = true), ?_⟩ | refine ⟨(by kernel_rfl : planOk _ _ _ _ = true), ?_⟩ | refine ⟨rfl, ?_⟩ | refine ⟨by (first | omega | (simp (disch := omega) only [wrapI]; omega) | (simp (disch := omega) only [wrapI]; simp; omega) | (simp; omega)), ?_⟩ | (intro ep) | (refine ifB (fun hb => ?_) (fun hb => ?_) <;> (try simp only [decide_eq_true_eq, decide_eq_false_iff_not, beq_iff_eq, beq_eq_false_iff_ne, bne_iff_ne, bne_eq_false_iff_eq, ne_eq, not_false_eq_true, not_true_eq_false, Bool.not_eq_true, Bool.not_eq_true', Bool.not_eq_false', Int.not_lt, Int.not_le] at hb) <;> (try simp (disch := omega) only [wrapI] at hb) <;> (try (exfalso; omega))) | fail)))
    · rw [if_neg (by simp [c2]), if_pos (Or.inl c1)]
      refine pret_of ok mixed (A := A71) 0 Try.func71 rfl ?_
      (repeat' (first | exact rfl | ((conv => whnf); first | exact rfl | exact ⟨rfl, rfl⟩ | refine ⟨(by kernel_rfl : drawOk _ _ _ _ = true), ?_⟩ | refine ⟨(by kernel_rfl : planOk _ _ _ _ = true), ?_⟩ | refine ⟨rfl, ?_⟩ | refine ⟨by (first | omega | (simp (disch := omega) only [wrapI]; omega) | (simp (disch := omega) only [wrapI]; simp; omega) | (simp; omega)), ?_⟩ | (intro ep) | (refine ifB (fun hb => ?_) (fun hb => ?_) <;> (try simp only [decide_eq_true_eq, decide_eq_false_iff_not, beq_iff_eq, beq_eq_false_iff_ne, bne_iff_ne, bne_eq_false_iff_eq, ne_eq, not_false_eq_true, not_true_eq_false, Bool.not_eq_true, Bool.not_eq_true', Bool.not_eq_false', Int.not_lt, Int.not_le] at hb) <;> (try simp (disch := omega) only [wrapI] at hb) <;> (try (exfalso; omega))) | fail)))
  · by_cases c2 : b = 0
    · rw [if_neg (by simp [c1]), if_pos (Or.inr c2)]
      refine pret_of ok mixed (A := A71) 0 Try.func71 rfl ?_
      (repeat' (first | exact rfl | ((conv => whnf); first | exact rfl | exact ⟨rfl, rfl⟩ | refine ⟨(by kernel_rfl : drawOk _ _ _ _ = true), ?_⟩ | refine ⟨(by kernel_rfl : planOk _ _ _ _ = true), ?_⟩ | refine ⟨rfl, ?_⟩ | refine ⟨by (first | omega | (simp (disch := omega) only [wrapI]; omega) | (simp (disch := omega) only [wrapI]; simp; omega) | (simp; omega)), ?_⟩ | (intro ep) | (refine ifB (fun hb => ?_) (fun hb => ?_) <;> (try simp only [decide_eq_true_eq, decide_eq_false_iff_not, beq_iff_eq, beq_eq_false_iff_ne, bne_iff_ne, bne_eq_false_iff_eq, ne_eq, not_false_eq_true, not_true_eq_false, Bool.not_eq_true, Bool.not_eq_true', Bool.not_eq_false', Int.not_lt, Int.not_le] at hb) <;> (try simp (disch := omega) only [wrapI] at hb) <;> (try (exfalso; omega))) | fail)))
    · rw [if_neg (by simp [c1]), if_neg (by simp [c1, c2])]
      by_cases c3 : 0 < a
      · by_cases c4 : 0 < b
        · rw [if_neg (by simp [c3, c4])]
          by_cases c5 : a = b
          · rw [if_pos c5]
            refine pret_of ok mixed (A := A71) 0 Try.func71 rfl ?_
            (repeat' (first | exact rfl | ((conv => whnf); first | exact rfl | exact ⟨rfl, rfl⟩ | refine ⟨(by kernel_rfl : drawOk _ _ _ _ = true), ?_⟩ | refine ⟨(by kernel_rfl : planOk _ _ _ _ = true), ?_⟩ | refine ⟨rfl, ?_⟩ | refine ⟨by (first | omega | (simp (disch := omega) only [wrapI]; omega) | (simp (disch := omega) only [wrapI]; simp; omega) | (simp; omega)), ?_⟩ | (intro ep) | (refine ifB (fun hb => ?_) (fun hb => ?_) <;> (try simp only [decide_eq_true_eq, decide_eq_false_iff_not, beq_iff_eq, beq_eq_false_iff_ne, bne_iff_ne, bne_eq_false_iff_eq, ne_eq, not_false_eq_true, not_true_eq_false, Bool.not_eq_true, Bool.not_eq_true', Bool.not_eq_false', Int.not_lt, Int.not_le] at hb) <;> (try simp (disch := omega) only [wrapI] at hb) <;> (try (exfalso; omega))) | fail)))
            (all_goals (exfalso; simp only [decide_eq_decide] at *; omega))
          · rw [if_neg c5]
            refine pret_of ok mixed (A := A71) 0 Try.func71 rfl ?_
            (repeat' (first | exact rfl | ((conv => whnf); first | exact rfl | exact ⟨rfl, rfl⟩ | refine ⟨(by kernel_rfl : drawOk _ _ _ _ = true), ?_⟩ | refine ⟨(by kernel_rfl : planOk _ _ _ _ = true), ?_⟩ | refine ⟨rfl, ?_⟩ | refine ⟨by (first | omega | (simp (disch := omega) only [wrapI]; omega) | (simp (disch := omega) only [wrapI]; simp; omega) | (simp; omega)), ?_⟩ | (intro ep) | (refine ifB (fun hb => ?_) (fun hb => ?_) <;> (try simp only [decide_eq_true_eq, decide_eq_false_iff_not, beq_iff_eq, beq_eq_false_iff_ne, bne_iff_ne, bne_eq_false_iff_eq, ne_eq, not_false_eq_true, not_true_eq_false, Bool.not_eq_true, Bool.not_eq_true', Bool.not_eq_false', Int.not_lt, Int.not_le] at hb) <;> (try simp (disch := omega) only [wrapI] at hb) <;> (try (exfalso; omega))) | fail)))
            (all_goals (exfalso; simp only [decide_eq_decide] at *; omega))
        · rw [if_pos (by simp [c3, c4])]
          refine pret_of ok mixed (A := A71) 0 Try.func71 rfl ?_
          (repeat' (first | exact rfl | ((conv => whnf); first | exact rfl | exact ⟨rfl, rfl⟩ | refine ⟨(by kernel_rfl : drawOk _ _ _ _ = true), ?_⟩ | refine ⟨(by kernel_rfl : planOk _ _ _ _ = true), ?_⟩ | refine ⟨rfl, ?_⟩ | refine ⟨by (first | omega | (simp (disch := omega) only [wrapI]; omega) | (simp (disch := omega) only [wrapI]; simp; omega) | (simp; omega)), ?_⟩ | (intro ep) | (refine ifB (fun hb => ?_) (fun hb => ?_) <;> (try simp only [decide_eq_true_eq, decide_eq_false_iff_not, beq_iff_eq, beq_eq_false_iff_ne, bne_iff_ne, bne_eq_false_iff_eq, ne_eq, not_false_eq_true, not_true_eq_false, Bool.not_eq_true, Bool.not_eq_true', Bool.not_eq_false', Int.not_lt, Int.not_le] at hb) <;> (try simp (disch := omega) only [wrapI] at hb) <;> (try (exfalso; omega))) | fail)))
          (all_goals (exfalso; simp only [decide_eq_decide] at *; omega))
      · by_cases c4 : 0 < b
        · rw [if_pos (by simp [c3, c4])]
          refine pret_of ok mixed (A := A71) 0 Try.func71 rfl ?_
          (repeat' (first | exact rfl | ((conv => whnf); first | exact rfl | exact ⟨rfl, rfl⟩ | refine ⟨(by kernel_rfl : drawOk _ _ _ _ = true), ?_⟩ | refine ⟨(by kernel_rfl : planOk _ _ _ _ = true), ?_⟩ | refine ⟨rfl, ?_⟩ | refine ⟨by (first | omega | (simp (disch := omega) only [wrapI]; omega) | (simp (disch := omega) only [wrapI]; simp; omega) | (simp; omega)), ?_⟩ | (intro ep) | (refine ifB (fun hb => ?_) (fun hb => ?_) <;> (try simp only [decide_eq_true_eq, decide_eq_false_iff_not, beq_iff_eq, beq_eq_false_iff_ne, bne_iff_ne, bne_eq_false_iff_eq, ne_eq, not_false_eq_true, not_true_eq_false, Bool.not_eq_true, Bool.not_eq_true', Bool.not_eq_false', Int.not_lt, Int.not_le] at hb) <;> (try simp (disch := omega) only [wrapI] at hb) <;> (try (exfalso; omega))) | fail)))
          (all_goals (exfalso; simp only [decide_eq_decide] at *; omega))
        · rw [if_neg (by simp [c3, c4])]
          by_cases c5 : a = b
          · rw [if_pos c5]
            refine pret_of ok mixed (A := A71) 0 Try.func71 rfl ?_
            (repeat' (first | exact rfl | ((conv => whnf); first | exact rfl | exact ⟨rfl, rfl⟩ | refine ⟨(by kernel_rfl : drawOk _ _ _ _ = true), ?_⟩ | refine ⟨(by kernel_rfl : planOk _ _ _ _ = true), ?_⟩ | refine ⟨rfl, ?_⟩ | refine ⟨by (first | omega | (simp (disch := omega) only [wrapI]; omega) | (simp (disch := omega) only [wrapI]; simp; omega) | (simp; omega)), ?_⟩ | (intro ep) | (refine ifB (fun hb => ?_) (fun hb => ?_) <;> (try simp only [decide_eq_true_eq, decide_eq_false_iff_not, beq_iff_eq, beq_eq_false_iff_ne, bne_iff_ne, bne_eq_false_iff_eq, ne_eq, not_false_eq_true, not_true_eq_false, Bool.not_eq_true, Bool.not_eq_true', Bool.not_eq_false', Int.not_lt, Int.not_le] at hb) <;> (try simp (disch := omega) only [wrapI] at hb) <;> (try (exfalso; omega))) | fail)))
            (all_goals (exfalso; simp only [decide_eq_decide] at *; omega))
          · rw [if_neg c5]
            refine pret_of ok mixed (A := A71) 0 Try.func71 rfl ?_
            (repeat' (first | exact rfl | ((conv => whnf); first | exact rfl | exact ⟨rfl, rfl⟩ | refine ⟨(by kernel_rfl : drawOk _ _ _ _ = true), ?_⟩ | refine ⟨(by kernel_rfl : planOk _ _ _ _ = true), ?_⟩ | refine ⟨rfl, ?_⟩ | refine ⟨by (first | omega | (simp (disch := omega) only [wrapI]; omega) | (simp (disch := omega) only [wrapI]; simp; omega) | (simp; omega)), ?_⟩ | (intro ep) | (refine ifB (fun hb => ?_) (fun hb => ?_) <;> (try simp only [decide_eq_true_eq, decide_eq_false_iff_not, beq_iff_eq, beq_eq_false_iff_ne, bne_iff_ne, bne_eq_false_iff_eq, ne_eq, not_false_eq_true, not_true_eq_false, Bool.not_eq_true, Bool.not_eq_true', Bool.not_eq_false', Int.not_lt, Int.not_le] at hb) <;> (try simp (disch := omega) only [wrapI] at hb) <;> (try (exfalso; omega))) | fail)))
            (all_goals (exfalso; simp only [decide_eq_decide] at *; omega))
theorem mot93 (a b : Int) : PRet C.P 93 [.int .i64 a, .int .i64 b] (.int .i64 (mot a b)) := by
  unfold mot
  by_cases c1 : a = 0
  · by_cases c2 : b = 0
    · rw [if_pos ⟨c1, c2⟩]
      refine pret_of ok mixed (A := A93) 0 Try.func93 rfl ?_
      (repeat' (first | exact rfl | ((conv => whnf); first | exact rfl | exact ⟨rfl, rfl⟩ | refine ⟨(by kernel_rfl : drawOk _ _ _ _ = true), ?_⟩ | refine ⟨(by kernel_rfl : planOk _ _ _ _ = true), ?_⟩ | refine ⟨rfl, ?_⟩ | refine ⟨by (first | omega | (simp (disch := omega) only [wrapI]; omega) | (simp (disch := omega) only [wrapI]; simp; omega) | (simp; omega)), ?_⟩ | (intro ep) | (refine ifB (fun hb => ?_) (fun hb => ?_) <;> (try simp only [decide_eq_true_eq, decide_eq_false_iff_not, beq_iff_eq, beq_eq_false_iff_ne, bne_iff_ne, bne_eq_false_iff_eq, ne_eq, not_false_eq_true, not_true_eq_false, Bool.not_eq_true, Bool.not_eq_true', Bool.not_eq_false', Int.not_lt, Int.not_le] at hb) <;> (try simp (disch := omega) only [wrapI] at hb) <;> (try (exfalso; omega))) | fail)))
    · rw [if_neg (by simp [c2]), if_pos (Or.inl c1)]
      refine pret_of ok mixed (A := A93) 0 Try.func93 rfl ?_
      (repeat' (first | exact rfl | ((conv => whnf); first | exact rfl | exact ⟨rfl, rfl⟩ | refine ⟨(by kernel_rfl : drawOk _ _ _ _ = true), ?_⟩ | refine ⟨(by kernel_rfl : planOk _ _ _ _ = true), ?_⟩ | refine ⟨rfl, ?_⟩ | refine ⟨by (first | omega | (simp (disch := omega) only [wrapI]; omega) | (simp (disch := omega) only [wrapI]; simp; omega) | (simp; omega)), ?_⟩ | (intro ep) | (refine ifB (fun hb => ?_) (fun hb => ?_) <;> (try simp only [decide_eq_true_eq, decide_eq_false_iff_not, beq_iff_eq, beq_eq_false_iff_ne, bne_iff_ne, bne_eq_false_iff_eq, ne_eq, not_false_eq_true, not_true_eq_false, Bool.not_eq_true, Bool.not_eq_true', Bool.not_eq_false', Int.not_lt, Int.not_le] at hb) <;> (try simp (disch := omega) only [wrapI] at hb) <;> (try (exfalso; omega))) | fail)))
  · by_cases c2 : b = 0
    · rw [if_neg (by simp [c1]), if_pos (Or.inr c2)]
      refine pret_of ok mixed (A := A93) 0 Try.func93 rfl ?_
      (repeat' (first | exact rfl | ((conv => whnf); first | exact rfl | exact ⟨rfl, rfl⟩ | refine ⟨(by kernel_rfl : drawOk _ _ _ _ = true), ?_⟩ | refine ⟨(by kernel_rfl : planOk _ _ _ _ = true), ?_⟩ | refine ⟨rfl, ?_⟩ | refine ⟨by (first | omega | (simp (disch := omega) only [wrapI]; omega) | (simp (disch := omega) only [wrapI]; simp; omega) | (simp; omega)), ?_⟩ | (intro ep) | (refine ifB (fun hb => ?_) (fun hb => ?_) <;> (try simp only [decide_eq_true_eq, decide_eq_false_iff_not, beq_iff_eq, beq_eq_false_iff_ne, bne_iff_ne, bne_eq_false_iff_eq, ne_eq, not_false_eq_true, not_true_eq_false, Bool.not_eq_true, Bool.not_eq_true', Bool.not_eq_false', Int.not_lt, Int.not_le] at hb) <;> (try simp (disch := omega) only [wrapI] at hb) <;> (try (exfalso; omega))) | fail)))
    · rw [if_neg (by simp [c1]), if_neg (by simp [c1, c2])]
      by_cases c3 : 0 < a
      · by_cases c4 : 0 < b
        · rw [if_neg (by simp [c3, c4])]
          by_cases c5 : a = b
          · rw [if_pos c5]
            refine pret_of ok mixed (A := A93) 0 Try.func93 rfl ?_
            (repeat' (first | exact rfl | ((conv => whnf); first | exact rfl | exact ⟨rfl, rfl⟩ | refine ⟨(by kernel_rfl : drawOk _ _ _ _ = true), ?_⟩ | refine ⟨(by kernel_rfl : planOk _ _ _ _ = true), ?_⟩ | refine ⟨rfl, ?_⟩ | refine ⟨by (first | omega | (simp (disch := omega) only [wrapI]; omega) | (simp (disch := omega) only [wrapI]; simp; omega) | (simp; omega)), ?_⟩ | (intro ep) | (refine ifB (fun hb => ?_) (fun hb => ?_) <;> (try simp only [decide_eq_true_eq, decide_eq_false_iff_not, beq_iff_eq, beq_eq_false_iff_ne, bne_iff_ne, bne_eq_false_iff_eq, ne_eq, not_false_eq_true, not_true_eq_false, Bool.not_eq_true, Bool.not_eq_true', Bool.not_eq_false', Int.not_lt, Int.not_le] at hb) <;> (try simp (disch := omega) only [wrapI] at hb) <;> (try (exfalso; omega))) | fail)))
            (all_goals (exfalso; simp only [decide_eq_decide] at *; omega))
          · rw [if_neg c5]
            refine pret_of ok mixed (A := A93) 0 Try.func93 rfl ?_
            (repeat' (first | exact rfl | ((conv => whnf); first | exact rfl | exact ⟨rfl, rfl⟩ | refine ⟨(by kernel_rfl : drawOk _ _ _ _ = true), ?_⟩ | refine ⟨(by kernel_rfl : planOk _ _ _ _ = true), ?_⟩ | refine ⟨rfl, ?_⟩ | refine ⟨by (first | omega | (simp (disch := omega) only [wrapI]; omega) | (simp (disch := omega) only [wrapI]; simp; omega) | (simp; omega)), ?_⟩ | (intro ep) | (refine ifB (fun hb => ?_) (fun hb => ?_) <;> (try simp only [decide_eq_true_eq, decide_eq_false_iff_not, beq_iff_eq, beq_eq_false_iff_ne, bne_iff_ne, bne_eq_false_iff_eq, ne_eq, not_false_eq_true, not_true_eq_false, Bool.not_eq_true, Bool.not_eq_true', Bool.not_eq_false', Int.not_lt, Int.not_le] at hb) <;> (try simp (disch := omega) only [wrapI] at hb) <;> (try (exfalso; omega))) | fail)))
            (all_goals (exfalso; simp only [decide_eq_decide] at *; omega))
        · rw [if_pos (by simp [c3, c4])]
          refine pret_of ok mixed (A := A93) 0 Try.func93 rfl ?_
          (repeat' (first | exact rfl | ((conv => whnf); first | exact rfl | exact ⟨rfl, rfl⟩ | refine ⟨(by kernel_rfl : drawOk _ _ _ _ = true), ?_⟩ | refine ⟨(by kernel_rfl : planOk _ _ _ _ = true), ?_⟩ | refine ⟨rfl, ?_⟩ | refine ⟨by (first | omega | (simp (disch := omega) only [wrapI]; omega) | (simp (disch := omega) only [wrapI]; simp; omega) | (simp; omega)), ?_⟩ | (intro ep) | (refine ifB (fun hb => ?_) (fun hb => ?_) <;> (try simp only [decide_eq_true_eq, decide_eq_false_iff_not, beq_iff_eq, beq_eq_false_iff_ne, bne_iff_ne, bne_eq_false_iff_eq, ne_eq, not_false_eq_true, not_true_eq_false, Bool.not_eq_true, Bool.not_eq_true', Bool.not_eq_false', Int.not_lt, Int.not_le] at hb) <;> (try simp (disch := omega) only [wrapI] at hb) <;> (try (exfalso; omega))) | fail)))
          (all_goals (exfalso; simp only [decide_eq_decide] at *; omega))
      · by_cases c4 : 0 < b
        · rw [if_pos (by simp [c3, c4])]
          refine pret_of ok mixed (A := A93) 0 Try.func93 rfl ?_
          (repeat' (first | exact rfl | ((conv => whnf); first | exact rfl | exact ⟨rfl, rfl⟩ | refine ⟨(by kernel_rfl : drawOk _ _ _ _ = true), ?_⟩ | refine ⟨(by kernel_rfl : planOk _ _ _ _ = true), ?_⟩ | refine ⟨rfl, ?_⟩ | refine ⟨by (first | omega | (simp (disch := omega) only [wrapI]; omega) | (simp (disch := omega) only [wrapI]; simp; omega) | (simp; omega)), ?_⟩ | (intro ep) | (refine ifB (fun hb => ?_) (fun hb => ?_) <;> (try simp only [decide_eq_true_eq, decide_eq_false_iff_not, beq_iff_eq, beq_eq_false_iff_ne, bne_iff_ne, bne_eq_false_iff_eq, ne_eq, not_false_eq_true, not_true_eq_false, Bool.not_eq_true, Bool.not_eq_true', Bool.not_eq_false', Int.not_lt, Int.not_le] at hb) <;> (try simp (disch := omega) only [wrapI] at hb) <;> (try (exfalso; omega))) | fail)))
          (all_goals (exfalso; simp only [decide_eq_decide] at *; omega))
        · rw [if_neg (by simp [c3, c4])]
          by_cases c5 : a = b
          · rw [if_pos c5]
            refine pret_of ok mixed (A := A93) 0 Try.func93 rfl ?_
            (repeat' (first | exact rfl | ((conv => whnf); first | exact rfl | exact ⟨rfl, rfl⟩ | refine ⟨(by kernel_rfl : drawOk _ _ _ _ = true), ?_⟩ | refine ⟨(by kernel_rfl : planOk _ _ _ _ = true), ?_⟩ | refine ⟨rfl, ?_⟩ | refine ⟨by (first | omega | (simp (disch := omega) only [wrapI]; omega) | (simp (disch := omega) only [wrapI]; simp; omega) | (simp; omega)), ?_⟩ | (intro ep) | (refine ifB (fun hb => ?_) (fun hb => ?_) <;> (try simp only [decide_eq_true_eq, decide_eq_false_iff_not, beq_iff_eq, beq_eq_false_iff_ne, bne_iff_ne, bne_eq_false_iff_eq, ne_eq, not_false_eq_true, not_true_eq_false, Bool.not_eq_true, Bool.not_eq_true', Bool.not_eq_false', Int.not_lt, Int.not_le] at hb) <;> (try simp (disch := omega) only [wrapI] at hb) <;> (try (exfalso; omega))) | fail)))
            (all_goals (exfalso; simp only [decide_eq_decide] at *; omega))
          · rw [if_neg c5]
            refine pret_of ok mixed (A := A93) 0 Try.func93 rfl ?_
            (repeat' (first | exact rfl | ((conv => whnf); first | exact rfl | exact ⟨rfl, rfl⟩ | refine ⟨(by kernel_rfl : drawOk _ _ _ _ = true), ?_⟩ | refine ⟨(by kernel_rfl : planOk _ _ _ _ = true), ?_⟩ | refine ⟨rfl, ?_⟩ | refine ⟨by (first | omega | (simp (disch := omega) only [wrapI]; omega) | (simp (disch := omega) only [wrapI]; simp; omega) | (simp; omega)), ?_⟩ | (intro ep) | (refine ifB (fun hb => ?_) (fun hb => ?_) <;> (try simp only [decide_eq_true_eq, decide_eq_false_iff_not, beq_iff_eq, beq_eq_false_iff_ne, bne_iff_ne, bne_eq_false_iff_eq, ne_eq, not_false_eq_true, not_true_eq_false, Bool.not_eq_true, Bool.not_eq_true', Bool.not_eq_false', Int.not_lt, Int.not_le] at hb) <;> (try simp (disch := omega) only [wrapI] at hb) <;> (try (exfalso; omega))) | fail)))
            (all_goals (exfalso; simp only [decide_eq_decide] at *; omega))
end Go.Ab.V

/-
  Where a part stands at a time. No condition but the lengths.
-/
namespace Go.Ab.V
open Go.Proofs

theorem wrapU {x : Int} (h1 : 0 ≤ x) (h2 : x < 18446744073709551616) : IntKind.u64.wrap x = x := by
  show x % 18446744073709551616 = x
  omega
/-- how many tones have begun -/
def begun : List Tn → Int → Nat
  | [], _ => 0
  | x :: r, t => if x.f ≤ t then begun r t + 1 else 0
def asc (l : List Tn) : Prop := ∀ i j (hi : i < j) (hj : j < l.length), l[i].f < l[j].f
theorem asc.tail {x : Tn} {r : List Tn} (h : asc (x :: r)) : asc r := fun i j hi hj => by
  have := h (i + 1) (j + 1) (by omega) (by simpa using hj)
  simpa using this
theorem begun_le (t : Int) : ∀ (l : List Tn), begun l t ≤ l.length
  | [] => by simp [begun]
  | x :: r => by
    unfold begun
    split
    · have := begun_le t r; simp; omega
    · simp
theorem begun_out (t : Int) : ∀ (l : List Tn) (k : Nat) (hk : k < l.length), t < l[k].f → begun l t ≤ k
  | [], k, hk, h => by simp at hk
  | x :: r, 0, hk, h => by
    unfold begun
    rw [if_neg (by simpa using h)]; omega
  | x :: r, k + 1, hk, h => by
    unfold begun
    split
    · have := begun_out t r k (by simpa using hk) (by simpa using h); omega
    · omega
theorem begun_in (t : Int) : ∀ (l : List Tn) (k : Nat) (hk : k < l.length), asc l → l[k].f ≤ t → k < begun l t
  | [], k, hk, ha, h => by simp at hk
  | x :: r, 0, hk, ha, h => by
    unfold begun
    rw [if_pos (by simpa using h)]; omega
  | x :: r, k + 1, hk, ha, h => by
    have h0 := ha 0 (k + 1) (by omega) hk
    unfold begun
    rw [if_pos (by simp at h0 h; omega)]
    have := begun_in t r k (by simpa using hk) ha.tail (by simpa using h); omega
def found (l : List Tn) (t : Int) : Bool := match l[begun l t]? with
  | some x => decide (cmpI x.f (t + 1) = 0)
  | none => false
def A90 : Ann := fun _ => {}
set_option maxHeartbeats 8000000 in
set_option maxRecDepth 100000 in
theorem bin90 (l : List Tn) (t : Int) (ha : asc l) (hl : l.length ≤ 4000000000000000000) (h0 : -9223372036854775808 ≤ t) (ht : t < 9223372036854775807) : PRet C.P 90 [tnsA l, .int .i64 t, .fn (.func 91) [] []] (.tup [.int .i64 (begun l t : Int), .bool (found l t)]) := by
  refine pret_of ok mixed (A := A90) 0 Try.func90 rfl ?_
  (repeat' (first | exact rfl | ((conv => whnf); first | exact rfl | exact ⟨rfl, rfl⟩ | refine ⟨(by kernel_rfl : drawOk _ _ _ _ = true), ?_⟩ | refine ⟨(by kernel_rfl : planOk _ _ _ _ = true), ?_⟩ | refine ⟨rfl, ?_⟩ | refine ⟨by (first | omega | (simp (disch := omega) only [wrapI]; omega) | (simp (disch := omega) only [wrapI]; simp; omega) | (simp; omega)), ?_⟩ | (intro ep) | (refine ifB (fun hb => ?_) (fun hb => ?_) <;> (try simp only [decide_eq_true_eq, decide_eq_false_iff_not, beq_iff_eq, beq_eq_false_iff_ne, bne_iff_ne, bne_eq_false_iff_eq, ne_eq, not_false_eq_true, not_true_eq_false, Bool.not_eq_true, Bool.not_eq_true', Bool.not_eq_false', Int.not_lt, Int.not_le] at hb) <;> (try simp (disch := omega) only [wrapI] at hb) <;> (try (exfalso; omega))) | fail)))
  all_goals (conv => whnf)
  refine loopY ok mixed (A := A90) [0, 1, 2, 8, 9, 10] [] (S := { s : Nat × Nat // s.1 ≤ begun l t ∧ begun l t ≤ s.2 ∧ s.2 ≤ l.length })
    (fr := fun s => frOf 0 49 [(0, tnsA l), (1, .int .i64 t), (2, .fn (.func 91) [] []), (8, .int .i64 (l.length : Int)), (9, .int .i64 (s.1.1 : Int)), (10, .int .i64 (s.1.2 : Int))])
    (h := fun s => ⟨[], []⟩) (μ := fun s => s.1.2 - s.1.1) ⟨(0, l.length), by simp, begun_le t l, Nat.le_refl _⟩ ?_ ?_
    [0, 1, 2, 8, 9] [] (S' := Unit) (X := fun _ => 0) (frX := fun s => frOf 0 49 [(0, tnsA l), (1, .int .i64 t), (2, .fn (.func 91) [] []), (8, .int .i64 (l.length : Int)), (9, .int .i64 (begun l t : Int))]) (hX := fun s => ⟨[], []⟩)
    [] [] (S2 := Empty) (frR := fun s => frOf 0 49 []) (hR := fun s => ⟨[], []⟩) ?_ ?_ ?_
  · exact rfl
  · exact rfl
  · rintro ⟨⟨i, j⟩, hi, hj, hn⟩
    show aexR _ _ _ (frOf 0 49 [(0, tnsA l), (1, .int .i64 t), (2, .fn (.func 91) [] []), (8, .int .i64 (l.length : Int)), (9, .int .i64 (i : Int)), (10, .int .i64 (j : Int))]) ⟨[], []⟩ _
    simp only at hi hj hn
    (conv => whnf)
    refine ifB (fun g1 => ?_) (fun g1 => ?_)
    · simp only [decide_eq_true_eq] at g1
      obtain ⟨m, hm⟩ : ∃ m, m = (i + j) / 2 := ⟨_, rfl⟩
      have h1 : m < l.length := by omega
      have hx := mapR (f := tnR) h1
      have hc := clo91 l[m] t h0 ht
      have c1 := begun_out t l m h1
      have c2 := begun_in t l m h1 ha
      generalize l[m] = x at hx hc c1 c2
      (repeat' (first | exact rfl | ((conv => whnf); first | refine optS hx ?_ | refine PRet.calls hc ?_ | exact rfl | exact ⟨rfl, rfl⟩ | refine ⟨(by kernel_rfl : drawOk _ _ _ _ = true), ?_⟩ | refine ⟨(by kernel_rfl : planOk _ _ _ _ = true), ?_⟩ | refine ⟨rfl, ?_⟩ | refine ⟨by (first | omega | (simp (disch := omega) only [wrapI]; omega) | (simp (disch := omega) only [wrapI]; simp; omega) | (simp; omega)), ?_⟩ | (intro ep) | (refine ifB (fun hb => ?_) (fun hb => ?_) <;> (try simp only [decide_eq_true_eq, decide_eq_false_iff_not, beq_iff_eq, beq_eq_false_iff_ne, bne_iff_ne, bne_eq_false_iff_eq, ne_eq, not_false_eq_true, not_true_eq_false, Bool.not_eq_true, Bool.not_eq_true', Bool.not_eq_false', Int.not_lt, Int.not_le] at hb) <;> (try simp (disch := omega) only [wrapI] at hb) <;> (try (exfalso; omega))) | fail)))
      have hM : IntKind.i64.wrap ((IntKind.u64.wrap (IntKind.i64.wrap ((i : Int) + j))).fdiv (2 ^ min (Int.toNat 1) IntKind.u64.bits)) = (m : Int) := by
        rw [wrapI (x := (i : Int) + j) (by omega) (by omega), wrapU (by omega) (by omega), show (2 : Int) ^ min (Int.toNat 1) IntKind.u64.bits = 2 from rfl, Int.fdiv_eq_ediv_of_nonneg _ (by omega), wrapI (by omega) (by omega)]
        omega
      all_goals (conv => whnf)
      rw [hM]
      refine ⟨by omega, ?_⟩
      (repeat' (first | exact rfl | ((conv => whnf); first | refine optS hx ?_ | refine PRet.calls hc ?_ | exact rfl | exact ⟨rfl, rfl⟩ | refine ⟨(by kernel_rfl : drawOk _ _ _ _ = true), ?_⟩ | refine ⟨(by kernel_rfl : planOk _ _ _ _ = true), ?_⟩ | refine ⟨rfl, ?_⟩ | refine ⟨by (first | omega | (simp (disch := omega) only [wrapI]; omega) | (simp (disch := omega) only [wrapI]; simp; omega) | (simp; omega)), ?_⟩ | (intro ep) | (refine ifB (fun hb => ?_) (fun hb => ?_) <;> (try simp only [decide_eq_true_eq, decide_eq_false_iff_not, beq_iff_eq, beq_eq_false_iff_ne, bne_iff_ne, bne_eq_false_iff_eq, ne_eq, not_false_eq_true, not_true_eq_false, Bool.not_eq_true, Bool.not_eq_true', Bool.not_eq_false', Int.not_lt, Int.not_le] at hb) <;> (try simp (disch := omega) only [wrapI] at hb) <;> (try (exfalso; omega))) | fail)))
      · skip
        (conv => whnf)
        have hx1 : x.f ≤ t := by
          unfold cmpI at hb
          split at hb
          · omega
          · split at hb <;> omega
        have := c2 hx1
        exact back_of ⟨(m + 1, j), by simp only; omega, by simp only; omega, by simp only; omega⟩ ⟨by (first | exact rfl | (simp (disch := omega) only [wrapI]; exact rfl)), rfl, by simp only; omega⟩
      · skip
        (conv => whnf)
        have hx1 : t < x.f := by
          unfold cmpI at hb
          split at hb
          · omega
          · split at hb <;> omega
        have := c1 hx1
        exact back_of ⟨(i, m), by simp only; omega, by simp only; omega, by simp only; omega⟩ ⟨by (first | exact rfl | (simp (disch := omega) only [wrapI]; exact rfl)), rfl, by simp only; omega⟩
    · simp only [decide_eq_false_iff_not] at g1
      (repeat' (first | exact rfl | ((conv => whnf); first | exact rfl | exact ⟨rfl, rfl⟩ | refine ⟨(by kernel_rfl : drawOk _ _ _ _ = true), ?_⟩ | refine ⟨(by kernel_rfl : planOk _ _ _ _ = true), ?_⟩ | refine ⟨rfl, ?_⟩ | refine ⟨by (first | omega | (simp (disch := omega) only [wrapI]; omega) | (simp (disch := omega) only [wrapI]; simp; omega) | (simp; omega)), ?_⟩ | (intro ep) | fail)))
      all_goals (conv => whnf)
      have : i = begun l t := by omega
      subst this
      exact back_of () ⟨by (first | exact rfl | (simp (disch := omega) only [wrapI]; exact rfl)), rfl, rfl⟩
  · rintro ⟨⟩
  · rintro ⟨⟩
    have hb := begun_le t l
    by_cases h1 : begun l t < l.length
    · have hx := mapR (f := tnR) h1
      have hf : found l t = decide (cmpI l[begun l t].f (t + 1) = 0) := by unfold found; rw [List.getElem?_eq_getElem h1]
      have hc := clo91 l[begun l t] t h0 ht
      rw [hf]
      generalize l[begun l t] = x at hx hc
      (repeat' (first | exact rfl | ((conv => whnf); first | refine optS hx ?_ | refine PRet.calls hc ?_ | exact rfl | exact ⟨rfl, rfl⟩ | refine ⟨(by kernel_rfl : drawOk _ _ _ _ = true), ?_⟩ | refine ⟨(by kernel_rfl : planOk _ _ _ _ = true), ?_⟩ | refine ⟨rfl, ?_⟩ | refine ⟨by (first | omega | (simp (disch := omega) only [wrapI]; omega) | (simp (disch := omega) only [wrapI]; simp; omega) | (simp; omega)), ?_⟩ | (intro ep) | (refine ifB (fun hb => ?_) (fun hb => ?_) <;> (try simp only [decide_eq_true_eq, decide_eq_false_iff_not, beq_iff_eq, beq_eq_false_iff_ne, bne_iff_ne, bne_eq_false_iff_eq, ne_eq, not_false_eq_true, not_true_eq_false, Bool.not_eq_true, Bool.not_eq_true', Bool.not_eq_false', Int.not_lt, Int.not_le] at hb) <;> (try simp (disch := omega) only [wrapI] at hb) <;> (try (exfalso; omega))) | fail)))
    · have hf : found l t = false := by unfold found; rw [List.getElem?_eq_none (by omega)]
      rw [hf]
      (repeat' (first | exact rfl | ((conv => whnf); first | exact rfl | exact ⟨rfl, rfl⟩ | refine ⟨(by kernel_rfl : drawOk _ _ _ _ = true), ?_⟩ | refine ⟨(by kernel_rfl : planOk _ _ _ _ = true), ?_⟩ | refine ⟨rfl, ?_⟩ | refine ⟨by (first | omega | (simp (disch := omega) only [wrapI]; omega) | (simp (disch := omega) only [wrapI]; simp; omega) | (simp; omega)), ?_⟩ | (intro ep) | (refine ifB (fun hb => ?_) (fun hb => ?_) <;> (try simp only [decide_eq_true_eq, decide_eq_false_iff_not, beq_iff_eq, beq_eq_false_iff_ne, bne_iff_ne, bne_eq_false_iff_eq, ne_eq, not_false_eq_true, not_true_eq_false, Bool.not_eq_true, Bool.not_eq_true', Bool.not_eq_false', Int.not_lt, Int.not_le] at hb) <;> (try simp (disch := omega) only [wrapI] at hb) <;> (try (exfalso; omega))) | fail)))

/-- the pitch of a part at a time, by searching -/
def atP (l : List Tn) (t : Int) : Option Int := if begun l t = 0 then none else match l[begun l t - 1]? with
  | some x => if x.t ≤ t then none else some x.p
  | none => none
def A70 : Ann := fun _ => {}
def atV : Option Int → AV
  | some p => .tup [.int .i64 p, .bool true]
  | none => .tup [.int .i64 0, .bool false]
set_option maxHeartbeats 8000000 in
set_option maxRecDepth 100000 in
theorem at70 (l : List Tn) (t : Int) (ha : asc l) (hl : l.length ≤ 4000000000000000000) (h0 : -9223372036854775808 ≤ t) (ht : t < 9223372036854775807) : PRet C.P 70 [tnsA l, .int .i64 t] (atV (atP l t)) := by
  have hb := bin90 l t ha hl h0 ht
  have hle := begun_le t l
  unfold atP
  by_cases c1 : begun l t = 0
  · rw [if_pos c1]
    refine pret_of ok mixed (A := A70) 0 Try.func70 rfl ?_
    (repeat' (first | exact rfl | ((conv => whnf); first | refine ⟨_, hb, ?_⟩ | exact rfl | exact ⟨rfl, rfl⟩ | refine ⟨(by kernel_rfl : drawOk _ _ _ _ = true), ?_⟩ | refine ⟨(by kernel_rfl : planOk _ _ _ _ = true), ?_⟩ | refine ⟨rfl, ?_⟩ | refine ⟨by (first | omega | (simp (disch := omega) only [wrapI]; omega) | (simp (disch := omega) only [wrapI]; simp; omega) | (simp; omega)), ?_⟩ | (intro ep) | (refine ifB (fun hb => ?_) (fun hb => ?_) <;> (try simp only [decide_eq_true_eq, decide_eq_false_iff_not, beq_iff_eq, beq_eq_false_iff_ne, bne_iff_ne, bne_eq_false_iff_eq, ne_eq, not_false_eq_true, not_true_eq_false, Bool.not_eq_true, Bool.not_eq_true', Bool.not_eq_false', Int.not_lt, Int.not_le] at hb) <;> (try simp (disch := omega) only [wrapI] at hb) <;> (try (exfalso; omega))) | fail)))
  · rw [if_neg c1]
    have hw : IntKind.i64.wrap ((begun l t : Int) - 1) = ((begun l t - 1 : Nat) : Int) := by rw [wrapI (by omega) (by omega)]; omega
    generalize begun l t = B at hb hle c1 hw
    obtain ⟨b, rfl⟩ : ∃ b, B = b + 1 := ⟨B - 1, by omega⟩
    have h1 : b < l.length := by omega
    have hx := mapR (f := tnR) h1
    rw [show b + 1 - 1 = b from rfl, List.getElem?_eq_getElem h1]
    rw [show b + 1 - 1 = b from rfl] at hw
    rw [← hw] at hx
    generalize l[b] = x at hx
    simp only
    by_cases c2 : x.t ≤ t
    · rw [if_pos c2]
      refine pret_of ok mixed (A := A70) 0 Try.func70 rfl ?_
      (repeat' (first | exact rfl | ((conv => whnf); first | refine optS hx ?_ | refine ⟨_, hb, ?_⟩ | exact rfl | exact ⟨rfl, rfl⟩ | refine ⟨(by kernel_rfl : drawOk _ _ _ _ = true), ?_⟩ | refine ⟨(by kernel_rfl : planOk _ _ _ _ = true), ?_⟩ | refine ⟨rfl, ?_⟩ | refine ⟨by (first | omega | (simp (disch := omega) only [wrapI]; omega) | (simp (disch := omega) only [wrapI]; simp; omega) | (simp; omega)), ?_⟩ | (intro ep) | (refine ifB (fun hb => ?_) (fun hb => ?_) <;> (try simp only [decide_eq_true_eq, decide_eq_false_iff_not, beq_iff_eq, beq_eq_false_iff_ne, bne_iff_ne, bne_eq_false_iff_eq, ne_eq, not_false_eq_true, not_true_eq_false, Bool.not_eq_true, Bool.not_eq_true', Bool.not_eq_false', Int.not_lt, Int.not_le] at hb) <;> (try simp (disch := omega) only [wrapI] at hb) <;> (try (exfalso; omega))) | fail)))
      all_goals (conv => whnf)
    · rw [if_neg c2]
      refine pret_of ok mixed (A := A70) 0 Try.func70 rfl ?_
      (repeat' (first | exact rfl | ((conv => whnf); first | refine optS hx ?_ | refine ⟨_, hb, ?_⟩ | exact rfl | exact ⟨rfl, rfl⟩ | refine ⟨(by kernel_rfl : drawOk _ _ _ _ = true), ?_⟩ | refine ⟨(by kernel_rfl : planOk _ _ _ _ = true), ?_⟩ | refine ⟨rfl, ?_⟩ | refine ⟨by (first | omega | (simp (disch := omega) only [wrapI]; omega) | (simp (disch := omega) only [wrapI]; simp; omega) | (simp; omega)), ?_⟩ | (intro ep) | (refine ifB (fun hb => ?_) (fun hb => ?_) <;> (try simp only [decide_eq_true_eq, decide_eq_false_iff_not, beq_iff_eq, beq_eq_false_iff_ne, bne_iff_ne, bne_eq_false_iff_eq, ne_eq, not_false_eq_true, not_true_eq_false, Bool.not_eq_true, Bool.not_eq_true', Bool.not_eq_false', Int.not_lt, Int.not_le] at hb) <;> (try simp (disch := omega) only [wrapI] at hb) <;> (try (exfalso; omega))) | fail)))
      all_goals (conv => whnf)
/-- the pitch of a part at a time; -1: it does not sound -/
def atR : List Tn → Int → Int
  | [], _ => -1
  | x :: r, t => if x.f ≤ t ∧ t < x.t then x.p else atR r t
def A92 : Ann := fun _ => {}
set_option maxHeartbeats 8000000 in
set_option maxRecDepth 100000 in
theorem at92 (l : List Tn) (t : Int) (hl : l.length ≤ 9223372036854775807) : PRet C.P 92 [tnsA l, .int .i64 t] (.int .i64 (atR l t)) := by
  obtain ⟨R, hR⟩ : ∃ R, R = atR l t := ⟨_, rfl⟩
  rw [← hR]
  refine pret_of ok mixed (A := A92) 0 Try.func92 rfl ?_
  (repeat' (first | exact rfl | ((conv => whnf); first | exact rfl | exact ⟨rfl, rfl⟩ | refine ⟨(by kernel_rfl : drawOk _ _ _ _ = true), ?_⟩ | refine ⟨(by kernel_rfl : planOk _ _ _ _ = true), ?_⟩ | refine ⟨rfl, ?_⟩ | refine ⟨by (first | omega | (simp (disch := omega) only [wrapI]; omega) | (simp (disch := omega) only [wrapI]; simp; omega) | (simp; omega)), ?_⟩ | (intro ep) | (refine ifB (fun hb => ?_) (fun hb => ?_) <;> (try simp only [decide_eq_true_eq, decide_eq_false_iff_not, beq_iff_eq, beq_eq_false_iff_ne, bne_iff_ne, bne_eq_false_iff_eq, ne_eq, not_false_eq_true, not_true_eq_false, Bool.not_eq_true, Bool.not_eq_true', Bool.not_eq_false', Int.not_lt, Int.not_le] at hb) <;> (try simp (disch := omega) only [wrapI] at hb) <;> (try (exfalso; omega))) | fail)))
  all_goals (conv => whnf)
  refine loopY ok mixed (A := A92) [0, 1, 5] [] (S := { k : Nat // k ≤ l.length ∧ atR (l.drop k) t = R })
    (fr := fun s => frOf 0 33 [(0, tnsA l), (1, .int .i64 t), (5, .int .i64 (s.1 : Int))])
    (h := fun s => ⟨[], []⟩) (μ := fun s => l.length - s.1) ⟨0, by simp [hR]⟩ ?_ ?_
    [] [] (S' := { k : Nat // -1 = R }) (X := fun _ => 0) (frX := fun s => frOf 0 33 []) (hX := fun s => ⟨[], []⟩)
    [4] [] (S2 := Unit) (frR := fun s => frOf 0 33 [(4, .int .i64 R)]) (hR := fun s => ⟨[], []⟩) ?_ ?_ ?_
  · exact rfl
  · exact rfl
  · rintro ⟨k, hk, hu⟩
    show aexR _ _ _ (frOf 0 33 [(0, tnsA l), (1, .int .i64 t), (5, .int .i64 (k : Int))]) ⟨[], []⟩ _
    (conv => whnf)
    refine ifB (fun g1 => ?_) (fun g1 => ?_)
    · simp only [decide_eq_true_eq] at g1
      have h1 : k < l.length := by omega
      have hx := mapR (f := tnR) h1
      rw [List.drop_eq_getElem_cons h1, atR] at hu
      generalize l[k] = x at hx hu
      by_cases c1 : x.f ≤ t ∧ t < x.t
      · rw [if_pos c1] at hu
        obtain ⟨c1, c2⟩ := c1
        (repeat' (first | exact rfl | ((conv => whnf); first | refine optS hx ?_ | exact rfl | exact ⟨rfl, rfl⟩ | refine ⟨(by kernel_rfl : drawOk _ _ _ _ = true), ?_⟩ | refine ⟨(by kernel_rfl : planOk _ _ _ _ = true), ?_⟩ | refine ⟨rfl, ?_⟩ | refine ⟨by (first | omega | (simp (disch := omega) only [wrapI]; omega) | (simp (disch := omega) only [wrapI]; simp; omega) | (simp; omega)), ?_⟩ | (intro ep) | (refine ifB (fun hb => ?_) (fun hb => ?_) <;> (try simp only [decide_eq_true_eq, decide_eq_false_iff_not, beq_iff_eq, beq_eq_false_iff_ne, bne_iff_ne, bne_eq_false_iff_eq, ne_eq, not_false_eq_true, not_true_eq_false, Bool.not_eq_true, Bool.not_eq_true', Bool.not_eq_false', Int.not_lt, Int.not_le] at hb) <;> (try simp (disch := omega) only [wrapI] at hb) <;> (try (exfalso; omega))) | fail)))
        all_goals (conv => whnf)
        all_goals exact back_of () ⟨by rw [← hu]; rfl, rfl⟩
      · rw [if_neg c1] at hu
        by_cases c2 : x.f ≤ t
        · have c3 : ¬ t < x.t := fun h => c1 ⟨c2, h⟩
          (repeat' (first | exact rfl | ((conv => whnf); first | refine optS hx ?_ | exact rfl | exact ⟨rfl, rfl⟩ | refine ⟨(by kernel_rfl : drawOk _ _ _ _ = true), ?_⟩ | refine ⟨(by kernel_rfl : planOk _ _ _ _ = true), ?_⟩ | refine ⟨rfl, ?_⟩ | refine ⟨by (first | omega | (simp (disch := omega) only [wrapI]; omega) | (simp (disch := omega) only [wrapI]; simp; omega) | (simp; omega)), ?_⟩ | (intro ep) | (refine ifB (fun hb => ?_) (fun hb => ?_) <;> (try simp only [decide_eq_true_eq, decide_eq_false_iff_not, beq_iff_eq, beq_eq_false_iff_ne, bne_iff_ne, bne_eq_false_iff_eq, ne_eq, not_false_eq_true, not_true_eq_false, Bool.not_eq_true, Bool.not_eq_true', Bool.not_eq_false', Int.not_lt, Int.not_le] at hb) <;> (try simp (disch := omega) only [wrapI] at hb) <;> (try (exfalso; omega))) | fail)))
          all_goals (conv => whnf)
          all_goals exact back_of ⟨k + 1, by omega, hu⟩ ⟨by (first | exact rfl | (simp (disch := omega) only [wrapI]; exact rfl)), rfl, by simp only; omega⟩
        · (repeat' (first | exact rfl | ((conv => whnf); first | refine optS hx ?_ | exact rfl | exact ⟨rfl, rfl⟩ | refine ⟨(by kernel_rfl : drawOk _ _ _ _ = true), ?_⟩ | refine ⟨(by kernel_rfl : planOk _ _ _ _ = true), ?_⟩ | refine ⟨rfl, ?_⟩ | refine ⟨by (first | omega | (simp (disch := omega) only [wrapI]; omega) | (simp (disch := omega) only [wrapI]; simp; omega) | (simp; omega)), ?_⟩ | (intro ep) | (refine ifB (fun hb => ?_) (fun hb => ?_) <;> (try simp only [decide_eq_true_eq, decide_eq_false_iff_not, beq_iff_eq, beq_eq_false_iff_ne, bne_iff_ne, bne_eq_false_iff_eq, ne_eq, not_false_eq_true, not_true_eq_false, Bool.not_eq_true, Bool.not_eq_true', Bool.not_eq_false', Int.not_lt, Int.not_le] at hb) <;> (try simp (disch := omega) only [wrapI] at hb) <;> (try (exfalso; omega))) | fail)))
          all_goals (conv => whnf)
          all_goals exact back_of ⟨k + 1, by omega, hu⟩ ⟨by (first | exact rfl | (simp (disch := omega) only [wrapI]; exact rfl)), rfl, by simp only; omega⟩
    · simp only [decide_eq_false_iff_not] at g1
      rw [List.drop_eq_nil_of_le (by omega), atR] at hu
      (repeat' (first | exact rfl | ((conv => whnf); first | exact rfl | exact ⟨rfl, rfl⟩ | refine ⟨(by kernel_rfl : drawOk _ _ _ _ = true), ?_⟩ | refine ⟨(by kernel_rfl : planOk _ _ _ _ = true), ?_⟩ | refine ⟨rfl, ?_⟩ | refine ⟨by (first | omega | (simp (disch := omega) only [wrapI]; omega) | (simp (disch := omega) only [wrapI]; simp; omega) | (simp; omega)), ?_⟩ | (intro ep) | fail)))
      all_goals (conv => whnf)
      exact back_of ⟨0, hu⟩ ⟨rfl, rfl, rfl⟩
  · rintro ⟨⟩
    (repeat' (first | exact rfl | ((conv => whnf); first | exact rfl | exact ⟨rfl, rfl⟩ | refine ⟨(by kernel_rfl : drawOk _ _ _ _ = true), ?_⟩ | refine ⟨(by kernel_rfl : planOk _ _ _ _ = true), ?_⟩ | refine ⟨rfl, ?_⟩ | refine ⟨by (first | omega | (simp (disch := omega) only [wrapI]; omega) | (simp (disch := omega) only [wrapI]; simp; omega) | (simp; omega)), ?_⟩ | (intro ep) | fail)))
    all_goals (conv => whnf)
    all_goals exact ⟨rfl, rfl⟩
  · rintro ⟨x, hx⟩
    (repeat' (first | exact rfl | ((conv => whnf); first | exact rfl | exact ⟨rfl, rfl⟩ | refine ⟨(by kernel_rfl : drawOk _ _ _ _ = true), ?_⟩ | refine ⟨(by kernel_rfl : planOk _ _ _ _ = true), ?_⟩ | refine ⟨rfl, ?_⟩ | refine ⟨by (first | omega | (simp (disch := omega) only [wrapI]; omega) | (simp (disch := omega) only [wrapI]; simp; omega) | (simp; omega)), ?_⟩ | (intro ep) | fail)))
    all_goals (conv => whnf)
    all_goals (subst hx; rfl)
end Go.Ab.V

/-
  Parts laid one after the other. No condition but the lengths.
-/
namespace Go.Ab.V
open Go.Proofs

/-- how many tones -/
def tot : List (List Tn) → Nat
  | [] => 0
  | p :: r => p.length + tot r
theorem tot_flat : ∀ P : List (List Tn), P.flatten.length = tot P
  | [] => rfl
  | p :: r => by rw [List.flatten_cons, List.length_append, tot, tot_flat r]
theorem sh_tn (B E : Nat) (l : List Tn) : List.map (fun r => List.map (AV.sh1 B E) r) (l.map tnR) = l.map tnR := by
  rw [List.map_map]
  exact List.map_congr_left fun x _ => rfl
def A61 : Ann := fun r => match r with
  | 13 => { slots := [(2, 0)] }
  | _ => {}
set_option maxHeartbeats 8000000 in
set_option maxRecDepth 100000 in
theorem concat61 (P : List (List Tn)) (hl : P.length ≤ 1000000) (ht : tot P ≤ 1000000) : HRet C.P 61 [prtsA P] (fun B eps => .oslc (.d B) (eps 0) 3 0 (tot P) false) (fun B eps => [.vec (eps 0) (P.flatten.map tnR)]) := by
  refine hret_of (okx [] [80]) mixed (A := A61) 1 Try.func61 rfl ?_ (fun B E eps => ⟨fun k => eps k + E, rfl, by rw [List.map_cons, AObj.sh, sh_tn]; rfl⟩)
  (repeat' (first | exact rfl | ((conv => whnf); first | exact rfl | exact ⟨rfl, rfl⟩ | refine ⟨(by kernel_rfl : drawOk _ _ _ _ = true), ?_⟩ | refine ⟨(by kernel_rfl : planOk _ _ _ _ = true), ?_⟩ | refine ⟨rfl, ?_⟩ | refine ⟨by (first | omega | (simp (disch := omega) only [wrapI]; omega) | (simp (disch := omega) only [wrapI]; simp; omega) | (simp; omega)), ?_⟩ | (intro ep) | (refine ifB (fun hb => ?_) (fun hb => ?_) <;> (try simp only [decide_eq_true_eq, decide_eq_false_iff_not, beq_iff_eq, beq_eq_false_iff_ne, bne_iff_ne, bne_eq_false_iff_eq, ne_eq, not_false_eq_true, not_true_eq_false, Bool.not_eq_true, Bool.not_eq_true', Bool.not_eq_false', Int.not_lt, Int.not_le] at hb) <;> (try simp (disch := omega) only [wrapI] at hb) <;> (try (exfalso; omega))) | fail)))
  all_goals (conv => whnf)
  refine loopY (okx [] [80]) mixed (A := A61) [0, 3, 9, 10, 11] [] (S := { z : Nat × Nat // z.1 ≤ P.length ∧ z.2 + tot (P.drop z.1) = tot P })
    (fr := fun s => frOf 0 36 [(0, prtsA P), (3, .int .i64 (s.1.2 : Int)), (9, prtsA P), (10, .int .i64 (P.length : Int)), (11, .int .i64 (s.1.1 : Int))])
    (h := fun s => ⟨[.hole], []⟩) (μ := fun s => P.length - s.1.1) ⟨(0, 0), by simp⟩ ?_ ?_
    [0, 3] [] (S' := Unit) (X := fun _ => 0) (frX := fun s => frOf 0 36 [(0, prtsA P), (3, .int .i64 (tot P : Int))]) (hX := fun s => ⟨[.hole], []⟩)
    [] [] (S2 := Empty) (frR := fun s => frOf 0 36 []) (hR := fun s => ⟨[.hole], []⟩) ?_ ?_ ?_
  · exact rfl
  · exact rfl
  · rintro ⟨⟨k, s⟩, hk, hu⟩
    simp only at hk hu
    show aexR _ _ _ (frOf 0 36 [(0, prtsA P), (3, .int .i64 (s : Int)), (9, prtsA P), (10, .int .i64 (P.length : Int)), (11, .int .i64 (k : Int))]) ⟨[.hole], []⟩ _
    (conv => whnf)
    refine ifB (fun g1 => ?_) (fun g1 => ?_)
    · simp only [decide_eq_true_eq] at g1
      have h1 : k < P.length := by omega
      have hx := mapR (f := fun p => [tnsA p]) h1
      rw [List.drop_eq_getElem_cons h1, tot] at hu
      generalize P[k] = p at hx hu
      have hw : IntKind.i64.wrap ((s : Int) + (p.length : Int)) = ((s + p.length : Nat) : Int) := by rw [wrapI (by omega) (by omega)]; omega
      have hg : ¬ (((s + p.length : Nat) : Int) < 0) := by omega
      (repeat' (first | exact rfl | ((conv => whnf); first | refine optS hx ?_ | exact rfl | exact ⟨rfl, rfl⟩ | refine ⟨(by kernel_rfl : drawOk _ _ _ _ = true), ?_⟩ | refine ⟨(by kernel_rfl : planOk _ _ _ _ = true), ?_⟩ | refine ⟨rfl, ?_⟩ | refine ⟨by (first | omega | (simp (disch := omega) only [wrapI]; omega) | (simp (disch := omega) only [wrapI]; simp; omega) | (simp; omega)), ?_⟩ | (intro ep) | (refine ifB (fun hb => ?_) (fun hb => ?_) <;> (try simp only [decide_eq_true_eq, decide_eq_false_iff_not, beq_iff_eq, beq_eq_false_iff_ne, bne_iff_ne, bne_eq_false_iff_eq, ne_eq, not_false_eq_true, not_true_eq_false, Bool.not_eq_true, Bool.not_eq_true', Bool.not_eq_false', Int.not_lt, Int.not_le] at hb) <;> (try simp (disch := omega) only [wrapI] at hb) <;> (try (exfalso; omega))) | fail)))
      all_goals (conv => whnf)
      exact back_of ⟨(k + 1, s + p.length), by simp only; omega, by simp only; omega⟩ ⟨by rw [hw]; (first | exact rfl | (simp (disch := omega) only [wrapI]; exact rfl)), rfl, by simp only; omega⟩
    · simp only [decide_eq_false_iff_not] at g1
      have : k = P.length := by omega
      subst this
      rw [List.drop_length, tot] at hu
      have : s = tot P := by omega
      subst this
      (repeat' (first | exact rfl | ((conv => whnf); first | exact rfl | exact ⟨rfl, rfl⟩ | refine ⟨(by kernel_rfl : drawOk _ _ _ _ = true), ?_⟩ | refine ⟨(by kernel_rfl : planOk _ _ _ _ = true), ?_⟩ | refine ⟨rfl, ?_⟩ | refine ⟨by (first | omega | (simp (disch := omega) only [wrapI]; omega) | (simp (disch := omega) only [wrapI]; simp; omega) | (simp; omega)), ?_⟩ | (intro ep) | fail)))
      all_goals (conv => whnf)
      exact back_of () ⟨rfl, rfl, rfl⟩
  · rintro ⟨⟩
  · rintro ⟨⟩
    have hG := grow80 (h := ⟨[.hole], []⟩) ht
    (repeat' (first | exact rfl | ((conv => whnf); first | exact rfl | exact ⟨rfl, rfl⟩ | refine ⟨(by kernel_rfl : drawOk _ _ _ _ = true), ?_⟩ | refine ⟨(by kernel_rfl : planOk _ _ _ _ = true), ?_⟩ | refine ⟨rfl, ?_⟩ | refine ⟨by (first | omega | (simp (disch := omega) only [wrapI]; omega) | (simp (disch := omega) only [wrapI]; simp; omega) | (simp; omega)), ?_⟩ | (intro ep) | (refine ifB (fun hb => ?_) (fun hb => ?_) <;> (try simp only [decide_eq_true_eq, decide_eq_false_iff_not, beq_iff_eq, beq_eq_false_iff_ne, bne_iff_ne, bne_eq_false_iff_eq, ne_eq, not_false_eq_true, not_true_eq_false, Bool.not_eq_true, Bool.not_eq_true', Bool.not_eq_false', Int.not_lt, Int.not_le] at hb) <;> (try simp (disch := omega) only [wrapI] at hb) <;> (try (exfalso; omega))) | fail)))
    all_goals (conv => whnf)
    refine hG.mono ?_
    rintro r h' ⟨ep, rfl, rfl⟩
    (conv => whnf)
    (repeat' (first | exact rfl | ((conv => whnf); first | exact rfl | exact ⟨rfl, rfl⟩ | refine ⟨(by kernel_rfl : drawOk _ _ _ _ = true), ?_⟩ | refine ⟨(by kernel_rfl : planOk _ _ _ _ = true), ?_⟩ | refine ⟨rfl, ?_⟩ | refine ⟨by (first | omega | (simp (disch := omega) only [wrapI]; omega) | (simp (disch := omega) only [wrapI]; simp; omega) | (simp; omega)), ?_⟩ | (intro ep) | (refine ifB (fun hb => ?_) (fun hb => ?_) <;> (try simp only [decide_eq_true_eq, decide_eq_false_iff_not, beq_iff_eq, beq_eq_false_iff_ne, bne_iff_ne, bne_eq_false_iff_eq, ne_eq, not_false_eq_true, not_true_eq_false, Bool.not_eq_true, Bool.not_eq_true', Bool.not_eq_false', Int.not_lt, Int.not_le] at hb) <;> (try simp (disch := omega) only [wrapI] at hb) <;> (try (exfalso; omega))) | fail)))
    all_goals (conv => whnf)
    refine loopY (okx [] [80]) mixed (A := A61) [6, 25, 26, 27] [] (S := { z : Nat × Nat // z.1 ≤ P.length ∧ tot (P.take z.1) + tot (P.drop z.1) = tot P })
      (fr := fun s => frOf 0 36 [(6, .oslc (.d 0) s.1.2 3 0 (tot (P.take s.1.1)) false), (25, prtsA P), (26, .int .i64 (P.length : Int)), (27, .int .i64 (s.1.1 : Int))])
      (h := fun s => ⟨[.hole], [.vec s.1.2 ((P.take s.1.1).flatten.map tnR)]⟩) (μ := fun s => P.length - s.1.1) ⟨(0, ep), by simp [tot]⟩ ?_ ?_
      [6] [] (S' := Nat) (X := fun _ => 2) (frX := fun e => frOf 0 36 [(6, .oslc (.d 0) e 3 0 (tot P) false)]) (hX := fun e => ⟨[.hole], [.vec e (P.flatten.map tnR)]⟩)
      [] [] (S2 := Empty) (frR := fun s => frOf 0 36 []) (hR := fun s => ⟨[.hole], []⟩) ?_ ?_ ?_
    · exact rfl
    · exact rfl
    · rintro ⟨⟨k, e⟩, hk, hu⟩
      simp only at hk hu
      show aexR _ _ _ (frOf 0 36 [(6, .oslc (.d 0) e 3 0 (tot (P.take k)) false), (25, prtsA P), (26, .int .i64 (P.length : Int)), (27, .int .i64 (k : Int))]) ⟨[.hole], [.vec e ((P.take k).flatten.map tnR)]⟩ _
      (conv => whnf)
      refine ifB (fun g1 => ?_) (fun g1 => ?_)
      · simp only [decide_eq_true_eq] at g1
        have h1 : k < P.length := by omega
        have hx := mapR (f := fun p => [tnsA p]) h1
        have hk1 : P.take (k + 1) = P.take k ++ [P[k]] := by rw [List.take_add_one, List.getElem?_eq_getElem h1]; rfl
        rw [List.drop_eq_getElem_cons h1, tot] at hu
        generalize P[k] = p at hx hu hk1
        have hlen : (((P.take k).flatten).map tnR).length = tot (P.take k) := by rw [List.length_map, tot_flat]
        have hpl : (p.map tnR).length = p.length := List.length_map ..
        have hnew : tot (P.take (k + 1)) = tot (P.take k) + p.length := by rw [hk1, ← tot_flat, List.flatten_append, List.length_append, tot_flat]; simp
        (repeat' (first | exact rfl | ((conv => whnf); first | refine optS hx ?_ | exact rfl | exact ⟨rfl, rfl⟩ | refine ⟨(by kernel_rfl : drawOk _ _ _ _ = true), ?_⟩ | refine ⟨(by kernel_rfl : planOk _ _ _ _ = true), ?_⟩ | refine ⟨rfl, ?_⟩ | refine ⟨by (first | omega | (simp (disch := omega) only [wrapI]; omega) | (simp (disch := omega) only [wrapI]; simp; omega) | (simp; omega)), ?_⟩ | (intro ep) | (refine ifB (fun hb => ?_) (fun hb => ?_) <;> (try simp only [decide_eq_true_eq, decide_eq_false_iff_not, beq_iff_eq, beq_eq_false_iff_ne, bne_iff_ne, bne_eq_false_iff_eq, ne_eq, not_false_eq_true, not_true_eq_false, Bool.not_eq_true, Bool.not_eq_true', Bool.not_eq_false', Int.not_lt, Int.not_le] at hb) <;> (try simp (disch := omega) only [wrapI] at hb) <;> (try (exfalso; omega))) | fail)))
        (conv => whnf)
        have T1 : List.take p.length (List.drop 0 (List.map tnR p)) = p.map tnR := by rw [List.drop_zero, List.take_of_length_le (by rw [hpl]; exact Nat.le_refl _)]
        have T2 : List.take (tot (P.take k)) (List.drop 0 (List.map tnR (P.take k).flatten)) = (P.take k).flatten.map tnR := by rw [List.drop_zero, List.take_of_length_le (by rw [hlen]; exact Nat.le_refl _)]
        have T3 : (P.take (k + 1)).flatten.map tnR = (P.take k).flatten.map tnR ++ p.map tnR := by rw [hk1, List.flatten_append, List.map_append]; simp
        rw [T1, T2, hpl]
        refine back_of ⟨(k + 1, ep), by simp only; omega, by simp only; omega⟩ ⟨?_, ?_, by simp only; omega⟩
        · simp only
          rw [hnew]
          (first | exact rfl | (simp (disch := omega) only [wrapI]; exact rfl))
        · simp only
          rw [T3]
          rfl
      · simp only [decide_eq_false_iff_not] at g1
        have : k = P.length := by omega
        subst this
        (repeat' (first | exact rfl | ((conv => whnf); first | exact rfl | exact ⟨rfl, rfl⟩ | refine ⟨(by kernel_rfl : drawOk _ _ _ _ = true), ?_⟩ | refine ⟨(by kernel_rfl : planOk _ _ _ _ = true), ?_⟩ | refine ⟨rfl, ?_⟩ | refine ⟨by (first | omega | (simp (disch := omega) only [wrapI]; omega) | (simp (disch := omega) only [wrapI]; simp; omega) | (simp; omega)), ?_⟩ | (intro ep) | fail)))
        all_goals (conv => whnf)
        exact back_of e ⟨rfl, by rw [List.take_length]; rfl, by rw [List.take_length]; rfl⟩
    · rintro ⟨⟩
    · rintro e
      (repeat' (first | exact rfl | ((conv => whnf); first | exact rfl | exact ⟨rfl, rfl⟩ | refine ⟨(by kernel_rfl : drawOk _ _ _ _ = true), ?_⟩ | refine ⟨(by kernel_rfl : planOk _ _ _ _ = true), ?_⟩ | refine ⟨rfl, ?_⟩ | refine ⟨by (first | omega | (simp (disch := omega) only [wrapI]; omega) | (simp (disch := omega) only [wrapI]; simp; omega) | (simp; omega)), ?_⟩ | (intro ep) | fail)))
      all_goals (conv => whnf)
      exact ⟨fun _ => e, rfl, rfl⟩
/-- .. as a literal -/
theorem concatP (P : List (List Tn)) (hl : P.length ≤ 1000000) (ht : tot P ≤ 1000000) : PRet C.P 61 [prtsA P] (tnsA P.flatten) := by
  refine (concat61 P hl ht).pret (fun eps o ho => ?_) (fun eps => ?_) rfl (fun h => ?_)
  · rcases List.mem_singleton.1 ho with rfl
    exact pure_map _ fun x => rfl
  · (conv => whnf)
    rw [← tot_flat]
    (conv => lhs; whnf)
    generalize instDecidableEqNat (eps 0) (eps 0) = d
    cases d with
    | isTrue h => rfl
    | isFalse h => exact absurd rfl h
  · (conv => whnf)
end Go.Ab.V
