/-
  What is proved here serves the law's text: each part says its own claim and its conditions. No condition is left open.
-/
import Derived.Test.YtchkiolagohnlaaKQ
import Derived.Test.YtchkiolagohnlaaKR
import Derived.Test.YtchkiolagohnlaaKT
set_option linter.unusedSimpArgs false
set_option linter.unusedVariables false

/-
  Concords, in plain terms: the sorted list's pairs, and all pairs. No condition.
-/
namespace Go.Ab.V

def bad4 (c : Int) : Bool := decide (c = 1) || decide (c = 2) || decide (c = 10) || decide (c = 11)
def bad2 (c : Int) : Bool := decide (c = 5) || decide (c = 6)
def okP (f : Bool) (a b : Int) : Bool := !(bad4 ((b - a) % 12)) && !(f && bad2 ((b - a) % 12))
/-- the pairs of a list, one with all that follow -/
def pc : Bool → List Int → Bool
  | _, [] => true
  | f, a :: r => (r.all fun b => okP f a b) && pc false r
/-- all pairs -/
def rc (l : List Int) : Bool := l.all fun a => l.all fun b => !((l.all fun x => decide (a ≤ x)) && (bad4 ((b - a) % 12) || bad2 ((b - a) % 12))) && !(decide (a < b) && bad4 ((b - a) % 12))
def Rc (a b : Int) : Prop := bad4 ((b - a) % 12) = false
def conc (l : List Int) : Prop := ∀ a ∈ l, ∀ b ∈ l, (a < b → Rc a b) ∧ ((∀ x ∈ l, a ≤ x) → bad2 ((b - a) % 12) = false)
theorem Rc_self (a : Int) : Rc a a := by unfold Rc; rw [Int.sub_self]; decide
theorem bad2_self (a : Int) : bad2 ((a - a) % 12) = false := by rw [Int.sub_self]; decide
theorem rc_iff (l : List Int) : rc l = true ↔ conc l := by
  unfold rc conc
  simp only [List.all_eq_true, Bool.and_eq_true, Bool.not_eq_true', Bool.and_eq_false_iff, Bool.or_eq_false_iff, decide_eq_false_iff_not]
  constructor
  · intro h a ha b hb
    obtain ⟨h1, h2⟩ := h a ha b hb
    refine ⟨fun hlt => ?_, fun hm => ?_⟩
    · rcases h2 with h2 | h2
      · exact absurd hlt h2
      · exact h2
    · rcases h1 with h1 | h1
      · exfalso
        have : (l.all fun x => decide (a ≤ x)) = true := by simpa using hm
        rw [this] at h1; cases h1
      · exact h1.2
  · intro h a ha b hb
    obtain ⟨h1, h2⟩ := h a ha b hb
    constructor
    · cases hm : (l.all fun x => decide (a ≤ x))
      · exact .inl rfl
      · have hm2 : ∀ x ∈ l, a ≤ x := by simpa using hm
        refine .inr ⟨?_, h2 hm2⟩
        by_cases e : a < b
        · exact h1 e
        · have : a = b := by have := hm2 b hb; omega
          subst this
          exact Rc_self a
    · by_cases e : a < b
      · exact .inr (h1 e)
      · exact .inl e
theorem pc_false (l : List Int) : pc false l = true ↔ l.Pairwise Rc := by
  induction l with
  | nil => simp [pc]
  | cons a r ih =>
    simp only [pc, Bool.and_eq_true, List.all_eq_true, ih, List.pairwise_cons, okP, Bool.false_and, Bool.not_false, Bool.and_true, Bool.not_eq_true']
    rfl
theorem pair_iff {l : List Int} (hs : l.Pairwise (· ≤ ·)) : l.Pairwise Rc ↔ ∀ a ∈ l, ∀ b ∈ l, a < b → Rc a b := by
  induction l with
  | nil => simp
  | cons m r ih =>
    obtain ⟨h1, h2⟩ := List.pairwise_cons.1 hs
    rw [List.pairwise_cons, ih h2]
    constructor
    · rintro ⟨a1, a2⟩ a ha b hb hlt
      rcases List.mem_cons.1 ha with rfl | _
      · rcases List.mem_cons.1 hb with rfl | hb
        · omega
        · exact a1 b hb
      · rename_i ha2
        rcases List.mem_cons.1 hb with rfl | hb
        · have := h1 a ha2; omega
        · exact a2 a ha2 b hb hlt
    · intro h
      refine ⟨fun b hb => ?_, fun a ha b hb hlt => h a (List.mem_cons_of_mem _ ha) b (List.mem_cons_of_mem _ hb) hlt⟩
      by_cases e : m < b
      · exact h m (by simp) b (List.mem_cons_of_mem _ hb) e
      · have : m = b := by have := h1 b hb; omega
        subst this
        exact Rc_self m
theorem pc_true {l : List Int} (hs : l.Pairwise (· ≤ ·)) : pc true l = true ↔ conc l := by
  cases l with
  | nil => simp [pc, conc]
  | cons m r =>
    obtain ⟨h1, h2⟩ := List.pairwise_cons.1 hs
    have hp := pair_iff hs
    rw [List.pairwise_cons] at hp
    simp only [pc, Bool.and_eq_true, List.all_eq_true, pc_false, okP, Bool.true_and, Bool.not_eq_true']
    constructor
    · rintro ⟨a1, a2⟩ a ha b hb
      refine ⟨fun hlt => hp.1 ⟨fun x hx => (a1 x hx).1, a2⟩ a ha b hb hlt, fun hm => ?_⟩
      have ham : a = m := by
        have u := hm m (by simp)
        rcases List.mem_cons.1 ha with e | ha
        · exact e
        · have := h1 a ha; omega
      subst ham
      rcases List.mem_cons.1 hb with rfl | hb
      · exact bad2_self b
      · exact (a1 b hb).2
    · intro h
      obtain ⟨q1, q2⟩ := hp.2 fun a ha b hb hlt => (h a ha b hb).1 hlt
      refine ⟨fun b hb => ⟨q1 b hb, (h m (by simp) b (List.mem_cons_of_mem _ hb)).2 fun x hx => ?_⟩, q2⟩
      rcases List.mem_cons.1 hx with rfl | hx
      · exact Int.le_refl _
      · exact h1 x hx
theorem conc_mem {l m : List Int} (h : ∀ x, x ∈ l ↔ x ∈ m) : conc l ↔ conc m := by
  unfold conc
  constructor
  · intro c a ha b hb
    obtain ⟨c1, c2⟩ := c a ((h a).2 ha) b ((h b).2 hb)
    exact ⟨c1, fun hm => c2 fun x hx => hm x ((h x).1 hx)⟩
  · intro c a ha b hb
    obtain ⟨c1, c2⟩ := c a ((h a).1 ha) b ((h b).1 hb)
    exact ⟨c1, fun hm => c2 fun x hx => hm x ((h x).2 hx)⟩
theorem conc_map (l : List Int) (n : Int) : conc (l.map (· + n)) ↔ conc l := by
  unfold conc Rc
  constructor
  · intro c a ha b hb
    obtain ⟨c1, c2⟩ := c (a + n) (List.mem_map.2 ⟨a, ha, rfl⟩) (b + n) (List.mem_map.2 ⟨b, hb, rfl⟩)
    rw [show b + n - (a + n) = b - a by omega] at c1 c2
    refine ⟨fun hlt => c1 (by omega), fun hm => c2 fun x hx => ?_⟩
    obtain ⟨y, hy, rfl⟩ := List.mem_map.1 hx
    have := hm y hy
    omega
  · intro c a ha b hb
    obtain ⟨a', ha', rfl⟩ := List.mem_map.1 ha
    obtain ⟨b', hb', rfl⟩ := List.mem_map.1 hb
    obtain ⟨c1, c2⟩ := c a' ha' b' hb'
    rw [show b' + n - (a' + n) = b' - a' by omega]
    refine ⟨fun hlt => c1 (by omega), fun hm => c2 fun x hx => ?_⟩
    have := hm (x + n) (List.mem_map.2 ⟨x, hx, rfl⟩)
    omega
theorem srt_pair (l : List Int) : (srt l).Pairwise (· ≤ ·) := by
  have := List.pairwise_mergeSort (le := fun x y : Int => decide (x ≤ y)) (fun a b c h1 h2 => by simp at *; omega) (fun a b => by simp; omega) l
  exact this.imp fun h => by simpa using h
theorem srt_mem (l : List Int) (x : Int) : x ∈ srt l ↔ x ∈ l := (List.mergeSort_perm l _).mem_iff
theorem pc_srt (l : List Int) : pc true (srt l) = rc l := by
  have h1 := pc_true (srt_pair l)
  have h2 := rc_iff l
  have h3 := conc_mem (srt_mem l)
  cases hp : pc true (srt l) <;> cases hr : rc l
  · rfl
  · exfalso; rw [hp] at h1; rw [hr] at h2; simp at h1 h2; exact h1 (h3.2 h2)
  · exfalso; rw [hp] at h1; rw [hr] at h2; simp at h1 h2; exact h2 (h3.1 h1)
  · rfl
theorem rc_congr {l m : List Int} (h : conc l ↔ conc m) : rc l = rc m := by
  have h1 := rc_iff l
  have h2 := rc_iff m
  cases hp : rc l <;> cases hr : rc m
  · rfl
  · exfalso; rw [hp] at h1; rw [hr] at h2; simp at h1 h2; exact h1 (h.2 h2)
  · exfalso; rw [hp] at h1; rw [hr] at h2; simp at h1 h2; exact h2 (h.1 h1)
  · rfl
end Go.Ab.V

/-
  Concordant: the program's walk. No condition but the length and that the numbers are ints.
-/
namespace Go.Ab.V
open Go.Proofs

def A27 : Ann := fun r => match r with
  | 1 => { slots := [(2, 0)] }
  | _ => {}
abbrev X27 := okx [] [59]
theorem pc_cons {s : List Int} {k : Nat} (f : Bool) (h : k < s.length) : pc f (s.drop k) = (((s.drop (k + 1)).all fun b => okP f s[k] b) && pc false (s.drop (k + 1))) := by
  rw [List.drop_eq_getElem_cons h, pc]
theorem u64w (x : Int) : IntKind.u64.wrap x = x % 18446744073709551616 := by
  simp [IntKind.wrap, IntKind.bits, IntKind.signed]
theorem uint_diff {a b : Int} (ha : -9223372036854775808 ≤ a ∧ a ≤ 9223372036854775807) (hb : -9223372036854775808 ≤ b ∧ b ≤ 9223372036854775807) (h : a ≤ b) :
    (IntKind.u64.wrap (IntKind.u64.wrap b - IntKind.u64.wrap a)).tmod 12 = (b - a) % 12 := by
  rw [u64w, u64w, u64w]
  have e : (b % 18446744073709551616 - a % 18446744073709551616) % 18446744073709551616 = b - a := by omega
  rw [e, Int.tmod_eq_emod_of_nonneg (by omega)]
set_option maxHeartbeats 8000000 in
set_option maxRecDepth 100000 in
theorem conc27 (l : List Int) (hl : l.length ≤ 100000) (hb : ∀ x ∈ l, -9223372036854775808 ≤ x ∧ x ≤ 9223372036854775807) : PRet C.P 27 [intsA l] (.bool (rc l)) := by
  rw [← pc_srt]
  have hbs : ∀ x ∈ srt l, -9223372036854775808 ≤ x ∧ x ≤ 9223372036854775807 := fun x hx => hb x ((srt_mem l x).1 hx)
  have hps := srt_pair l
  have hsl : (srt l).length = l.length := List.length_mergeSort _
  refine pret_of X27 mixed (A := A27) 1 Try.func27 rfl ?_
  (repeat' (first | exact rfl | ((conv => whnf); first | exact rfl | exact ⟨rfl, rfl⟩ | refine ⟨(by kernel_rfl : drawOk _ _ _ _ = true), ?_⟩ | refine ⟨(by kernel_rfl : planOk _ _ _ _ = true), ?_⟩ | refine ⟨rfl, ?_⟩ | refine ⟨by (first | omega | (simp (disch := omega) only [wrapI]; omega) | (simp (disch := omega) only [wrapI]; simp; omega) | (simp; omega)), ?_⟩ | (intro ep) | (refine ifB (fun hb => ?_) (fun hb => ?_) <;> (try simp only [decide_eq_true_eq, decide_eq_false_iff_not, beq_iff_eq, beq_eq_false_iff_ne, bne_iff_ne, bne_eq_false_iff_eq, ne_eq, not_false_eq_true, not_true_eq_false, Bool.not_eq_true, Bool.not_eq_true', Bool.not_eq_false', Int.not_lt, Int.not_le] at hb) <;> (try simp (disch := omega) only [wrapI] at hb) <;> (try (exfalso; omega))) | fail)))
  all_goals (conv => whnf)
  have hrow : (List.take 0 (List.replicate l.length [AV.int IntKind.i64 0]) ++ List.take l.length (List.take l.length (List.drop 0 (ints l))) ++ List.drop (0 + (List.take l.length (List.take l.length (List.drop 0 (ints l)))).length) (List.replicate l.length [AV.int IntKind.i64 0])) = ints l := by
    have : (ints l).length = l.length := by simp [ints]
    simp [this, List.take_of_length_le]
  refine (sort59 (zs := l) (id := .s 0) (ep := ep) (congrArg (fun x => some (AObj.vec ep x)) hrow) (by omega)).mono ?_
  rintro r h' ⟨rfl, rfl⟩
  obtain ⟨s, hs⟩ : ∃ s, s = srt l := ⟨_, rfl⟩
  rw [← hs] at hbs hps hsl ⊢
  rw [← hsl] at hl ⊢
  (repeat' (first | exact rfl | ((conv => whnf); first | exact rfl | exact ⟨rfl, rfl⟩ | refine ⟨(by kernel_rfl : drawOk _ _ _ _ = true), ?_⟩ | refine ⟨(by kernel_rfl : planOk _ _ _ _ = true), ?_⟩ | refine ⟨rfl, ?_⟩ | refine ⟨by (first | omega | (simp (disch := omega) only [wrapI]; omega) | (simp (disch := omega) only [wrapI]; simp; omega) | (simp; omega)), ?_⟩ | (intro ep) | (refine ifB (fun hb => ?_) (fun hb => ?_) <;> (try simp only [decide_eq_true_eq, decide_eq_false_iff_not, beq_iff_eq, beq_eq_false_iff_ne, bne_iff_ne, bne_eq_false_iff_eq, ne_eq, not_false_eq_true, not_true_eq_false, Bool.not_eq_true, Bool.not_eq_true', Bool.not_eq_false', Int.not_lt, Int.not_le] at hb) <;> (try simp (disch := omega) only [wrapI] at hb) <;> (try (exfalso; omega))) | fail)))
  all_goals (conv => whnf)
  clear hrow
  obtain ⟨R, hR⟩ : ∃ R, R = pc true s := ⟨_, rfl⟩
  rw [← hR]
  refine loopY X27 mixed (A := A27) [3, 17, 18, 19] [0] (S := { k : Nat // k ≤ s.length ∧ pc (decide (k = 0)) (s.drop k) = R })
    (fr := fun z => frOf 0 52 [(3, .oslc (.s 0) ep 1 0 s.length false), (17, .oslc (.s 0) ep 1 0 s.length false), (18, .int .i64 (s.length : Int)), (19, .int .i64 (z.1 : Int))])
    (h := fun z => ⟨[.vec ep (ints s)], []⟩) (μ := fun z => s.length - z.1) ⟨0, Nat.zero_le _, by simpa using hR.symm⟩ ?_ ?_
    [] [] (S' := { _u : Unit // R = true }) (X := fun _ => 0) (frX := fun z => frOf 0 52 []) (hX := fun z => ⟨[.hole], []⟩)
    [2] [] (S2 := { _u : Unit // R = false }) (frR := fun z => frOf 0 52 [(2, .bool false)]) (hR := fun z => ⟨[.hole], []⟩) ?_ ?_ ?_
  · exact rfl
  · exact rfl
  · rintro ⟨k, hk, hu⟩
    show aexR _ _ _ (frOf 0 52 [(3, .oslc (.s 0) ep 1 0 s.length false), (17, .oslc (.s 0) ep 1 0 s.length false), (18, .int .i64 (s.length : Int)), (19, .int .i64 (k : Int))]) ⟨[.vec ep (ints s)], []⟩ _
    (conv => whnf)
    refine ifB (fun g1 => ?_) (fun g1 => ?_)
    · simp only [decide_eq_true_eq] at g1
      have h1 : k < s.length := by omega
      have hm := intsR h1
      have ha := hbs s[k] (List.getElem_mem h1)
      have hle : ∀ b ∈ s.drop (k + 1), s[k] ≤ b := by
        have h2 := List.drop_eq_getElem_cons h1
        have h3 : (s.drop k).Pairwise (· ≤ ·) := hps.sublist (List.drop_sublist _ _)
        rw [h2] at h3
        exact (List.pairwise_cons.1 h3).1
      rw [pc_cons _ h1] at hu
      generalize s[k] = a at hm ha hle hu
      obtain ⟨M, hM⟩ : ∃ M, M = ((s.drop (k + 1)).all fun b => okP (decide (k = 0)) a b) := ⟨_, rfl⟩
      rw [← hM] at hu
      (repeat' (first | exact rfl | ((conv => whnf); first | refine optS hm ?_ | exact rfl | exact ⟨rfl, rfl⟩ | refine ⟨(by kernel_rfl : drawOk _ _ _ _ = true), ?_⟩ | refine ⟨(by kernel_rfl : planOk _ _ _ _ = true), ?_⟩ | refine ⟨rfl, ?_⟩ | refine ⟨by (first | omega | (simp (disch := omega) only [wrapI]; omega) | (simp (disch := omega) only [wrapI]; simp; omega) | (simp; omega)), ?_⟩ | (intro ep) | (refine ifB (fun hb => ?_) (fun hb => ?_) <;> (try simp only [decide_eq_true_eq, decide_eq_false_iff_not, beq_iff_eq, beq_eq_false_iff_ne, bne_iff_ne, bne_eq_false_iff_eq, ne_eq, not_false_eq_true, not_true_eq_false, Bool.not_eq_true, Bool.not_eq_true', Bool.not_eq_false', Int.not_lt, Int.not_le] at hb) <;> (try simp (disch := omega) only [wrapI] at hb) <;> (try (exfalso; omega))) | fail)))
      all_goals (conv => whnf)
      refine loopY X27 mixed (A := A27) [3, 4, 5, 17, 18, 19, 27, 28, 29] [0] (S := { j : Nat // j ≤ s.length - (k + 1) ∧ ((s.drop (k + 1 + j)).all fun b => okP (decide (k = 0)) a b) = M })
        (fr := fun z => frOf 0 52 [(3, .oslc (.s 0) ep 1 0 s.length false), (4, .int .i64 (k : Int)), (5, .int .i64 a), (17, .oslc (.s 0) ep 1 0 s.length false), (18, .int .i64 (s.length : Int)), (19, .int .i64 (k : Int)), (27, .oslc (.s 0) ep 1 (k + 1) (s.length - (k + 1)) false), (28, .int .i64 ((s.length - (k + 1) : Nat) : Int)), (29, .int .i64 (z.1 : Int))])
        (h := fun z => ⟨[.vec ep (ints s)], []⟩) (μ := fun z => s.length - (k + 1) - z.1) ⟨0, Nat.zero_le _, by rw [Nat.add_zero]; exact hM.symm⟩ ?_ ?_
        [3, 17, 18, 19] [0] (S' := { _u : Unit // M = true }) (X := fun _ => 2) (frX := fun z => frOf 0 52 [(3, .oslc (.s 0) ep 1 0 s.length false), (17, .oslc (.s 0) ep 1 0 s.length false), (18, .int .i64 (s.length : Int)), (19, .int .i64 (k : Int))]) (hX := fun z => ⟨[.vec ep (ints s)], []⟩)
        [2] [] (S2 := { _u : Unit // M = false }) (frR := fun z => frOf 0 52 [(2, .bool false)]) (hR := fun z => ⟨[.hole], []⟩) ?_ ?_ ?_
      · have e1 : (IntKind.i64.wrap ((k : Int) + 1)).toNat = k + 1 := by rw [wrapI (by omega) (by omega)]; omega
        show maskF 0 [3, 4, 5, 17, 18, 19, 27, 28, 29] _ = frOf 0 52 [(3, .oslc (.s 0) ep 1 0 s.length false), (4, .int .i64 (k : Int)), (5, .int .i64 a), (17, .oslc (.s 0) ep 1 0 s.length false), (18, .int .i64 (s.length : Int)), (19, .int .i64 (k : Int)), (27, .oslc (.s 0) ep 1 (k + 1) (s.length - (k + 1)) false), (28, .int .i64 ((s.length - (k + 1) : Nat) : Int)), (29, .int .i64 0)]
        rw [e1, Nat.zero_add (k + 1)]
        exact rfl
      · exact rfl
      · rintro ⟨j, hj, hv⟩
        show aexR _ _ _ (frOf 0 52 [(3, .oslc (.s 0) ep 1 0 s.length false), (4, .int .i64 (k : Int)), (5, .int .i64 a), (17, .oslc (.s 0) ep 1 0 s.length false), (18, .int .i64 (s.length : Int)), (19, .int .i64 (k : Int)), (27, .oslc (.s 0) ep 1 (k + 1) (s.length - (k + 1)) false), (28, .int .i64 ((s.length - (k + 1) : Nat) : Int)), (29, .int .i64 (j : Int))]) ⟨[.vec ep (ints s)], []⟩ _
        (conv => whnf)
        refine ifB (fun g2 => ?_) (fun g2 => ?_)
        · simp only [decide_eq_true_eq] at g2
          have h2 : k + 1 + j < s.length := by omega
          have hm2 : (ints s)[(k + 1) + ((j : Nat) : Int).toNat]? = some [.int .i64 s[k + 1 + j]] := by
            rw [Int.toNat_natCast]; simp [ints, h2]
          rw [List.drop_eq_getElem_cons h2, List.all_cons] at hv
          have hb2 := hbs s[k + 1 + j] (List.getElem_mem h2)
          have hab : a ≤ s[k + 1 + j] := hle _ (by rw [List.mem_iff_getElem]; exact ⟨j, by simp; omega, by simp⟩)
          generalize s[k + 1 + j] = b at hm2 hv hb2 hab
          have hq := uint_diff ha hb2 hab
          unfold okP at hv
          (repeat' (first | exact rfl | ((conv => whnf); first | refine optS hm2 ?_ | exact rfl | exact ⟨rfl, rfl⟩ | refine ⟨(by kernel_rfl : drawOk _ _ _ _ = true), ?_⟩ | refine ⟨(by kernel_rfl : planOk _ _ _ _ = true), ?_⟩ | refine ⟨rfl, ?_⟩ | refine ⟨by (first | omega | (simp (disch := omega) only [wrapI]; omega) | (simp (disch := omega) only [wrapI]; simp; omega) | (simp; omega)), ?_⟩ | (intro ep) | fail)))
          all_goals (conv => whnf)
          rw [hq]
          obtain ⟨c, hc⟩ : ∃ c, c = (b - a) % 12 := ⟨_, rfl⟩
          rw [← hc] at hv ⊢
          by_cases c1 : c = 1 ∨ c = 2 ∨ c = 10 ∨ c = 11
          · have hM0 : M = false := by
              rw [← hv, show bad4 c = true by unfold bad4; simp; omega]; simp
            (repeat' (first | exact rfl | ((conv => whnf); first | exact rfl | exact ⟨rfl, rfl⟩ | refine ⟨(by kernel_rfl : drawOk _ _ _ _ = true), ?_⟩ | refine ⟨(by kernel_rfl : planOk _ _ _ _ = true), ?_⟩ | refine ⟨rfl, ?_⟩ | refine ⟨by (first | omega | (simp (disch := omega) only [wrapI]; omega) | (simp (disch := omega) only [wrapI]; simp; omega) | (simp; omega)), ?_⟩ | (intro ep) | (refine ifB (fun hb => ?_) (fun hb => ?_) <;> (try simp only [decide_eq_true_eq, decide_eq_false_iff_not, beq_iff_eq, beq_eq_false_iff_ne, bne_iff_ne, bne_eq_false_iff_eq, ne_eq, not_false_eq_true, not_true_eq_false, Bool.not_eq_true, Bool.not_eq_true', Bool.not_eq_false', Int.not_lt, Int.not_le] at hb) <;> (try simp (disch := omega) only [wrapI] at hb) <;> (try (exfalso; omega))) | fail)))
            all_goals (conv => whnf)
            all_goals exact back_of ⟨(), hM0⟩ ⟨rfl, rfl⟩
          have hb4 : bad4 c = false := by unfold bad4; simp; omega
          rw [hb4, Bool.not_false, Bool.true_and] at hv
          by_cases c2 : c = 5 ∨ c = 6
          · have hb2' : bad2 c = true := by unfold bad2; simp; omega
            rw [hb2', Bool.and_true] at hv
            by_cases c3 : k = 0
            · have hM0 : M = false := by rw [← hv]; simp [c3]
              (repeat' (first | exact rfl | ((conv => whnf); first | exact rfl | exact ⟨rfl, rfl⟩ | refine ⟨(by kernel_rfl : drawOk _ _ _ _ = true), ?_⟩ | refine ⟨(by kernel_rfl : planOk _ _ _ _ = true), ?_⟩ | refine ⟨rfl, ?_⟩ | refine ⟨by (first | omega | (simp (disch := omega) only [wrapI]; omega) | (simp (disch := omega) only [wrapI]; simp; omega) | (simp; omega)), ?_⟩ | (intro ep) | (refine ifB (fun hb => ?_) (fun hb => ?_) <;> (try simp only [decide_eq_true_eq, decide_eq_false_iff_not, beq_iff_eq, beq_eq_false_iff_ne, bne_iff_ne, bne_eq_false_iff_eq, ne_eq, not_false_eq_true, not_true_eq_false, Bool.not_eq_true, Bool.not_eq_true', Bool.not_eq_false', Int.not_lt, Int.not_le] at hb) <;> (try simp (disch := omega) only [wrapI] at hb) <;> (try (exfalso; omega))) | fail)))
              all_goals (conv => whnf)
              all_goals exact back_of ⟨(), hM0⟩ ⟨rfl, rfl⟩
            · rw [show decide (k = 0) = false by simp [c3], Bool.not_false, Bool.true_and] at hv
              (repeat' (first | exact rfl | ((conv => whnf); first | exact rfl | exact ⟨rfl, rfl⟩ | refine ⟨(by kernel_rfl : drawOk _ _ _ _ = true), ?_⟩ | refine ⟨(by kernel_rfl : planOk _ _ _ _ = true), ?_⟩ | refine ⟨rfl, ?_⟩ | refine ⟨by (first | omega | (simp (disch := omega) only [wrapI]; omega) | (simp (disch := omega) only [wrapI]; simp; omega) | (simp; omega)), ?_⟩ | (intro ep) | (refine ifB (fun hb => ?_) (fun hb => ?_) <;> (try simp only [decide_eq_true_eq, decide_eq_false_iff_not, beq_iff_eq, beq_eq_false_iff_ne, bne_iff_ne, bne_eq_false_iff_eq, ne_eq, not_false_eq_true, not_true_eq_false, Bool.not_eq_true, Bool.not_eq_true', Bool.not_eq_false', Int.not_lt, Int.not_le] at hb) <;> (try simp (disch := omega) only [wrapI] at hb) <;> (try (exfalso; omega))) | fail)))
              all_goals (conv => whnf)
              all_goals exact back_of ⟨j + 1, by omega, by rw [show decide (k = 0) = false by simp [c3]]; rw [← hv]; rfl⟩ ⟨by (first | exact rfl | (simp (disch := omega) only [wrapI]; exact rfl)), rfl, by simp only; omega⟩
          · have hb2' : bad2 c = false := by unfold bad2; simp; omega
            rw [hb2', Bool.and_false, Bool.not_false, Bool.true_and] at hv
            (repeat' (first | exact rfl | ((conv => whnf); first | exact rfl | exact ⟨rfl, rfl⟩ | refine ⟨(by kernel_rfl : drawOk _ _ _ _ = true), ?_⟩ | refine ⟨(by kernel_rfl : planOk _ _ _ _ = true), ?_⟩ | refine ⟨rfl, ?_⟩ | refine ⟨by (first | omega | (simp (disch := omega) only [wrapI]; omega) | (simp (disch := omega) only [wrapI]; simp; omega) | (simp; omega)), ?_⟩ | (intro ep) | (refine ifB (fun hb => ?_) (fun hb => ?_) <;> (try simp only [decide_eq_true_eq, decide_eq_false_iff_not, beq_iff_eq, beq_eq_false_iff_ne, bne_iff_ne, bne_eq_false_iff_eq, ne_eq, not_false_eq_true, not_true_eq_false, Bool.not_eq_true, Bool.not_eq_true', Bool.not_eq_false', Int.not_lt, Int.not_le] at hb) <;> (try simp (disch := omega) only [wrapI] at hb) <;> (try (exfalso; omega))) | fail)))
            all_goals (conv => whnf)
            all_goals exact back_of ⟨j + 1, by omega, hv⟩ ⟨by (first | exact rfl | (simp (disch := omega) only [wrapI]; exact rfl)), rfl, by simp only; omega⟩
        · simp only [decide_eq_false_iff_not] at g2
          rw [List.drop_eq_nil_of_le (by omega), List.all_nil] at hv
          (repeat' (first | exact rfl | ((conv => whnf); first | exact rfl | exact ⟨rfl, rfl⟩ | refine ⟨(by kernel_rfl : drawOk _ _ _ _ = true), ?_⟩ | refine ⟨(by kernel_rfl : planOk _ _ _ _ = true), ?_⟩ | refine ⟨rfl, ?_⟩ | refine ⟨by (first | omega | (simp (disch := omega) only [wrapI]; omega) | (simp (disch := omega) only [wrapI]; simp; omega) | (simp; omega)), ?_⟩ | (intro ep) | fail)))
          all_goals (conv => whnf)
          all_goals exact back_of ⟨(), hv.symm⟩ ⟨rfl, rfl, rfl⟩
      · rintro ⟨⟨⟩, hx⟩
        rw [hx, Bool.false_and] at hu
        exact back_of ⟨(), hu.symm⟩ ⟨rfl, rfl⟩
      · rintro ⟨⟨⟩, hx⟩
        rw [hx, Bool.true_and] at hu
        (repeat' (first | exact rfl | ((conv => whnf); first | exact rfl | exact ⟨rfl, rfl⟩ | refine ⟨(by kernel_rfl : drawOk _ _ _ _ = true), ?_⟩ | refine ⟨(by kernel_rfl : planOk _ _ _ _ = true), ?_⟩ | refine ⟨rfl, ?_⟩ | refine ⟨by (first | omega | (simp (disch := omega) only [wrapI]; omega) | (simp (disch := omega) only [wrapI]; simp; omega) | (simp; omega)), ?_⟩ | (intro ep) | fail)))
        all_goals (conv => whnf)
        all_goals exact back_of ⟨k + 1, by omega, by simpa using hu⟩ ⟨by (first | exact rfl | (simp (disch := omega) only [wrapI]; exact rfl)), rfl, by simp only; omega⟩
    · simp only [decide_eq_false_iff_not] at g1
      rw [List.drop_eq_nil_of_le (by omega), pc] at hu
      (repeat' (first | exact rfl | ((conv => whnf); first | exact rfl | exact ⟨rfl, rfl⟩ | refine ⟨(by kernel_rfl : drawOk _ _ _ _ = true), ?_⟩ | refine ⟨(by kernel_rfl : planOk _ _ _ _ = true), ?_⟩ | refine ⟨rfl, ?_⟩ | refine ⟨by (first | omega | (simp (disch := omega) only [wrapI]; omega) | (simp (disch := omega) only [wrapI]; simp; omega) | (simp; omega)), ?_⟩ | (intro ep) | fail)))
      all_goals (conv => whnf)
      all_goals exact back_of ⟨(), hu.symm⟩ ⟨rfl, rfl, rfl⟩
  · rintro ⟨⟨⟩, hx⟩
    (repeat' (first | exact rfl | ((conv => whnf); first | exact rfl | exact ⟨rfl, rfl⟩ | refine ⟨(by kernel_rfl : drawOk _ _ _ _ = true), ?_⟩ | refine ⟨(by kernel_rfl : planOk _ _ _ _ = true), ?_⟩ | refine ⟨rfl, ?_⟩ | refine ⟨by (first | omega | (simp (disch := omega) only [wrapI]; omega) | (simp (disch := omega) only [wrapI]; simp; omega) | (simp; omega)), ?_⟩ | (intro ep) | fail)))
    all_goals (conv => whnf)
    all_goals (subst hx; rfl)
  · rintro ⟨⟨⟩, hx⟩
    (repeat' (first | exact rfl | ((conv => whnf); first | exact rfl | exact ⟨rfl, rfl⟩ | refine ⟨(by kernel_rfl : drawOk _ _ _ _ = true), ?_⟩ | refine ⟨(by kernel_rfl : planOk _ _ _ _ = true), ?_⟩ | refine ⟨rfl, ?_⟩ | refine ⟨by (first | omega | (simp (disch := omega) only [wrapI]; omega) | (simp (disch := omega) only [wrapI]; simp; omega) | (simp; omega)), ?_⟩ | (intro ep) | fail)))
    all_goals (conv => whnf)
    all_goals (subst hx; rfl)
end Go.Ab.V

/-
  Concordant, as the document says it. No condition but the length and that the numbers are ints.
-/
namespace Go.Ab.V
open Go.Proofs

def A60 : Ann := fun _ => {}
def A28 : Ann := fun _ => {}
theorem class_eq {a b : Int} (ha : -9223372036854775808 ≤ a ∧ a ≤ 9223372036854775807) (hb : -9223372036854775808 ≤ b ∧ b ≤ 9223372036854775807) :
    ((b.tmod 12 - a.tmod 12).tmod 12 + 12).tmod 12 = (b - a) % 12 := by
  have h1 : ∀ x : Int, x.tmod 12 = if 0 ≤ x then x % 12 else -((-x) % 12) := fun x => by
    split
    · exact Int.tmod_eq_emod_of_nonneg (by assumption)
    · have := Int.neg_tmod (-x) 12
      rw [Int.neg_neg] at this
      rw [this, Int.tmod_eq_emod_of_nonneg (by omega)]
  rw [h1 b, h1 a]
  rw [h1 (_ - _)]
  rw [h1 (_ + 12)]
  (repeat' split) <;> omega
set_option maxHeartbeats 2000000 in
theorem class60 (a b : Int) (ha : -9223372036854775808 ≤ a ∧ a ≤ 9223372036854775807) (hb : -9223372036854775808 ≤ b ∧ b ≤ 9223372036854775807) : PRet C.P 60 [.int .i64 a, .int .i64 b] (.int .i64 ((b - a) % 12)) := by
  refine pret_of ok mixed (A := A60) 0 Try.func60 rfl ?_
  (repeat' (first | exact rfl | ((conv => whnf); first | exact rfl | exact ⟨rfl, rfl⟩ | refine ⟨(by kernel_rfl : drawOk _ _ _ _ = true), ?_⟩ | refine ⟨(by kernel_rfl : planOk _ _ _ _ = true), ?_⟩ | refine ⟨rfl, ?_⟩ | refine ⟨by (first | omega | (simp (disch := omega) only [wrapI]; omega) | (simp (disch := omega) only [wrapI]; simp; omega) | (simp; omega)), ?_⟩ | (intro ep) | (refine ifB (fun hb => ?_) (fun hb => ?_) <;> (try simp only [decide_eq_true_eq, decide_eq_false_iff_not, beq_iff_eq, beq_eq_false_iff_ne, bne_iff_ne, bne_eq_false_iff_eq, ne_eq, not_false_eq_true, not_true_eq_false, Bool.not_eq_true, Bool.not_eq_true', Bool.not_eq_false', Int.not_lt, Int.not_le] at hb) <;> (try simp (disch := omega) only [wrapI] at hb) <;> (try (exfalso; omega))) | fail)))
  all_goals (conv => whnf)
  have hx : ∀ x : Int, -12 < x.tmod 12 ∧ x.tmod 12 < 12 := fun x => by
    by_cases h : 0 ≤ x
    · rw [Int.tmod_eq_emod_of_nonneg h]; omega
    · have := Int.neg_tmod (-x) 12
      rw [Int.neg_neg] at this
      rw [this, Int.tmod_eq_emod_of_nonneg (by omega)]; omega
  have x1 := hx a
  have x2 := hx b
  have x3 := hx (b.tmod 12 - a.tmod 12)
  rw [wrapI (x := b.tmod 12 - a.tmod 12) (by omega) (by omega), wrapI (by omega) (by omega), class_eq ha hb]
def prP (l : List Int) (a b : Int) : Bool := !((l.all fun x => decide (a ≤ x)) && (bad4 ((b - a) % 12) || bad2 ((b - a) % 12))) && !(decide (a < b) && bad4 ((b - a) % 12))
theorem rc_all (l : List Int) : rc l = l.all fun a => l.all fun b => prP l a b := rfl
theorem all_drop {l : List Int} {k : Nat} (f : Int → Bool) (h : k < l.length) : (l.drop k).all f = (f l[k] && (l.drop (k + 1)).all f) := by rw [List.drop_eq_getElem_cons h, List.all_cons]
set_option maxHeartbeats 8000000 in
set_option maxRecDepth 100000 in
theorem refConc28 (l : List Int) (hl : l.length ≤ 100000) (hb : ∀ x ∈ l, -9223372036854775808 ≤ x ∧ x ≤ 9223372036854775807) : PRet C.P 28 [intsA l] (.bool (rc l)) := by
  obtain ⟨R, hR⟩ : ∃ R, R = rc l := ⟨_, rfl⟩
  rw [← hR]
  rw [rc_all] at hR
  refine pret_of ok mixed (A := A28) 0 Try.func28 rfl ?_
  (repeat' (first | exact rfl | ((conv => whnf); first | exact rfl | exact ⟨rfl, rfl⟩ | refine ⟨(by kernel_rfl : drawOk _ _ _ _ = true), ?_⟩ | refine ⟨(by kernel_rfl : planOk _ _ _ _ = true), ?_⟩ | refine ⟨rfl, ?_⟩ | refine ⟨by (first | omega | (simp (disch := omega) only [wrapI]; omega) | (simp (disch := omega) only [wrapI]; simp; omega) | (simp; omega)), ?_⟩ | (intro ep) | (refine ifB (fun hb => ?_) (fun hb => ?_) <;> (try simp only [decide_eq_true_eq, decide_eq_false_iff_not, beq_iff_eq, beq_eq_false_iff_ne, bne_iff_ne, bne_eq_false_iff_eq, ne_eq, not_false_eq_true, not_true_eq_false, Bool.not_eq_true, Bool.not_eq_true', Bool.not_eq_false', Int.not_lt, Int.not_le] at hb) <;> (try simp (disch := omega) only [wrapI] at hb) <;> (try (exfalso; omega))) | fail)))
  all_goals (conv => whnf)
  refine loopY ok mixed (A := A28) [0, 3] [] (S := { i : Nat // i ≤ l.length ∧ ((l.drop i).all fun a => l.all fun b => prP l a b) = R })
    (fr := fun z => frOf 0 97 [(0, intsA l), (3, .int .i64 (z.1 : Int))]) (h := fun z => ⟨[], []⟩) (μ := fun z => l.length - z.1) ⟨0, Nat.zero_le _, by simpa using hR.symm⟩ ?_ ?_
    [] [] (S' := { _u : Unit // R = true }) (X := fun _ => 0) (frX := fun z => frOf 0 97 []) (hX := fun z => ⟨[], []⟩)
    [2] [] (S2 := { _u : Unit // R = false }) (frR := fun z => frOf 0 97 [(2, .bool false)]) (hR := fun z => ⟨[], []⟩) ?_ ?_ ?_
  · exact rfl
  · exact rfl
  · rintro ⟨i, hi, hu⟩
    show aexR _ _ _ (frOf 0 97 [(0, intsA l), (3, .int .i64 (i : Int))]) ⟨[], []⟩ _
    (conv => whnf)
    refine ifB (fun g1 => ?_) (fun g1 => ?_)
    · simp only [decide_eq_true_eq] at g1
      have h1 : i < l.length := by omega
      have hm := intsR h1
      have ha := hb l[i] (List.getElem_mem h1)
      rw [all_drop _ h1] at hu
      generalize l[i] = a at hm ha hu
      obtain ⟨Q, hQ⟩ : ∃ Q, Q = (l.all fun b => prP l a b) := ⟨_, rfl⟩
      rw [← hQ] at hu
      obtain ⟨L, hL⟩ : ∃ L, L = (l.all fun x => decide (a ≤ x)) := ⟨_, rfl⟩
      (repeat' (first | exact rfl | ((conv => whnf); first | exact rfl | exact ⟨rfl, rfl⟩ | refine ⟨(by kernel_rfl : drawOk _ _ _ _ = true), ?_⟩ | refine ⟨(by kernel_rfl : planOk _ _ _ _ = true), ?_⟩ | refine ⟨rfl, ?_⟩ | refine ⟨by (first | omega | (simp (disch := omega) only [wrapI]; omega) | (simp (disch := omega) only [wrapI]; simp; omega) | (simp; omega)), ?_⟩ | (intro ep) | (refine ifB (fun hb => ?_) (fun hb => ?_) <;> (try simp only [decide_eq_true_eq, decide_eq_false_iff_not, beq_iff_eq, beq_eq_false_iff_ne, bne_iff_ne, bne_eq_false_iff_eq, ne_eq, not_false_eq_true, not_true_eq_false, Bool.not_eq_true, Bool.not_eq_true', Bool.not_eq_false', Int.not_lt, Int.not_le] at hb) <;> (try simp (disch := omega) only [wrapI] at hb) <;> (try (exfalso; omega))) | fail)))
      all_goals (conv => whnf)
      refine loopY ok mixed (A := A28) [0, 3, 4, 5] [] (S := { z : Nat × Bool // z.1 ≤ l.length ∧ (z.2 && (l.drop z.1).all fun x => decide (a ≤ x)) = L })
        (fr := fun z => frOf 0 97 [(0, intsA l), (3, .int .i64 (i : Int)), (4, .bool z.1.2), (5, .int .i64 (z.1.1 : Int))]) (h := fun z => ⟨[], []⟩) (μ := fun z => l.length - z.1.1) ⟨(0, true), Nat.zero_le _, by simp [hL]⟩ ?_ ?_
        [0, 3, 4] [] (S' := Unit) (X := fun _ => 2) (frX := fun z => frOf 0 97 [(0, intsA l), (3, .int .i64 (i : Int)), (4, .bool L)]) (hX := fun z => ⟨[], []⟩)
        [] [] (S2 := Empty) (frR := fun z => frOf 0 97 []) (hR := fun z => ⟨[], []⟩) ?_ ?_ ?_
      · exact rfl
      · exact rfl
      · rintro ⟨⟨k, lo⟩, hk, hv⟩
        simp only at hk hv
        show aexR _ _ _ (frOf 0 97 [(0, intsA l), (3, .int .i64 (i : Int)), (4, .bool lo), (5, .int .i64 (k : Int))]) ⟨[], []⟩ _
        (conv => whnf)
        refine ifB (fun g2 => ?_) (fun g2 => ?_)
        · simp only [decide_eq_true_eq] at g2
          have h2 : k < l.length := by omega
          have hm2 := intsR h2
          rw [all_drop _ h2] at hv
          generalize l[k] = b at hm2 hv
          cases lo with
          | true =>
            (repeat' (first | exact rfl | ((conv => whnf); first | refine optS hm ?_ | refine optS hm2 ?_ | exact rfl | exact ⟨rfl, rfl⟩ | refine ⟨(by kernel_rfl : drawOk _ _ _ _ = true), ?_⟩ | refine ⟨(by kernel_rfl : planOk _ _ _ _ = true), ?_⟩ | refine ⟨rfl, ?_⟩ | refine ⟨by (first | omega | (simp (disch := omega) only [wrapI]; omega) | (simp (disch := omega) only [wrapI]; simp; omega) | (simp; omega)), ?_⟩ | (intro ep) | fail)))
            all_goals (conv => whnf)
            all_goals exact back_of ⟨(k + 1, decide (a ≤ b)), by simp only; omega, by simpa using hv⟩ ⟨by (first | exact rfl | (simp (disch := omega) only [wrapI]; exact rfl)), rfl, by simp only; omega⟩
          | false =>
            (repeat' (first | exact rfl | ((conv => whnf); first | refine optS hm ?_ | refine optS hm2 ?_ | exact rfl | exact ⟨rfl, rfl⟩ | refine ⟨(by kernel_rfl : drawOk _ _ _ _ = true), ?_⟩ | refine ⟨(by kernel_rfl : planOk _ _ _ _ = true), ?_⟩ | refine ⟨rfl, ?_⟩ | refine ⟨by (first | omega | (simp (disch := omega) only [wrapI]; omega) | (simp (disch := omega) only [wrapI]; simp; omega) | (simp; omega)), ?_⟩ | (intro ep) | fail)))
            all_goals (conv => whnf)
            all_goals exact back_of ⟨(k + 1, false), by simp only; omega, by simpa using hv⟩ ⟨by (first | exact rfl | (simp (disch := omega) only [wrapI]; exact rfl)), rfl, by simp only; omega⟩
        · simp only [decide_eq_false_iff_not] at g2
          rw [List.drop_eq_nil_of_le (by omega), List.all_nil, Bool.and_true] at hv
          subst hv
          (repeat' (first | exact rfl | ((conv => whnf); first | exact rfl | exact ⟨rfl, rfl⟩ | refine ⟨(by kernel_rfl : drawOk _ _ _ _ = true), ?_⟩ | refine ⟨(by kernel_rfl : planOk _ _ _ _ = true), ?_⟩ | refine ⟨rfl, ?_⟩ | refine ⟨by (first | omega | (simp (disch := omega) only [wrapI]; omega) | (simp (disch := omega) only [wrapI]; simp; omega) | (simp; omega)), ?_⟩ | (intro ep) | fail)))
          all_goals (conv => whnf)
          all_goals exact back_of () ⟨rfl, rfl, rfl⟩
      · rintro ⟨⟩
      · intro u
        (repeat' (first | exact rfl | ((conv => whnf); first | exact rfl | exact ⟨rfl, rfl⟩ | refine ⟨(by kernel_rfl : drawOk _ _ _ _ = true), ?_⟩ | refine ⟨(by kernel_rfl : planOk _ _ _ _ = true), ?_⟩ | refine ⟨rfl, ?_⟩ | refine ⟨by (first | omega | (simp (disch := omega) only [wrapI]; omega) | (simp (disch := omega) only [wrapI]; simp; omega) | (simp; omega)), ?_⟩ | (intro ep) | (refine ifB (fun hb => ?_) (fun hb => ?_) <;> (try simp only [decide_eq_true_eq, decide_eq_false_iff_not, beq_iff_eq, beq_eq_false_iff_ne, bne_iff_ne, bne_eq_false_iff_eq, ne_eq, not_false_eq_true, not_true_eq_false, Bool.not_eq_true, Bool.not_eq_true', Bool.not_eq_false', Int.not_lt, Int.not_le] at hb) <;> (try simp (disch := omega) only [wrapI] at hb) <;> (try (exfalso; omega))) | fail)))
        all_goals (conv => whnf)
        refine loopY ok mixed (A := A28) [0, 3, 4, 6] [] (S := { k : Nat // k ≤ l.length ∧ ((l.drop k).all fun b => prP l a b) = Q })
          (fr := fun z => frOf 0 97 [(0, intsA l), (3, .int .i64 (i : Int)), (4, .bool L), (6, .int .i64 (z.1 : Int))]) (h := fun z => ⟨[], []⟩) (μ := fun z => l.length - z.1) ⟨0, Nat.zero_le _, by simpa using hQ.symm⟩ ?_ ?_
          [0, 3] [] (S' := { _u : Unit // Q = true }) (X := fun _ => 4) (frX := fun z => frOf 0 97 [(0, intsA l), (3, .int .i64 (i : Int))]) (hX := fun z => ⟨[], []⟩)
          [2] [] (S2 := { _u : Unit // Q = false }) (frR := fun z => frOf 0 97 [(2, .bool false)]) (hR := fun z => ⟨[], []⟩) ?_ ?_ ?_
        · exact rfl
        · exact rfl
        · rintro ⟨k, hk, hv⟩
          show aexR _ _ _ (frOf 0 97 [(0, intsA l), (3, .int .i64 (i : Int)), (4, .bool L), (6, .int .i64 (k : Int))]) ⟨[], []⟩ _
          (conv => whnf)
          refine ifB (fun g2 => ?_) (fun g2 => ?_)
          · simp only [decide_eq_true_eq] at g2
            have h2 : k < l.length := by omega
            have hm2 := intsR h2
            have hb2 := hb l[k] (List.getElem_mem h2)
            rw [all_drop _ h2] at hv
            generalize l[k] = b at hm2 hv hb2
            have hc := class60 a b ha hb2
            obtain ⟨T, hT⟩ : ∃ T, T = ((l.drop (k + 1)).all fun b => prP l a b) := ⟨_, rfl⟩
            rw [← hT] at hv
            unfold prP at hv
            rw [← hL] at hv
            obtain ⟨c, hcc⟩ : ∃ c, c = (b - a) % 12 := ⟨_, rfl⟩
            rw [← hcc] at hc hv
            by_cases c1 : c = 1 ∨ c = 2 ∨ c = 10 ∨ c = 11
            · have e4 : bad4 c = true := by unfold bad4; simp; omega
              rw [e4] at hv
              cases L with
              | true =>
                have hQ0 : Q = false := by rw [← hv]; simp
                (repeat' (first | exact rfl | ((conv => whnf); first | refine optS hm ?_ | refine optS hm2 ?_ | refine ⟨_, hc, ?_⟩ | exact rfl | exact ⟨rfl, rfl⟩ | refine ⟨(by kernel_rfl : drawOk _ _ _ _ = true), ?_⟩ | refine ⟨(by kernel_rfl : planOk _ _ _ _ = true), ?_⟩ | refine ⟨rfl, ?_⟩ | refine ⟨by (first | omega | (simp (disch := omega) only [wrapI]; omega) | (simp (disch := omega) only [wrapI]; simp; omega) | (simp; omega)), ?_⟩ | (intro ep) | (refine ifB (fun hb => ?_) (fun hb => ?_) <;> (try simp only [decide_eq_true_eq, decide_eq_false_iff_not, beq_iff_eq, beq_eq_false_iff_ne, bne_iff_ne, bne_eq_false_iff_eq, ne_eq, not_false_eq_true, not_true_eq_false, Bool.not_eq_true, Bool.not_eq_true', Bool.not_eq_false', Int.not_lt, Int.not_le] at hb) <;> (try simp (disch := omega) only [wrapI] at hb) <;> (try (exfalso; omega))) | fail)))
                all_goals (conv => whnf)
                all_goals exact back_of ⟨(), hQ0⟩ ⟨rfl, rfl⟩
              | false =>
                by_cases c2 : a < b
                · have hQ0 : Q = false := by rw [← hv]; simp [c2]
                  (repeat' (first | exact rfl | ((conv => whnf); first | refine optS hm ?_ | refine optS hm2 ?_ | refine ⟨_, hc, ?_⟩ | exact rfl | exact ⟨rfl, rfl⟩ | refine ⟨(by kernel_rfl : drawOk _ _ _ _ = true), ?_⟩ | refine ⟨(by kernel_rfl : planOk _ _ _ _ = true), ?_⟩ | refine ⟨rfl, ?_⟩ | refine ⟨by (first | omega | (simp (disch := omega) only [wrapI]; omega) | (simp (disch := omega) only [wrapI]; simp; omega) | (simp; omega)), ?_⟩ | (intro ep) | (refine ifB (fun hb => ?_) (fun hb => ?_) <;> (try simp only [decide_eq_true_eq, decide_eq_false_iff_not, beq_iff_eq, beq_eq_false_iff_ne, bne_iff_ne, bne_eq_false_iff_eq, ne_eq, not_false_eq_true, not_true_eq_false, Bool.not_eq_true, Bool.not_eq_true', Bool.not_eq_false', Int.not_lt, Int.not_le] at hb) <;> (try simp (disch := omega) only [wrapI] at hb) <;> (try (exfalso; omega))) | fail)))
                  all_goals (conv => whnf)
                  all_goals exact back_of ⟨(), hQ0⟩ ⟨rfl, rfl⟩
                · rw [show decide (a < b) = false by simp [c2]] at hv
                  (repeat' (first | exact rfl | ((conv => whnf); first | refine optS hm ?_ | refine optS hm2 ?_ | refine ⟨_, hc, ?_⟩ | exact rfl | exact ⟨rfl, rfl⟩ | refine ⟨(by kernel_rfl : drawOk _ _ _ _ = true), ?_⟩ | refine ⟨(by kernel_rfl : planOk _ _ _ _ = true), ?_⟩ | refine ⟨rfl, ?_⟩ | refine ⟨by (first | omega | (simp (disch := omega) only [wrapI]; omega) | (simp (disch := omega) only [wrapI]; simp; omega) | (simp; omega)), ?_⟩ | (intro ep) | (refine ifB (fun hb => ?_) (fun hb => ?_) <;> (try simp only [decide_eq_true_eq, decide_eq_false_iff_not, beq_iff_eq, beq_eq_false_iff_ne, bne_iff_ne, bne_eq_false_iff_eq, ne_eq, not_false_eq_true, not_true_eq_false, Bool.not_eq_true, Bool.not_eq_true', Bool.not_eq_false', Int.not_lt, Int.not_le] at hb) <;> (try simp (disch := omega) only [wrapI] at hb) <;> (try (exfalso; omega))) | fail)))
                  all_goals (conv => whnf)
                  all_goals exact back_of ⟨k + 1, by omega, by rw [← hT]; simpa using hv⟩ ⟨by (first | exact rfl | (simp (disch := omega) only [wrapI]; exact rfl)), rfl, by simp only; omega⟩
            · have e4 : bad4 c = false := by unfold bad4; simp; omega
              rw [e4, Bool.false_or, Bool.and_false, Bool.not_false, Bool.and_true] at hv
              by_cases c2 : c = 5 ∨ c = 6
              · have e2 : bad2 c = true := by unfold bad2; simp; omega
                rw [e2, Bool.and_true] at hv
                cases L with
                | true =>
                  have hQ0 : Q = false := by rw [← hv]; simp
                  (repeat' (first | exact rfl | ((conv => whnf); first | refine optS hm ?_ | refine optS hm2 ?_ | refine ⟨_, hc, ?_⟩ | exact rfl | exact ⟨rfl, rfl⟩ | refine ⟨(by kernel_rfl : drawOk _ _ _ _ = true), ?_⟩ | refine ⟨(by kernel_rfl : planOk _ _ _ _ = true), ?_⟩ | refine ⟨rfl, ?_⟩ | refine ⟨by (first | omega | (simp (disch := omega) only [wrapI]; omega) | (simp (disch := omega) only [wrapI]; simp; omega) | (simp; omega)), ?_⟩ | (intro ep) | (refine ifB (fun hb => ?_) (fun hb => ?_) <;> (try simp only [decide_eq_true_eq, decide_eq_false_iff_not, beq_iff_eq, beq_eq_false_iff_ne, bne_iff_ne, bne_eq_false_iff_eq, ne_eq, not_false_eq_true, not_true_eq_false, Bool.not_eq_true, Bool.not_eq_true', Bool.not_eq_false', Int.not_lt, Int.not_le] at hb) <;> (try simp (disch := omega) only [wrapI] at hb) <;> (try (exfalso; omega))) | fail)))
                  all_goals (conv => whnf)
                  all_goals exact back_of ⟨(), hQ0⟩ ⟨rfl, rfl⟩
                | false =>
                  (repeat' (first | exact rfl | ((conv => whnf); first | refine optS hm ?_ | refine optS hm2 ?_ | refine ⟨_, hc, ?_⟩ | exact rfl | exact ⟨rfl, rfl⟩ | refine ⟨(by kernel_rfl : drawOk _ _ _ _ = true), ?_⟩ | refine ⟨(by kernel_rfl : planOk _ _ _ _ = true), ?_⟩ | refine ⟨rfl, ?_⟩ | refine ⟨by (first | omega | (simp (disch := omega) only [wrapI]; omega) | (simp (disch := omega) only [wrapI]; simp; omega) | (simp; omega)), ?_⟩ | (intro ep) | (refine ifB (fun hb => ?_) (fun hb => ?_) <;> (try simp only [decide_eq_true_eq, decide_eq_false_iff_not, beq_iff_eq, beq_eq_false_iff_ne, bne_iff_ne, bne_eq_false_iff_eq, ne_eq, not_false_eq_true, not_true_eq_false, Bool.not_eq_true, Bool.not_eq_true', Bool.not_eq_false', Int.not_lt, Int.not_le] at hb) <;> (try simp (disch := omega) only [wrapI] at hb) <;> (try (exfalso; omega))) | fail)))
                  all_goals (conv => whnf)
                  all_goals exact back_of ⟨k + 1, by omega, by rw [← hT]; simpa using hv⟩ ⟨by (first | exact rfl | (simp (disch := omega) only [wrapI]; exact rfl)), rfl, by simp only; omega⟩
              · have e2 : bad2 c = false := by unfold bad2; simp; omega
                rw [e2, Bool.and_false, Bool.not_false, Bool.true_and] at hv
                cases L with
                | true =>
                  (repeat' (first | exact rfl | ((conv => whnf); first | refine optS hm ?_ | refine optS hm2 ?_ | refine ⟨_, hc, ?_⟩ | exact rfl | exact ⟨rfl, rfl⟩ | refine ⟨(by kernel_rfl : drawOk _ _ _ _ = true), ?_⟩ | refine ⟨(by kernel_rfl : planOk _ _ _ _ = true), ?_⟩ | refine ⟨rfl, ?_⟩ | refine ⟨by (first | omega | (simp (disch := omega) only [wrapI]; omega) | (simp (disch := omega) only [wrapI]; simp; omega) | (simp; omega)), ?_⟩ | (intro ep) | (refine ifB (fun hb => ?_) (fun hb => ?_) <;> (try simp only [decide_eq_true_eq, decide_eq_false_iff_not, beq_iff_eq, beq_eq_false_iff_ne, bne_iff_ne, bne_eq_false_iff_eq, ne_eq, not_false_eq_true, not_true_eq_false, Bool.not_eq_true, Bool.not_eq_true', Bool.not_eq_false', Int.not_lt, Int.not_le] at hb) <;> (try simp (disch := omega) only [wrapI] at hb) <;> (try (exfalso; omega))) | fail)))
                  all_goals (conv => whnf)
                  all_goals exact back_of ⟨k + 1, by omega, by rw [← hT]; exact hv⟩ ⟨by (first | exact rfl | (simp (disch := omega) only [wrapI]; exact rfl)), rfl, by simp only; omega⟩
                | false =>
                  (repeat' (first | exact rfl | ((conv => whnf); first | refine optS hm ?_ | refine optS hm2 ?_ | refine ⟨_, hc, ?_⟩ | exact rfl | exact ⟨rfl, rfl⟩ | refine ⟨(by kernel_rfl : drawOk _ _ _ _ = true), ?_⟩ | refine ⟨(by kernel_rfl : planOk _ _ _ _ = true), ?_⟩ | refine ⟨rfl, ?_⟩ | refine ⟨by (first | omega | (simp (disch := omega) only [wrapI]; omega) | (simp (disch := omega) only [wrapI]; simp; omega) | (simp; omega)), ?_⟩ | (intro ep) | (refine ifB (fun hb => ?_) (fun hb => ?_) <;> (try simp only [decide_eq_true_eq, decide_eq_false_iff_not, beq_iff_eq, beq_eq_false_iff_ne, bne_iff_ne, bne_eq_false_iff_eq, ne_eq, not_false_eq_true, not_true_eq_false, Bool.not_eq_true, Bool.not_eq_true', Bool.not_eq_false', Int.not_lt, Int.not_le] at hb) <;> (try simp (disch := omega) only [wrapI] at hb) <;> (try (exfalso; omega))) | fail)))
                  all_goals (conv => whnf)
                  all_goals exact back_of ⟨k + 1, by omega, by rw [← hT]; exact hv⟩ ⟨by (first | exact rfl | (simp (disch := omega) only [wrapI]; exact rfl)), rfl, by simp only; omega⟩
          · simp only [decide_eq_false_iff_not] at g2
            rw [List.drop_eq_nil_of_le (by omega), List.all_nil] at hv
            (repeat' (first | exact rfl | ((conv => whnf); first | exact rfl | exact ⟨rfl, rfl⟩ | refine ⟨(by kernel_rfl : drawOk _ _ _ _ = true), ?_⟩ | refine ⟨(by kernel_rfl : planOk _ _ _ _ = true), ?_⟩ | refine ⟨rfl, ?_⟩ | refine ⟨by (first | omega | (simp (disch := omega) only [wrapI]; omega) | (simp (disch := omega) only [wrapI]; simp; omega) | (simp; omega)), ?_⟩ | (intro ep) | fail)))
            all_goals (conv => whnf)
            all_goals exact back_of ⟨(), hv.symm⟩ ⟨rfl, rfl, rfl⟩
        · rintro ⟨⟨⟩, hx⟩
          rw [hx, Bool.false_and] at hu
          exact back_of ⟨(), hu.symm⟩ ⟨rfl, rfl⟩
        · rintro ⟨⟨⟩, hx⟩
          rw [hx, Bool.true_and] at hu
          (repeat' (first | exact rfl | ((conv => whnf); first | exact rfl | exact ⟨rfl, rfl⟩ | refine ⟨(by kernel_rfl : drawOk _ _ _ _ = true), ?_⟩ | refine ⟨(by kernel_rfl : planOk _ _ _ _ = true), ?_⟩ | refine ⟨rfl, ?_⟩ | refine ⟨by (first | omega | (simp (disch := omega) only [wrapI]; omega) | (simp (disch := omega) only [wrapI]; simp; omega) | (simp; omega)), ?_⟩ | (intro ep) | fail)))
          all_goals (conv => whnf)
          all_goals exact back_of ⟨i + 1, by omega, hu⟩ ⟨by (first | exact rfl | (simp (disch := omega) only [wrapI]; exact rfl)), rfl, by simp only; omega⟩
    · simp only [decide_eq_false_iff_not] at g1
      rw [List.drop_eq_nil_of_le (by omega), List.all_nil] at hu
      (repeat' (first | exact rfl | ((conv => whnf); first | exact rfl | exact ⟨rfl, rfl⟩ | refine ⟨(by kernel_rfl : drawOk _ _ _ _ = true), ?_⟩ | refine ⟨(by kernel_rfl : planOk _ _ _ _ = true), ?_⟩ | refine ⟨rfl, ?_⟩ | refine ⟨by (first | omega | (simp (disch := omega) only [wrapI]; omega) | (simp (disch := omega) only [wrapI]; simp; omega) | (simp; omega)), ?_⟩ | (intro ep) | fail)))
      all_goals (conv => whnf)
      all_goals exact back_of ⟨(), hu.symm⟩ ⟨rfl, rfl, rfl⟩
  · rintro ⟨⟨⟩, hx⟩
    (repeat' (first | exact rfl | ((conv => whnf); first | exact rfl | exact ⟨rfl, rfl⟩ | refine ⟨(by kernel_rfl : drawOk _ _ _ _ = true), ?_⟩ | refine ⟨(by kernel_rfl : planOk _ _ _ _ = true), ?_⟩ | refine ⟨rfl, ?_⟩ | refine ⟨by (first | omega | (simp (disch := omega) only [wrapI]; omega) | (simp (disch := omega) only [wrapI]; simp; omega) | (simp; omega)), ?_⟩ | (intro ep) | fail)))
    all_goals (conv => whnf)
    all_goals (subst hx; rfl)
  · rintro ⟨⟨⟩, hx⟩
    (repeat' (first | exact rfl | ((conv => whnf); first | exact rfl | exact ⟨rfl, rfl⟩ | refine ⟨(by kernel_rfl : drawOk _ _ _ _ = true), ?_⟩ | refine ⟨(by kernel_rfl : planOk _ _ _ _ = true), ?_⟩ | refine ⟨rfl, ?_⟩ | refine ⟨by (first | omega | (simp (disch := omega) only [wrapI]; omega) | (simp (disch := omega) only [wrapI]; simp; omega) | (simp; omega)), ?_⟩ | (intro ep) | fail)))
    all_goals (conv => whnf)
    all_goals (subst hx; rfl)
end Go.Ab.V
