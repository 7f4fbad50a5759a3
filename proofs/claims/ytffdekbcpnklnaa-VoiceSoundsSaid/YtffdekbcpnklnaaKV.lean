/-
  What is proved here serves the law's text: each part says its own claim and its conditions. No condition is left open.
-/
import Derived.Test.YtffdekbcpnklnaaKR
import Derived.Test.YtffdekbcpnklnaaKO
import Derived.Test.YtffdekbcpnklnaaKU
import Derived.Test.YtffdekbcpnklnaaKN
import Derived.Test.YtffdekbcpnklnaaKM
set_option linter.unusedSimpArgs false
set_option linter.unusedVariables false

/-
  Meetings: plain definitions and laws. No condition.
-/
namespace Go.Ab.V
open Go.Proofs

/-- a meeting -/
structure Mt where
  tm : Int
  iv : Int
  mo : Int
def mtR (x : Mt) : List AV := [.int .i64 x.tm, .int .i64 x.iv, .int .i64 x.mo]
def mtsA (l : List Mt) : AV := .lslc 3 (l.map mtR) 0 l.length false
def movO : Option (Int × Int) → Int → Int → Int
  | none, _, _ => 0
  | some p, a, b => mot (a - p.1) (b - p.2)
def meetP (u l : List Tn) : Option (Int × Int) → List Int → List Mt
  | _, [] => []
  | o, t :: r => if atR u t < 0 ∨ atR l t < 0 then meetP u l o r else ⟨t, atR u t - atR l t, movO o (atR u t) (atR l t)⟩ :: meetP u l (some (atR u t, atR l t)) r
/-- two ascending lists as one -/
def mrg : List Int → List Int → List Int
  | [], b => b
  | x :: a, [] => x :: a
  | x :: a, y :: b => if x < y then x :: mrg a (y :: b) else if y < x then y :: mrg (x :: a) b else x :: mrg a b
termination_by a b => a.length + b.length
def meets (u l : List Tn) : List Mt := meetP u l none (mrg (u.map (·.f)) (l.map (·.f)))
def meetV (u l : List Tn) : AV := if chkP [u] ≠ 0 then .tup [.nils, .int .i64 (chkP [u])] else if chkP [l] ≠ 0 then .tup [.nils, .int .i64 (chkP [l])] else .tup [mtsA (meets u l), .int .i64 0]

/-- a part that is right -/
def good (s : Int) : List Tn → Prop
  | [] => True
  | x :: r => 0 ≤ x.p ∧ x.p ≤ 127 ∧ s ≤ x.f ∧ x.f < x.t ∧ x.t ≤ 262144 ∧ good x.t r
theorem good_of {s : Int} : ∀ {l : List Tn}, rgt s l = true → good s l
  | [], _ => trivial
  | x :: r, h => by
    unfold rgt at h
    split at h
    · cases h
    · rename_i hb
      unfold tnBad at hb
      exact ⟨by omega, by omega, by omega, by omega, by omega, good_of h⟩
theorem good_ge : ∀ {l : List Tn} {s : Int}, good s l → ∀ (j : Nat) (h : j < l.length), s ≤ l[j].f
  | [], s, _, j, h => by simp at h
  | x :: r, s, ⟨_, _, h3, h4, _, h6⟩, 0, h => h3
  | x :: r, s, ⟨_, _, h3, h4, _, h6⟩, j + 1, h => by
    have := good_ge h6 j (by simpa using h)
    simp only [List.getElem_cons_succ]
    omega
theorem good_asc : ∀ {l : List Tn} {s : Int}, good s l → asc l
  | [], s, _, i, j, hi, hj => by simp at hj
  | x :: r, s, ⟨_, _, h3, h4, _, h6⟩, i, j + 1, hi, hj => by
    cases i with
    | zero =>
      have := good_ge h6 j (by simpa using hj)
      simp only [List.getElem_cons_succ, List.getElem_cons_zero]
      omega
    | succ i =>
      have := good_asc h6 i j (by omega) (by simpa using hj)
      simpa using this
theorem chk1 {p : List Tn} (h : chkP [p] = 0) : p.length ≤ 400 ∧ good 0 p := by
  unfold chkP at h
  simp only [List.length_singleton, anyB, List.any_cons, List.any_nil, Bool.or_false, decide_eq_true_eq, List.all_cons, List.all_nil, Bool.and_true] at h
  split at h
  · omega
  split at h
  · omega
  split at h
  · rename_i h1 h2; exact ⟨by omega, good_of h2⟩
  · omega
theorem atR_ge : ∀ {l : List Tn} {s : Int} (t : Int), good s l → t < s → atR l t = -1
  | [], s, t, _, _ => rfl
  | x :: r, s, t, ⟨_, _, h3, h4, _, h6⟩, h => by
    unfold atR
    rw [if_neg (by omega)]
    exact atR_ge t h6 (by omega)
/-- the search finds the tone -/
theorem atP_eq : ∀ {l : List Tn} {s : Int} (t : Int), good s l → atP l t = if atR l t < 0 then none else some (atR l t)
  | [], s, t, _ => by simp [atP, begun, atR]
  | x :: r, s, t, ⟨h1, h2, h3, h4, h5, h6⟩ => by
    have ih := atP_eq t h6
    by_cases c1 : x.f ≤ t
    · by_cases c2 : t < x.t
      · rw [show atR (x :: r) t = x.p by rw [atR, if_pos ⟨c1, c2⟩]]
        have hb : begun r t = 0 := by
          cases hr : r with
          | nil => rfl
          | cons y q =>
            have := good_ge h6 0 (by rw [hr]; simp)
            simp only [hr, List.getElem_cons_zero] at this
            unfold begun
            rw [if_neg (by omega)]
        unfold atP begun
        rw [if_pos c1, hb]
        simp [show ¬ x.t ≤ t by omega, show ¬ x.p < 0 by omega]
      · rw [show atR (x :: r) t = atR r t by rw [atR, if_neg (by omega)], ← ih]
        unfold atP
        rw [show begun (x :: r) t = begun r t + 1 by rw [begun, if_pos c1]]
        by_cases c3 : begun r t = 0
        · rw [c3]
          simp [show x.t ≤ t by omega]
        · obtain ⟨b, hb⟩ : ∃ b, begun r t = b + 1 := ⟨begun r t - 1, by omega⟩
          rw [hb]
          simp
    · rw [show atR (x :: r) t = -1 by rw [atR, if_neg (by omega), atR_ge t h6 (by omega)]]
      simp [atP, begun, c1]
/-- strictly ascending -/
def inc : List Int → Prop
  | [] => True
  | x :: r => (∀ y ∈ r, x < y) ∧ inc r
theorem inc_ext : ∀ {a b : List Int}, inc a → inc b → (∀ x, x ∈ a ↔ x ∈ b) → a = b
  | [], [], _, _, _ => rfl
  | [], y :: b, _, _, h => by have := (h y).2 (by simp); simp at this
  | x :: a, [], _, _, h => by have := (h x).1 (by simp); simp at this
  | x :: a, y :: b, ⟨h1, h2⟩, ⟨h3, h4⟩, h => by
    have hxy : x = y := by
      have e1 := (h x).1 (by simp)
      have e2 := (h y).2 (by simp)
      rcases List.mem_cons.1 e1 with rfl | e1
      · rfl
      · rcases List.mem_cons.1 e2 with e2 | e2
        · exact e2.symm
        · have := h3 x e1; have := h1 y e2; omega
    subst hxy
    rw [inc_ext h2 h4 fun z => ⟨fun hz => ?_, fun hz => ?_⟩]
    · rcases List.mem_cons.1 ((h z).1 (by simp [hz])) with rfl | e
      · have := h1 z hz; omega
      · exact e
    · rcases List.mem_cons.1 ((h z).2 (by simp [hz])) with rfl | e
      · have := h3 z hz; omega
      · exact e
theorem mrg_mem : ∀ (a b : List Int) (z : Int), z ∈ mrg a b ↔ z ∈ a ∨ z ∈ b
  | [], b, z => by rw [mrg]; simp
  | x :: a, [], z => by rw [mrg]; simp
  | x :: a, y :: b, z => by
    rw [mrg]
    split
    · rw [List.mem_cons, mrg_mem a (y :: b) z, List.mem_cons]
      simp only [List.mem_cons, or_assoc]
    · split
      · rw [List.mem_cons, mrg_mem (x :: a) b z]
        simp only [List.mem_cons]
        constructor <;> (rintro (h | h | h) <;> simp_all)
      · have : x = y := by omega
        subst this
        rw [List.mem_cons, mrg_mem a b z]
        simp only [List.mem_cons]
        constructor
        · rintro (h | h | h) <;> simp_all
        · rintro ((h | h) | h | h) <;> simp_all
termination_by a b => a.length + b.length
theorem mrg_inc : ∀ (a b : List Int), inc a → inc b → inc (mrg a b)
  | [], b, _, h => by rw [mrg]; exact h
  | x :: a, [], h, _ => by rw [mrg]; exact h
  | x :: a, y :: b, ha, hb => by
    rw [mrg]
    split
    · refine ⟨fun z hz => ?_, mrg_inc a (y :: b) ha.2 hb⟩
      rcases (mrg_mem _ _ _).1 hz with h | h
      · exact ha.1 z h
      · rcases List.mem_cons.1 h with rfl | h
        · assumption
        · have := hb.1 z h; omega
    · split
      · refine ⟨fun z hz => ?_, mrg_inc (x :: a) b ha hb.2⟩
        rcases (mrg_mem _ _ _).1 hz with h | h
        · rcases List.mem_cons.1 h with rfl | h
          · assumption
          · have := ha.1 z h; omega
        · exact hb.1 z h
      · refine ⟨fun z hz => ?_, mrg_inc a b ha.2 hb.2⟩
        rcases (mrg_mem _ _ _).1 hz with h | h
        · exact ha.1 z h
        · have := hb.1 z h; omega
termination_by a b => a.length + b.length
theorem good_inc : ∀ {l : List Tn} {s : Int}, good s l → inc (l.map (·.f)) ∧ ∀ y ∈ l.map (·.f), s ≤ y
  | [], s, _ => ⟨trivial, fun y h => by simp at h⟩
  | x :: r, s, ⟨h1, h2, h3, h4, h5, h6⟩ => by
    obtain ⟨i1, i2⟩ := good_inc h6
    refine ⟨⟨fun y hy => ?_, i1⟩, fun y hy => ?_⟩
    · have := i2 y hy
      show x.f < y
      omega
    · rcases List.mem_cons.1 hy with rfl | hy
      · exact h3
      · have := i2 y hy; omega
end Go.Ab.V

/-
  The lowest and the highest pitch of a part: the program's walk and the document's. No condition but the lengths.
-/
namespace Go.Ab.V
open Go.Proofs

def mn2 (a b : Int) : Int := if (if false = true then a < b else b < a) then b else a
def mx2 (a b : Int) : Int := if (if true = true then a < b else b < a) then b else a
def amb : Int → Int → List Tn → Int × Int
  | lo, hi, [] => (lo, hi)
  | lo, hi, x :: r => amb (mn2 lo x.p) (mx2 hi x.p) r
def ambV (l : List Tn) : AV := if chkP [l] ≠ 0 then .tup [.int .i64 0, .int .i64 0, .int .i64 (chkP [l])] else if l.length = 0 then .tup [.int .i64 0, .int .i64 0, .int .i64 3] else .tup [.int .i64 (amb 127 0 l).1, .int .i64 (amb 127 0 l).2, .int .i64 0]
theorem amb_first {x : Tn} {r : List Tn} (h : good 0 (x :: r)) : amb 127 0 (x :: r) = amb x.p x.p (x :: r) := by
  obtain ⟨h1, h2, -⟩ := h
  unfold amb
  have a : mn2 127 x.p = x.p := by unfold mn2; simp; omega
  have b : mx2 0 x.p = x.p := by unfold mx2; simp; omega
  have c : mn2 x.p x.p = x.p := by unfold mn2; simp
  have d : mx2 x.p x.p = x.p := by unfold mx2; simp
  rw [a, b, c, d]
def A35 : Ann := fun r => match r with
  | 1 => { slots := [(1, 0)] }
  | 9 => { slots := [(2, 1)] }
  | _ => {}
set_option maxHeartbeats 8000000 in
set_option maxRecDepth 100000 in
theorem amb35 (l : List Tn) (nl : l.length ≤ 9223372036854775807) : PRet C.P 35 [tnsA l] (ambV l) := by
  have h1 := checkParts_spec [l] (by simp) (by simpa using nl)
  unfold ambV
  by_cases c1 : chkP [l] ≠ 0
  · rw [if_pos c1]
    generalize chkP [l] = e at h1 c1
    refine pret_of (okx [] [19]) mixed (A := A35) 2 Try.func35 rfl ?_
    (repeat' (first | exact rfl | ((conv => whnf); first | (refine ACalls.fz 0 ?_; (conv => whnf); refine ⟨pure_map (f := fun p : List Tn => [tnsA p]) [l] fun x => rfl, by (repeat' (first | exact trivial | exact eqsP_rows _ (fun x => rfl) | ((conv => whnf); first | exact trivial | refine ⟨rfl, ?_⟩ | refine ⟨?_, ?_⟩ | fail))), by (repeat' (first | exact trivial | exact eqsP_rows _ (fun x => rfl) | ((conv => whnf); first | exact trivial | refine ⟨rfl, ?_⟩ | refine ⟨?_, ?_⟩ | fail))), by (repeat' (first | exact trivial | exact eqsP_rows _ (fun x => rfl) | ((conv => whnf); first | exact trivial | refine ⟨rfl, ?_⟩ | refine ⟨?_, ?_⟩ | fail))), ?_⟩; refine PRet.calls h1 ?_) | exact rfl | exact ⟨rfl, rfl⟩ | refine ⟨(by kernel_rfl : drawOk _ _ _ _ = true), ?_⟩ | refine ⟨(by kernel_rfl : planOk _ _ _ _ = true), ?_⟩ | refine ⟨rfl, ?_⟩ | refine ⟨by (first | omega | (simp (disch := omega) only [wrapI]; omega) | (simp (disch := omega) only [wrapI]; simp; omega) | (simp; omega)), ?_⟩ | (intro ep) | (refine ifB (fun hb => ?_) (fun hb => ?_) <;> (try simp only [decide_eq_true_eq, decide_eq_false_iff_not, beq_iff_eq, beq_eq_false_iff_ne, bne_iff_ne, bne_eq_false_iff_eq, ne_eq, not_false_eq_true, not_true_eq_false, Bool.not_eq_true, Bool.not_eq_true', Bool.not_eq_false', Int.not_lt, Int.not_le] at hb) <;> (try simp (disch := omega) only [wrapI] at hb) <;> (try (exfalso; omega))) | fail)))
  rw [if_neg c1]
  have c1 : chkP [l] = 0 := by omega
  rw [c1] at h1
  have g1 := chk1 c1
  by_cases c2 : l.length = 0
  · rw [if_pos c2]
    refine pret_of (okx [] [19]) mixed (A := A35) 2 Try.func35 rfl ?_
    (repeat' (first | exact rfl | ((conv => whnf); first | (refine ACalls.fz 0 ?_; (conv => whnf); refine ⟨pure_map (f := fun p : List Tn => [tnsA p]) [l] fun x => rfl, by (repeat' (first | exact trivial | exact eqsP_rows _ (fun x => rfl) | ((conv => whnf); first | exact trivial | refine ⟨rfl, ?_⟩ | refine ⟨?_, ?_⟩ | fail))), by (repeat' (first | exact trivial | exact eqsP_rows _ (fun x => rfl) | ((conv => whnf); first | exact trivial | refine ⟨rfl, ?_⟩ | refine ⟨?_, ?_⟩ | fail))), by (repeat' (first | exact trivial | exact eqsP_rows _ (fun x => rfl) | ((conv => whnf); first | exact trivial | refine ⟨rfl, ?_⟩ | refine ⟨?_, ?_⟩ | fail))), ?_⟩; refine PRet.calls h1 ?_) | exact rfl | exact ⟨rfl, rfl⟩ | refine ⟨(by kernel_rfl : drawOk _ _ _ _ = true), ?_⟩ | refine ⟨(by kernel_rfl : planOk _ _ _ _ = true), ?_⟩ | refine ⟨rfl, ?_⟩ | refine ⟨by (first | omega | (simp (disch := omega) only [wrapI]; omega) | (simp (disch := omega) only [wrapI]; simp; omega) | (simp; omega)), ?_⟩ | (intro ep) | (refine ifB (fun hb => ?_) (fun hb => ?_) <;> (try simp only [decide_eq_true_eq, decide_eq_false_iff_not, beq_iff_eq, beq_eq_false_iff_ne, bne_iff_ne, bne_eq_false_iff_eq, ne_eq, not_false_eq_true, not_true_eq_false, Bool.not_eq_true, Bool.not_eq_true', Bool.not_eq_false', Int.not_lt, Int.not_le] at hb) <;> (try simp (disch := omega) only [wrapI] at hb) <;> (try (exfalso; omega))) | fail)))
  rw [if_neg c2]
  obtain ⟨R, hR⟩ : ∃ R, R = amb 127 0 l := ⟨_, rfl⟩
  rw [← hR]
  refine pret_of (okx [] [19]) mixed (A := A35) 2 Try.func35 rfl ?_
  (repeat' (first | exact rfl | ((conv => whnf); first | (refine ACalls.fz 0 ?_; (conv => whnf); refine ⟨pure_map (f := fun p : List Tn => [tnsA p]) [l] fun x => rfl, by (repeat' (first | exact trivial | exact eqsP_rows _ (fun x => rfl) | ((conv => whnf); first | exact trivial | refine ⟨rfl, ?_⟩ | refine ⟨?_, ?_⟩ | fail))), by (repeat' (first | exact trivial | exact eqsP_rows _ (fun x => rfl) | ((conv => whnf); first | exact trivial | refine ⟨rfl, ?_⟩ | refine ⟨?_, ?_⟩ | fail))), by (repeat' (first | exact trivial | exact eqsP_rows _ (fun x => rfl) | ((conv => whnf); first | exact trivial | refine ⟨rfl, ?_⟩ | refine ⟨?_, ?_⟩ | fail))), ?_⟩; refine PRet.calls h1 ?_) | exact rfl | exact ⟨rfl, rfl⟩ | refine ⟨(by kernel_rfl : drawOk _ _ _ _ = true), ?_⟩ | refine ⟨(by kernel_rfl : planOk _ _ _ _ = true), ?_⟩ | refine ⟨rfl, ?_⟩ | refine ⟨by (first | omega | (simp (disch := omega) only [wrapI]; omega) | (simp (disch := omega) only [wrapI]; simp; omega) | (simp; omega)), ?_⟩ | (intro ep) | (refine ifB (fun hb => ?_) (fun hb => ?_) <;> (try simp only [decide_eq_true_eq, decide_eq_false_iff_not, beq_iff_eq, beq_eq_false_iff_ne, bne_iff_ne, bne_eq_false_iff_eq, ne_eq, not_false_eq_true, not_true_eq_false, Bool.not_eq_true, Bool.not_eq_true', Bool.not_eq_false', Int.not_lt, Int.not_le] at hb) <;> (try simp (disch := omega) only [wrapI] at hb) <;> (try (exfalso; omega))) | fail)))
  all_goals (conv => whnf)
  refine loopY (okx [] [19]) mixed (A := A35) [2, 3, 17, 18, 19] [] (S := { z : Nat × Int × Int // z.1 ≤ l.length ∧ amb z.2.1 z.2.2 (l.drop z.1) = R })
    (fr := fun z => frOf 0 34 [(2, .int .i64 z.1.2.1), (3, .int .i64 z.1.2.2), (17, tnsA l), (18, .int .i64 (l.length : Int)), (19, .int .i64 (z.1.1 : Int))])
    (h := fun z => ⟨[.hole, .hole], []⟩) (μ := fun z => l.length - z.1.1) ⟨(0, 127, 0), Nat.zero_le _, hR.symm⟩ ?_ ?_
    [2, 3] [] (S' := Unit) (X := fun _ => 0) (frX := fun z => frOf 0 34 [(2, .int .i64 R.1), (3, .int .i64 R.2)]) (hX := fun z => ⟨[.hole, .hole], []⟩)
    [] [] (S2 := Empty) (frR := fun s => frOf 0 34 []) (hR := fun s => ⟨[], []⟩) ?_ ?_ ?_
  · exact rfl
  · exact rfl
  · rintro ⟨⟨k, lo, hi⟩, hk, hu⟩
    simp only at hk hu
    show aexR _ _ _ (frOf 0 34 [(2, .int .i64 lo), (3, .int .i64 hi), (17, tnsA l), (18, .int .i64 (l.length : Int)), (19, .int .i64 (k : Int))]) ⟨[.hole, .hole], []⟩ _
    (conv => whnf)
    refine ifB (fun g1 => ?_) (fun g1 => ?_)
    · simp only [decide_eq_true_eq] at g1
      have hlt : k < l.length := by omega
      have hm := mapR (f := tnR) hlt
      rw [List.drop_eq_getElem_cons hlt, amb] at hu
      generalize l[k] = x at hm hu
      (repeat' (first | exact rfl | ((conv => whnf); first | refine optS hm ?_ | exact rfl | exact ⟨rfl, rfl⟩ | refine ⟨(by kernel_rfl : drawOk _ _ _ _ = true), ?_⟩ | refine ⟨(by kernel_rfl : planOk _ _ _ _ = true), ?_⟩ | refine ⟨rfl, ?_⟩ | refine ⟨by (first | omega | (simp (disch := omega) only [wrapI]; omega) | (simp (disch := omega) only [wrapI]; simp; omega) | (simp; omega)), ?_⟩ | (intro ep) | (refine ifB (fun hb => ?_) (fun hb => ?_) <;> (try simp only [decide_eq_true_eq, decide_eq_false_iff_not, beq_iff_eq, beq_eq_false_iff_ne, bne_iff_ne, bne_eq_false_iff_eq, ne_eq, not_false_eq_true, not_true_eq_false, Bool.not_eq_true, Bool.not_eq_true', Bool.not_eq_false', Int.not_lt, Int.not_le] at hb) <;> (try simp (disch := omega) only [wrapI] at hb) <;> (try (exfalso; omega))) | fail)))
      all_goals (conv => whnf)
      exact back_of ⟨(k + 1, _, _), by simp only; omega, hu⟩ ⟨by (first | exact rfl | (simp (disch := omega) only [wrapI]; exact rfl)), rfl, by simp only; omega⟩
    · simp only [decide_eq_false_iff_not] at g1
      rw [List.drop_eq_nil_of_le (by omega), amb] at hu
      subst hu
      (repeat' (first | exact rfl | ((conv => whnf); first | exact rfl | exact ⟨rfl, rfl⟩ | refine ⟨(by kernel_rfl : drawOk _ _ _ _ = true), ?_⟩ | refine ⟨(by kernel_rfl : planOk _ _ _ _ = true), ?_⟩ | refine ⟨rfl, ?_⟩ | refine ⟨by (first | omega | (simp (disch := omega) only [wrapI]; omega) | (simp (disch := omega) only [wrapI]; simp; omega) | (simp; omega)), ?_⟩ | (intro ep) | fail)))
      all_goals (conv => whnf)
      exact back_of () ⟨rfl, rfl, rfl⟩
  · rintro ⟨⟩
  · rintro ⟨⟩
    (repeat' (first | exact rfl | ((conv => whnf); first | exact rfl | exact ⟨rfl, rfl⟩ | refine ⟨(by kernel_rfl : drawOk _ _ _ _ = true), ?_⟩ | refine ⟨(by kernel_rfl : planOk _ _ _ _ = true), ?_⟩ | refine ⟨rfl, ?_⟩ | refine ⟨by (first | omega | (simp (disch := omega) only [wrapI]; omega) | (simp (disch := omega) only [wrapI]; simp; omega) | (simp; omega)), ?_⟩ | (intro ep) | fail)))
def A36 : Ann := fun r => match r with
  | 1 => { slots := [(1, 0)] }
  | _ => {}
set_option maxHeartbeats 8000000 in
set_option maxRecDepth 100000 in
theorem refAmb36 (l : List Tn) (nl : l.length ≤ 9223372036854775807) : PRet C.P 36 [tnsA l] (ambV l) := by
  have h1 := refCheckParts_spec [l] (by simp) (by simpa using nl)
  unfold ambV
  by_cases c1 : chkP [l] ≠ 0
  · rw [if_pos c1]
    generalize chkP [l] = e at h1 c1
    refine pret_of (okx [] [20]) mixed (A := A36) 1 Try.func36 rfl ?_
    (repeat' (first | exact rfl | ((conv => whnf); first | (refine ACalls.fz 0 ?_; (conv => whnf); refine ⟨pure_map (f := fun p : List Tn => [tnsA p]) [l] fun x => rfl, by (repeat' (first | exact trivial | exact eqsP_rows _ (fun x => rfl) | ((conv => whnf); first | exact trivial | refine ⟨rfl, ?_⟩ | refine ⟨?_, ?_⟩ | fail))), by (repeat' (first | exact trivial | exact eqsP_rows _ (fun x => rfl) | ((conv => whnf); first | exact trivial | refine ⟨rfl, ?_⟩ | refine ⟨?_, ?_⟩ | fail))), by (repeat' (first | exact trivial | exact eqsP_rows _ (fun x => rfl) | ((conv => whnf); first | exact trivial | refine ⟨rfl, ?_⟩ | refine ⟨?_, ?_⟩ | fail))), ?_⟩; refine PRet.calls h1 ?_) | exact rfl | exact ⟨rfl, rfl⟩ | refine ⟨(by kernel_rfl : drawOk _ _ _ _ = true), ?_⟩ | refine ⟨(by kernel_rfl : planOk _ _ _ _ = true), ?_⟩ | refine ⟨rfl, ?_⟩ | refine ⟨by (first | omega | (simp (disch := omega) only [wrapI]; omega) | (simp (disch := omega) only [wrapI]; simp; omega) | (simp; omega)), ?_⟩ | (intro ep) | (refine ifB (fun hb => ?_) (fun hb => ?_) <;> (try simp only [decide_eq_true_eq, decide_eq_false_iff_not, beq_iff_eq, beq_eq_false_iff_ne, bne_iff_ne, bne_eq_false_iff_eq, ne_eq, not_false_eq_true, not_true_eq_false, Bool.not_eq_true, Bool.not_eq_true', Bool.not_eq_false', Int.not_lt, Int.not_le] at hb) <;> (try simp (disch := omega) only [wrapI] at hb) <;> (try (exfalso; omega))) | fail)))
  rw [if_neg c1]
  have c1 : chkP [l] = 0 := by omega
  rw [c1] at h1
  have g1 := chk1 c1
  by_cases c2 : l.length = 0
  · rw [if_pos c2]
    refine pret_of (okx [] [20]) mixed (A := A36) 1 Try.func36 rfl ?_
    (repeat' (first | exact rfl | ((conv => whnf); first | (refine ACalls.fz 0 ?_; (conv => whnf); refine ⟨pure_map (f := fun p : List Tn => [tnsA p]) [l] fun x => rfl, by (repeat' (first | exact trivial | exact eqsP_rows _ (fun x => rfl) | ((conv => whnf); first | exact trivial | refine ⟨rfl, ?_⟩ | refine ⟨?_, ?_⟩ | fail))), by (repeat' (first | exact trivial | exact eqsP_rows _ (fun x => rfl) | ((conv => whnf); first | exact trivial | refine ⟨rfl, ?_⟩ | refine ⟨?_, ?_⟩ | fail))), by (repeat' (first | exact trivial | exact eqsP_rows _ (fun x => rfl) | ((conv => whnf); first | exact trivial | refine ⟨rfl, ?_⟩ | refine ⟨?_, ?_⟩ | fail))), ?_⟩; refine PRet.calls h1 ?_) | exact rfl | exact ⟨rfl, rfl⟩ | refine ⟨(by kernel_rfl : drawOk _ _ _ _ = true), ?_⟩ | refine ⟨(by kernel_rfl : planOk _ _ _ _ = true), ?_⟩ | refine ⟨rfl, ?_⟩ | refine ⟨by (first | omega | (simp (disch := omega) only [wrapI]; omega) | (simp (disch := omega) only [wrapI]; simp; omega) | (simp; omega)), ?_⟩ | (intro ep) | (refine ifB (fun hb => ?_) (fun hb => ?_) <;> (try simp only [decide_eq_true_eq, decide_eq_false_iff_not, beq_iff_eq, beq_eq_false_iff_ne, bne_iff_ne, bne_eq_false_iff_eq, ne_eq, not_false_eq_true, not_true_eq_false, Bool.not_eq_true, Bool.not_eq_true', Bool.not_eq_false', Int.not_lt, Int.not_le] at hb) <;> (try simp (disch := omega) only [wrapI] at hb) <;> (try (exfalso; omega))) | fail)))
  rw [if_neg c2]
  have hlt0 : 0 < l.length := by omega
  have hm0 := mapR (f := tnR) hlt0
  have hf : amb 127 0 l = amb l[0].p l[0].p l := by
    obtain ⟨x, r, rfl⟩ : ∃ x r, l = x :: r := by cases l with | nil => simp at hlt0 | cons x r => exact ⟨x, r, rfl⟩
    exact amb_first g1.2
  obtain ⟨x0, hx0⟩ : ∃ x, x = l[0] := ⟨_, rfl⟩
  rw [← hx0] at hf hm0
  obtain ⟨R, hR⟩ : ∃ R, R = amb 127 0 l := ⟨_, rfl⟩
  rw [← hR]
  rw [hf] at hR
  refine pret_of (okx [] [20]) mixed (A := A36) 1 Try.func36 rfl ?_
  (repeat' (first | exact rfl | ((conv => whnf); first | (refine ACalls.fz 0 ?_; (conv => whnf); refine ⟨pure_map (f := fun p : List Tn => [tnsA p]) [l] fun x => rfl, by (repeat' (first | exact trivial | exact eqsP_rows _ (fun x => rfl) | ((conv => whnf); first | exact trivial | refine ⟨rfl, ?_⟩ | refine ⟨?_, ?_⟩ | fail))), by (repeat' (first | exact trivial | exact eqsP_rows _ (fun x => rfl) | ((conv => whnf); first | exact trivial | refine ⟨rfl, ?_⟩ | refine ⟨?_, ?_⟩ | fail))), by (repeat' (first | exact trivial | exact eqsP_rows _ (fun x => rfl) | ((conv => whnf); first | exact trivial | refine ⟨rfl, ?_⟩ | refine ⟨?_, ?_⟩ | fail))), ?_⟩; refine PRet.calls h1 ?_) | refine optS hm0 ?_ | exact rfl | exact ⟨rfl, rfl⟩ | refine ⟨(by kernel_rfl : drawOk _ _ _ _ = true), ?_⟩ | refine ⟨(by kernel_rfl : planOk _ _ _ _ = true), ?_⟩ | refine ⟨rfl, ?_⟩ | refine ⟨by (first | omega | (simp (disch := omega) only [wrapI]; omega) | (simp (disch := omega) only [wrapI]; simp; omega) | (simp; omega)), ?_⟩ | (intro ep) | (refine ifB (fun hb => ?_) (fun hb => ?_) <;> (try simp only [decide_eq_true_eq, decide_eq_false_iff_not, beq_iff_eq, beq_eq_false_iff_ne, bne_iff_ne, bne_eq_false_iff_eq, ne_eq, not_false_eq_true, not_true_eq_false, Bool.not_eq_true, Bool.not_eq_true', Bool.not_eq_false', Int.not_lt, Int.not_le] at hb) <;> (try simp (disch := omega) only [wrapI] at hb) <;> (try (exfalso; omega))) | fail)))
  all_goals (conv => whnf)
  refine loopY (okx [] [20]) mixed (A := A36) [0, 6, 7, 8] [] (S := { z : Nat × Int × Int // z.1 ≤ l.length ∧ amb z.2.1 z.2.2 (l.drop z.1) = R })
    (fr := fun z => frOf 0 48 [(0, tnsA l), (6, .int .i64 z.1.2.1), (7, .int .i64 z.1.2.2), (8, .int .i64 (z.1.1 : Int))])
    (h := fun z => ⟨[.hole], []⟩) (μ := fun z => l.length - z.1.1) ⟨(0, x0.p, x0.p), Nat.zero_le _, hR.symm⟩ ?_ ?_
    [6, 7] [] (S' := Unit) (X := fun _ => 0) (frX := fun z => frOf 0 48 [(6, .int .i64 R.1), (7, .int .i64 R.2)]) (hX := fun z => ⟨[.hole], []⟩)
    [] [] (S2 := Empty) (frR := fun s => frOf 0 48 []) (hR := fun s => ⟨[], []⟩) ?_ ?_ ?_
  · exact rfl
  · exact rfl
  · rintro ⟨⟨k, lo, hi⟩, hk, hu⟩
    simp only at hk hu
    show aexR _ _ _ (frOf 0 48 [(0, tnsA l), (6, .int .i64 lo), (7, .int .i64 hi), (8, .int .i64 (k : Int))]) ⟨[.hole], []⟩ _
    (conv => whnf)
    refine ifB (fun g1 => ?_) (fun g1 => ?_)
    · simp only [decide_eq_true_eq] at g1
      have hlt : k < l.length := by omega
      have hm := mapR (f := tnR) hlt
      rw [List.drop_eq_getElem_cons hlt, amb] at hu
      generalize l[k] = x at hm hu
      (repeat' (first | exact rfl | ((conv => whnf); first | refine optS hm ?_ | exact rfl | exact ⟨rfl, rfl⟩ | refine ⟨(by kernel_rfl : drawOk _ _ _ _ = true), ?_⟩ | refine ⟨(by kernel_rfl : planOk _ _ _ _ = true), ?_⟩ | refine ⟨rfl, ?_⟩ | refine ⟨by (first | omega | (simp (disch := omega) only [wrapI]; omega) | (simp (disch := omega) only [wrapI]; simp; omega) | (simp; omega)), ?_⟩ | (intro ep) | (refine ifB (fun hb => ?_) (fun hb => ?_) <;> (try simp only [decide_eq_true_eq, decide_eq_false_iff_not, beq_iff_eq, beq_eq_false_iff_ne, bne_iff_ne, bne_eq_false_iff_eq, ne_eq, not_false_eq_true, not_true_eq_false, Bool.not_eq_true, Bool.not_eq_true', Bool.not_eq_false', Int.not_lt, Int.not_le] at hb) <;> (try simp (disch := omega) only [wrapI] at hb) <;> (try (exfalso; omega))) | fail)))
      all_goals (conv => whnf)
      exact back_of ⟨(k + 1, _, _), by simp only; omega, hu⟩ ⟨by (first | exact rfl | (simp (disch := omega) only [wrapI]; exact rfl)), rfl, by simp only; omega⟩
    · simp only [decide_eq_false_iff_not] at g1
      rw [List.drop_eq_nil_of_le (by omega), amb] at hu
      subst hu
      (repeat' (first | exact rfl | ((conv => whnf); first | exact rfl | exact ⟨rfl, rfl⟩ | refine ⟨(by kernel_rfl : drawOk _ _ _ _ = true), ?_⟩ | refine ⟨(by kernel_rfl : planOk _ _ _ _ = true), ?_⟩ | refine ⟨rfl, ?_⟩ | refine ⟨by (first | omega | (simp (disch := omega) only [wrapI]; omega) | (simp (disch := omega) only [wrapI]; simp; omega) | (simp; omega)), ?_⟩ | (intro ep) | fail)))
      all_goals (conv => whnf)
      exact back_of () ⟨rfl, rfl, rfl⟩
  · rintro ⟨⟩
  · rintro ⟨⟩
    (repeat' (first | exact rfl | ((conv => whnf); first | exact rfl | exact ⟨rfl, rfl⟩ | refine ⟨(by kernel_rfl : drawOk _ _ _ _ = true), ?_⟩ | refine ⟨(by kernel_rfl : planOk _ _ _ _ = true), ?_⟩ | refine ⟨rfl, ?_⟩ | refine ⟨by (first | omega | (simp (disch := omega) only [wrapI]; omega) | (simp (disch := omega) only [wrapI]; simp; omega) | (simp; omega)), ?_⟩ | (intro ep) | fail)))
end Go.Ab.V

/-
  The law of Sounds. No condition but the lengths.
-/
namespace Go.Ab.V
open Go.Proofs

theorem ambV_ex (l : List Tn) : ∃ a b c : Int, ambV l = .tup [.int .i64 a, .int .i64 b, .int .i64 c] := by
  unfold ambV
  split
  · exact ⟨_, _, _, rfl⟩
  · split
    · exact ⟨_, _, _, rfl⟩
    · exact ⟨_, _, _, rfl⟩
theorem same_nil32 : PRet C.P 32 [.nils, .nils] (.bool true) := by
  refine pret_of ok mixed (A := A32) 0 Try.func32 rfl ?_
  (repeat ((conv => whnf); first | exact rfl | exact ⟨rfl, rfl⟩ | refine ⟨rfl, ?_⟩ | refine ⟨by decide, ?_⟩ | refine ⟨by kernel_rfl, ?_⟩ | (intro ep) | refine loopU ok mixed (A := fun _ => {}) 100 ?_))
def A9 : Ann := fun _ => {}
set_option maxHeartbeats 8000000 in
set_option maxRecDepth 100000 in
theorem law_sounds (P : List (List Tn)) (hl : P.length ≤ 9223372036854775807) (hp : ∀ p ∈ P, p.length ≤ 9223372036854775807) : ACalls C.P 9 [prtsA P] Heap.nil fun r _ => r = .bool true := by
  have h1 := sounds33 P hl hp
  have h2 := refSounds34 P hl hp
  have key : (∃ e : Int, soundsV P = .tup [.nils, .int .i64 e]) ∨ ∃ l : List Tn, l.length ≤ 2400 ∧ soundsV P = .tup [tnsA l, .int .i64 0] := by
    unfold soundsV
    split
    · exact .inl ⟨_, rfl⟩
    · rename_i h
      have := chkP_tot (P := P) (by omega)
      exact .inr ⟨_, by rw [sortT_len, tot_flat]; omega, rfl⟩
  rcases key with ⟨e, hv⟩ | ⟨l, hl2, hv⟩
  · rw [hv] at h1 h2
    have h3 := same_nil32
    have h4 : True := trivial
    have h5 : True := trivial
    have hm : True := trivial
    refine fn_of ok mixed (A := A9) 0 Try.func9 rfl ?_
    (repeat' (first | exact rfl | ((conv => whnf); first | refine optS hm ?_ | refine ⟨_, h1, ?_⟩ | refine ⟨_, h2, ?_⟩ | refine ⟨_, h3, ?_⟩ | refine ⟨_, h4, ?_⟩ | refine ⟨_, h5, ?_⟩ | refine ⟨_, works_spec, ?_⟩ | exact rfl | exact ⟨rfl, rfl⟩ | refine ⟨(by kernel_rfl : drawOk _ _ _ _ = true), ?_⟩ | refine ⟨(by kernel_rfl : planOk _ _ _ _ = true), ?_⟩ | refine ⟨rfl, ?_⟩ | refine ⟨by (first | omega | (simp (disch := omega) only [wrapI]; omega) | (simp (disch := omega) only [wrapI]; simp; omega) | (simp; omega)), ?_⟩ | (intro ep) | (refine ifB (fun hb => ?_) (fun hb => ?_) <;> (try simp only [decide_eq_true_eq, decide_eq_false_iff_not, beq_iff_eq, beq_eq_false_iff_ne, bne_iff_ne, bne_eq_false_iff_eq, ne_eq, not_false_eq_true, not_true_eq_false, Bool.not_eq_true, Bool.not_eq_true', Bool.not_eq_false', Int.not_lt, Int.not_le] at hb) <;> (try simp (disch := omega) only [wrapI] at hb) <;> (try (exfalso; omega))) | fail)))
    all_goals (conv => whnf)
    refine loopY ok mixed (A := A9) [0, 7] [] (S := { k : Nat // k ≤ P.length })
      (fr := fun s => frOf 0 75 [(0, prtsA P), (7, .int .i64 (s.1 : Int))]) (h := fun s => ⟨[], []⟩) (μ := fun s => P.length - s.1) ⟨0, Nat.zero_le _⟩ ?_ ?_
      [] [] (S' := Unit) (X := fun _ => 0) (frX := fun s => frOf 0 75 []) (hX := fun s => ⟨[], []⟩)
      [] [] (S2 := Empty) (frR := fun s => frOf 0 75 []) (hR := fun s => ⟨[], []⟩) ?_ ?_ ?_
    · exact rfl
    · exact rfl
    · rintro ⟨k, hk⟩
      show aexR _ _ _ (frOf 0 75 [(0, prtsA P), (7, .int .i64 (k : Int))]) ⟨[], []⟩ _
      by_cases hk2 : k < P.length
      · have hm := mapR (f := fun p => [tnsA p]) hk2
        have hq := hp P[k] (List.getElem_mem hk2)
        generalize P[k] = p at hm hq
        have h4 := amb35 p hq
        have h5 := refAmb36 p hq
        obtain ⟨x, y, z, hx⟩ := ambV_ex p
        rw [hx] at h4 h5
        (repeat' (first | exact rfl | ((conv => whnf); first | refine optS hm ?_ | refine ⟨_, h1, ?_⟩ | refine ⟨_, h2, ?_⟩ | refine ⟨_, h3, ?_⟩ | refine ⟨_, h4, ?_⟩ | refine ⟨_, h5, ?_⟩ | refine ⟨_, works_spec, ?_⟩ | exact rfl | exact ⟨rfl, rfl⟩ | refine ⟨(by kernel_rfl : drawOk _ _ _ _ = true), ?_⟩ | refine ⟨(by kernel_rfl : planOk _ _ _ _ = true), ?_⟩ | refine ⟨rfl, ?_⟩ | refine ⟨by (first | omega | (simp (disch := omega) only [wrapI]; omega) | (simp (disch := omega) only [wrapI]; simp; omega) | (simp; omega)), ?_⟩ | (intro ep) | (refine ifB (fun hb => ?_) (fun hb => ?_) <;> (try simp only [decide_eq_true_eq, decide_eq_false_iff_not, beq_iff_eq, beq_eq_false_iff_ne, bne_iff_ne, bne_eq_false_iff_eq, ne_eq, not_false_eq_true, not_true_eq_false, Bool.not_eq_true, Bool.not_eq_true', Bool.not_eq_false', Int.not_lt, Int.not_le] at hb) <;> (try simp (disch := omega) only [wrapI] at hb) <;> (try (exfalso; omega))) | fail)))
        all_goals (conv => whnf)
        all_goals first
          | exact back_of () ⟨rfl, rfl, rfl⟩
          | exact back_of ⟨k + 1, by omega⟩ ⟨by (first | exact rfl | (simp (disch := omega) only [wrapI]; exact rfl)), rfl, by simp only; omega⟩
      · (repeat' (first | exact rfl | ((conv => whnf); first | refine optS hm ?_ | refine ⟨_, h1, ?_⟩ | refine ⟨_, h2, ?_⟩ | refine ⟨_, h3, ?_⟩ | refine ⟨_, h4, ?_⟩ | refine ⟨_, h5, ?_⟩ | refine ⟨_, works_spec, ?_⟩ | exact rfl | exact ⟨rfl, rfl⟩ | refine ⟨(by kernel_rfl : drawOk _ _ _ _ = true), ?_⟩ | refine ⟨(by kernel_rfl : planOk _ _ _ _ = true), ?_⟩ | refine ⟨rfl, ?_⟩ | refine ⟨by (first | omega | (simp (disch := omega) only [wrapI]; omega) | (simp (disch := omega) only [wrapI]; simp; omega) | (simp; omega)), ?_⟩ | (intro ep) | (refine ifB (fun hb => ?_) (fun hb => ?_) <;> (try simp only [decide_eq_true_eq, decide_eq_false_iff_not, beq_iff_eq, beq_eq_false_iff_ne, bne_iff_ne, bne_eq_false_iff_eq, ne_eq, not_false_eq_true, not_true_eq_false, Bool.not_eq_true, Bool.not_eq_true', Bool.not_eq_false', Int.not_lt, Int.not_le] at hb) <;> (try simp (disch := omega) only [wrapI] at hb) <;> (try (exfalso; omega))) | fail)))
        all_goals (conv => whnf)
        all_goals exact back_of () ⟨rfl, rfl, rfl⟩
    · rintro ⟨⟩
    · intro s
      (repeat' (first | exact rfl | ((conv => whnf); first | refine optS hm ?_ | refine ⟨_, h1, ?_⟩ | refine ⟨_, h2, ?_⟩ | refine ⟨_, h3, ?_⟩ | refine ⟨_, h4, ?_⟩ | refine ⟨_, h5, ?_⟩ | refine ⟨_, works_spec, ?_⟩ | exact rfl | exact ⟨rfl, rfl⟩ | refine ⟨(by kernel_rfl : drawOk _ _ _ _ = true), ?_⟩ | refine ⟨(by kernel_rfl : planOk _ _ _ _ = true), ?_⟩ | refine ⟨rfl, ?_⟩ | refine ⟨by (first | omega | (simp (disch := omega) only [wrapI]; omega) | (simp (disch := omega) only [wrapI]; simp; omega) | (simp; omega)), ?_⟩ | (intro ep) | (refine ifB (fun hb => ?_) (fun hb => ?_) <;> (try simp only [decide_eq_true_eq, decide_eq_false_iff_not, beq_iff_eq, beq_eq_false_iff_ne, bne_iff_ne, bne_eq_false_iff_eq, ne_eq, not_false_eq_true, not_true_eq_false, Bool.not_eq_true, Bool.not_eq_true', Bool.not_eq_false', Int.not_lt, Int.not_le] at hb) <;> (try simp (disch := omega) only [wrapI] at hb) <;> (try (exfalso; omega))) | fail)))
  · rw [hv] at h1 h2
    have h3 := same32 l (by omega)
    have h4 : True := trivial
    have h5 : True := trivial
    have hm : True := trivial
    refine fn_of ok mixed (A := A9) 0 Try.func9 rfl ?_
    (repeat' (first | exact rfl | ((conv => whnf); first | refine optS hm ?_ | refine ⟨_, h1, ?_⟩ | refine ⟨_, h2, ?_⟩ | refine ⟨_, h3, ?_⟩ | refine ⟨_, h4, ?_⟩ | refine ⟨_, h5, ?_⟩ | refine ⟨_, works_spec, ?_⟩ | exact rfl | exact ⟨rfl, rfl⟩ | refine ⟨(by kernel_rfl : drawOk _ _ _ _ = true), ?_⟩ | refine ⟨(by kernel_rfl : planOk _ _ _ _ = true), ?_⟩ | refine ⟨rfl, ?_⟩ | refine ⟨by (first | omega | (simp (disch := omega) only [wrapI]; omega) | (simp (disch := omega) only [wrapI]; simp; omega) | (simp; omega)), ?_⟩ | (intro ep) | (refine ifB (fun hb => ?_) (fun hb => ?_) <;> (try simp only [decide_eq_true_eq, decide_eq_false_iff_not, beq_iff_eq, beq_eq_false_iff_ne, bne_iff_ne, bne_eq_false_iff_eq, ne_eq, not_false_eq_true, not_true_eq_false, Bool.not_eq_true, Bool.not_eq_true', Bool.not_eq_false', Int.not_lt, Int.not_le] at hb) <;> (try simp (disch := omega) only [wrapI] at hb) <;> (try (exfalso; omega))) | fail)))
    all_goals (conv => whnf)
    refine loopY ok mixed (A := A9) [0, 7] [] (S := { k : Nat // k ≤ P.length })
      (fr := fun s => frOf 0 75 [(0, prtsA P), (7, .int .i64 (s.1 : Int))]) (h := fun s => ⟨[], []⟩) (μ := fun s => P.length - s.1) ⟨0, Nat.zero_le _⟩ ?_ ?_
      [] [] (S' := Unit) (X := fun _ => 0) (frX := fun s => frOf 0 75 []) (hX := fun s => ⟨[], []⟩)
      [] [] (S2 := Empty) (frR := fun s => frOf 0 75 []) (hR := fun s => ⟨[], []⟩) ?_ ?_ ?_
    · exact rfl
    · exact rfl
    · rintro ⟨k, hk⟩
      show aexR _ _ _ (frOf 0 75 [(0, prtsA P), (7, .int .i64 (k : Int))]) ⟨[], []⟩ _
      by_cases hk2 : k < P.length
      · have hm := mapR (f := fun p => [tnsA p]) hk2
        have hq := hp P[k] (List.getElem_mem hk2)
        generalize P[k] = p at hm hq
        have h4 := amb35 p hq
        have h5 := refAmb36 p hq
        obtain ⟨x, y, z, hx⟩ := ambV_ex p
        rw [hx] at h4 h5
        (repeat' (first | exact rfl | ((conv => whnf); first | refine optS hm ?_ | refine ⟨_, h1, ?_⟩ | refine ⟨_, h2, ?_⟩ | refine ⟨_, h3, ?_⟩ | refine ⟨_, h4, ?_⟩ | refine ⟨_, h5, ?_⟩ | refine ⟨_, works_spec, ?_⟩ | exact rfl | exact ⟨rfl, rfl⟩ | refine ⟨(by kernel_rfl : drawOk _ _ _ _ = true), ?_⟩ | refine ⟨(by kernel_rfl : planOk _ _ _ _ = true), ?_⟩ | refine ⟨rfl, ?_⟩ | refine ⟨by (first | omega | (simp (disch := omega) only [wrapI]; omega) | (simp (disch := omega) only [wrapI]; simp; omega) | (simp; omega)), ?_⟩ | (intro ep) | (refine ifB (fun hb => ?_) (fun hb => ?_) <;> (try simp only [decide_eq_true_eq, decide_eq_false_iff_not, beq_iff_eq, beq_eq_false_iff_ne, bne_iff_ne, bne_eq_false_iff_eq, ne_eq, not_false_eq_true, not_true_eq_false, Bool.not_eq_true, Bool.not_eq_true', Bool.not_eq_false', Int.not_lt, Int.not_le] at hb) <;> (try simp (disch := omega) only [wrapI] at hb) <;> (try (exfalso; omega))) | fail)))
        all_goals (conv => whnf)
        all_goals first
          | exact back_of () ⟨rfl, rfl, rfl⟩
          | exact back_of ⟨k + 1, by omega⟩ ⟨by (first | exact rfl | (simp (disch := omega) only [wrapI]; exact rfl)), rfl, by simp only; omega⟩
      · (repeat' (first | exact rfl | ((conv => whnf); first | refine optS hm ?_ | refine ⟨_, h1, ?_⟩ | refine ⟨_, h2, ?_⟩ | refine ⟨_, h3, ?_⟩ | refine ⟨_, h4, ?_⟩ | refine ⟨_, h5, ?_⟩ | refine ⟨_, works_spec, ?_⟩ | exact rfl | exact ⟨rfl, rfl⟩ | refine ⟨(by kernel_rfl : drawOk _ _ _ _ = true), ?_⟩ | refine ⟨(by kernel_rfl : planOk _ _ _ _ = true), ?_⟩ | refine ⟨rfl, ?_⟩ | refine ⟨by (first | omega | (simp (disch := omega) only [wrapI]; omega) | (simp (disch := omega) only [wrapI]; simp; omega) | (simp; omega)), ?_⟩ | (intro ep) | (refine ifB (fun hb => ?_) (fun hb => ?_) <;> (try simp only [decide_eq_true_eq, decide_eq_false_iff_not, beq_iff_eq, beq_eq_false_iff_ne, bne_iff_ne, bne_eq_false_iff_eq, ne_eq, not_false_eq_true, not_true_eq_false, Bool.not_eq_true, Bool.not_eq_true', Bool.not_eq_false', Int.not_lt, Int.not_le] at hb) <;> (try simp (disch := omega) only [wrapI] at hb) <;> (try (exfalso; omega))) | fail)))
        all_goals (conv => whnf)
        all_goals exact back_of () ⟨rfl, rfl, rfl⟩
    · rintro ⟨⟩
    · intro s
      (repeat' (first | exact rfl | ((conv => whnf); first | refine optS hm ?_ | refine ⟨_, h1, ?_⟩ | refine ⟨_, h2, ?_⟩ | refine ⟨_, h3, ?_⟩ | refine ⟨_, h4, ?_⟩ | refine ⟨_, h5, ?_⟩ | refine ⟨_, works_spec, ?_⟩ | exact rfl | exact ⟨rfl, rfl⟩ | refine ⟨(by kernel_rfl : drawOk _ _ _ _ = true), ?_⟩ | refine ⟨(by kernel_rfl : planOk _ _ _ _ = true), ?_⟩ | refine ⟨rfl, ?_⟩ | refine ⟨by (first | omega | (simp (disch := omega) only [wrapI]; omega) | (simp (disch := omega) only [wrapI]; simp; omega) | (simp; omega)), ?_⟩ | (intro ep) | (refine ifB (fun hb => ?_) (fun hb => ?_) <;> (try simp only [decide_eq_true_eq, decide_eq_false_iff_not, beq_iff_eq, beq_eq_false_iff_ne, bne_iff_ne, bne_eq_false_iff_eq, ne_eq, not_false_eq_true, not_true_eq_false, Bool.not_eq_true, Bool.not_eq_true', Bool.not_eq_false', Int.not_lt, Int.not_le] at hb) <;> (try simp (disch := omega) only [wrapI] at hb) <;> (try (exfalso; omega))) | fail)))
end Go.Ab.V
