/-
  What is proved here serves the law's text: each part says its own claim and its conditions. No condition is left open.
-/
import Derived.Test.YtffdekbcpnklnaaKT
set_option linter.unusedSimpArgs false
set_option linter.unusedVariables false

/-
  Wider limits; a rest. No condition but the lengths.
-/
namespace Go.Ab.V
open Go.Proofs

def A29 : Ann := fun _ => {}
set_option maxHeartbeats 4000000 in
set_option maxRecDepth 100000 in
theorem rest29 (a n : Int) (h : 0 < n) (hn : n ≤ 100000) : ∃ r : Int, 0 ≤ r ∧ r < n ∧ PRet C.P 29 [.int .i64 a, .int .i64 n] (.int .i64 r) := by
  have h1 := Int.tmod_lt_of_pos a h
  have h2 := Int.lt_tmod_of_pos a h
  obtain ⟨t, ht⟩ : ∃ t, t = a.tmod n := ⟨_, rfl⟩
  have h3 := Int.tmod_lt_of_pos (t + n) h
  have h4 := Int.tmod_nonneg (a := t + n) n (by omega)
  refine ⟨(t + n).tmod n, h4, h3, ?_⟩
  refine pret_of ok mixed (A := A29) 0 Try.func29 rfl ?_
  (repeat' (first | ((conv => whnf); first | refine ⟨rfl, ?_⟩ | refine ⟨by omega, ?_⟩ | (intro ep))))
  all_goals (refine congrArg (AV.int .i64) ?_; rw [← ht, wrapI (x := t + n) (by omega) (by omega)])
def A22 : Ann := fun _ => {}
def manyB (l m : Nat) : Bool := decide (m < l) && decide (l ≤ 5600)
set_option maxHeartbeats 4000000 in
set_option maxRecDepth 100000 in
theorem many22 (n : List Nt) (m : Nat) (hm : m ≤ 5600) (h3 : n.length ≤ 9223372036854775807) : PRet C.P 22 [ntsA n, .int .i64 (m : Int)] (.bool (manyB n.length m)) := by
  unfold manyB
  by_cases c1 : m < n.length
  · rw [decide_eq_true c1]
    by_cases c2 : n.length ≤ 5600
    · rw [decide_eq_true c2]
      refine pret_of ok mixed (A := A22) 0 Try.func22 rfl ?_
      (repeat' (first | exact rfl | ((conv => whnf); first | exact rfl | exact ⟨rfl, rfl⟩ | refine ⟨(by kernel_rfl : drawOk _ _ _ _ = true), ?_⟩ | refine ⟨(by kernel_rfl : planOk _ _ _ _ = true), ?_⟩ | refine ⟨rfl, ?_⟩ | refine ⟨by (first | omega | (simp (disch := omega) only [wrapI]; omega) | (simp (disch := omega) only [wrapI]; simp; omega) | (simp; omega)), ?_⟩ | (intro ep) | (refine ifB (fun hb => ?_) (fun hb => ?_) <;> (try simp only [decide_eq_true_eq, decide_eq_false_iff_not, beq_iff_eq, beq_eq_false_iff_ne, bne_iff_ne, bne_eq_false_iff_eq, ne_eq, not_false_eq_true, not_true_eq_false, Bool.not_eq_true, Bool.not_eq_true', Bool.not_eq_false', Int.not_lt, Int.not_le] at hb) <;> (try simp (disch := omega) only [wrapI] at hb) <;> (try (exfalso; omega))) | fail)))
      all_goals (refine congrArg AV.bool ?_; simp; omega)
    · rw [decide_eq_false c2]
      refine pret_of ok mixed (A := A22) 0 Try.func22 rfl ?_
      (repeat' (first | exact rfl | ((conv => whnf); first | exact rfl | exact ⟨rfl, rfl⟩ | refine ⟨(by kernel_rfl : drawOk _ _ _ _ = true), ?_⟩ | refine ⟨(by kernel_rfl : planOk _ _ _ _ = true), ?_⟩ | refine ⟨rfl, ?_⟩ | refine ⟨by (first | omega | (simp (disch := omega) only [wrapI]; omega) | (simp (disch := omega) only [wrapI]; simp; omega) | (simp; omega)), ?_⟩ | (intro ep) | (refine ifB (fun hb => ?_) (fun hb => ?_) <;> (try simp only [decide_eq_true_eq, decide_eq_false_iff_not, beq_iff_eq, beq_eq_false_iff_ne, bne_iff_ne, bne_eq_false_iff_eq, ne_eq, not_false_eq_true, not_true_eq_false, Bool.not_eq_true, Bool.not_eq_true', Bool.not_eq_false', Int.not_lt, Int.not_le] at hb) <;> (try simp (disch := omega) only [wrapI] at hb) <;> (try (exfalso; omega))) | fail)))
      all_goals (refine congrArg AV.bool ?_; simp; omega)
  · rw [decide_eq_false c1]
    refine pret_of ok mixed (A := A22) 0 Try.func22 rfl ?_
    (repeat' (first | exact rfl | ((conv => whnf); first | exact rfl | exact ⟨rfl, rfl⟩ | refine ⟨(by kernel_rfl : drawOk _ _ _ _ = true), ?_⟩ | refine ⟨(by kernel_rfl : planOk _ _ _ _ = true), ?_⟩ | refine ⟨rfl, ?_⟩ | refine ⟨by (first | omega | (simp (disch := omega) only [wrapI]; omega) | (simp (disch := omega) only [wrapI]; simp; omega) | (simp; omega)), ?_⟩ | (intro ep) | (refine ifB (fun hb => ?_) (fun hb => ?_) <;> (try simp only [decide_eq_true_eq, decide_eq_false_iff_not, beq_iff_eq, beq_eq_false_iff_ne, bne_iff_ne, bne_eq_false_iff_eq, ne_eq, not_false_eq_true, not_true_eq_false, Bool.not_eq_true, Bool.not_eq_true', Bool.not_eq_false', Int.not_lt, Int.not_le] at hb) <;> (try simp (disch := omega) only [wrapI] at hb) <;> (try (exfalso; omega))) | fail)))

def mx0 (t : Int) : Int := if 0 < t then t else 0
def mnK (k t : Int) : Int := if t < k then t else k
def wide (x : Lm) (r1 r2 r3 r4 : Int) : Lm := ⟨x.lo.map fun v => mx0 (v - r3), x.hi.map fun v => mnK 127 (v + r4), mnK 127 (x.leap + r1), x.gap, mnK 10 (x.cross + r2)⟩
theorem prs_wide {r3 r4 : Int} (h3 : 0 ≤ r3) (h4 : 0 ≤ r4) : ∀ (lo hi : List Int), prs lo hi = 0 → prs (lo.map fun v => mx0 (v - r3)) (hi.map fun v => mnK 127 (v + r4)) = 0
  | [], _, _ => by simp [prs]
  | _ :: _, [], _ => by simp [prs]
  | a :: r, b :: s, h => by
    unfold prs at h
    split at h
    · simp at h
    · rename_i hh
      rw [List.map_cons, List.map_cons, prs, if_neg (by unfold mx0 mnK; split <;> split <;> omega)]
      exact prs_wide h3 h4 r s h
theorem wide_ok {x : Lm} {r1 r2 r3 r4 : Int} (h : chkL x = 0) (h1 : 0 ≤ r1) (h2 : 0 ≤ r2) (h3 : 0 ≤ r3) (h4 : 0 ≤ r4) : chkL (wide x r1 r2 r3 r4) = 0 := by
  have X := lmOk_of h
  obtain ⟨a1, a2, a3, a4, a5, a6, a7⟩ := X
  unfold chkL wide
  simp only [List.length_map]
  rw [if_neg (by omega), if_neg (by omega), if_neg (by unfold mnK; split <;> omega), if_neg (by omega), if_neg (by unfold mnK; split <;> omega)]
  exact prs_wide h3 h4 _ _ a7
theorem getD_map0 (l : List Int) (f : Int → Int) {i : Nat} (h : i < l.length) : (l.map f).getD i 0 = f (l.getD i 0) := by
  rw [List.getD_eq_getElem?_getD, List.getD_eq_getElem?_getD, List.getElem?_map, List.getElem?_eq_getElem h]; rfl
theorem prs_get : ∀ {lo hi : List Int}, prs lo hi = 0 → ∀ i, i < lo.length → i < hi.length → 0 ≤ lo.getD i 0 ∧ lo.getD i 0 ≤ hi.getD i 0 ∧ hi.getD i 0 ≤ 127
  | [], _, _, i, h, _ => by simp at h
  | _ :: _, [], _, i, _, h => by simp at h
  | a :: r, b :: s, h, i, h1, h2 => by
    unfold prs at h
    split at h
    · simp at h
    · cases i with
      | zero => simp; omega
      | succ i => simpa using prs_get h i (by simpa using h1) (by simpa using h2)
theorem join_wide {x : Lm} (X : LmOk x) {r1 r2 r3 r4 : Int} (h1 : 0 ≤ r1) (h3 : 0 ≤ r3) (h4 : 0 ≤ r4) {s : St} {n : Nt} {v : Int} {d : Int × St} (hn : 0 ≤ n.p ∧ n.p ≤ 127) (h : join x s n v = some d) : join (wide x r1 r2 r3 r4) s n v = some d := by
  unfold join at h ⊢
  have e1 : (wide x r1 r2 r3 r4).lo.length = x.lo.length := by simp [wide]
  rw [e1]
  split at h
  · cases h
  rename_i c1
  rw [if_neg c1]
  have hj : (v - 1).toNat < x.lo.length := by omega
  have hj2 : (v - 1).toNat < x.hi.length := by rw [X.hi]; exact hj
  have e2 : (wide x r1 r2 r3 r4).lo.getD (v - 1).toNat 0 = mx0 (x.lo.getD (v - 1).toNat 0 - r3) := getD_map0 _ _ hj
  have e3 : (wide x r1 r2 r3 r4).hi.getD (v - 1).toNat 0 = mnK 127 (x.hi.getD (v - 1).toNat 0 + r4) := getD_map0 _ _ hj2
  rw [e2, e3]
  split at h
  · cases h
  rename_i c2
  rw [if_neg (by unfold mx0 mnK; split <;> split <;> omega)]
  split at h
  · cases h
  rename_i c3
  rw [if_neg c3]
  have e4 : (wide x r1 r2 r3 r4).gap = x.gap := rfl
  have e5 : (wide x r1 r2 r3 r4).leap = mnK 127 (x.leap + r1) := rfl
  rw [e4, e5]
  have hl := X.leap
  split at h
  · rename_i c4
    rw [if_pos c4]
    split at h
    · cases h
    · rename_i c5
      rw [if_neg (by unfold mnK; split <;> omega)]
      exact h
  · rename_i c4
    rw [if_neg c4]
    exact h
theorem evt_wide {x : Lm} (X : LmOk x) {r1 r2 r3 r4 : Int} (h1 : 0 ≤ r1) (h3 : 0 ≤ r3) (h4 : 0 ≤ r4) : ∀ (c i : Nat) (s : St) (m : Int) (l : List Nt) (ks : List Int) (d : St × Int), (∀ n ∈ l, 0 ≤ n.p ∧ n.p ≤ 127) → evt x s m i c l ks = .inr d → evt (wide x r1 r2 r3 r4) s m i c l ks = .inr d
  | 0, i, s, m, l, ks, d, hl, h => by unfold evt at h ⊢; exact h
  | c + 1, i, s, m, [], ks, d, hl, h => by simp [evt] at h
  | c + 1, i, s, m, n :: r, [], d, hl, h => by simp [evt] at h
  | c + 1, i, s, m, n :: r, k :: q, d, hl, h => by
    unfold evt at h ⊢
    cases hj : join x s n k with
    | none => rw [hj] at h; simp at h
    | some d2 =>
      rw [hj] at h
      simp only at h
      rw [join_wide X h1 h3 h4 (hl n (by simp)) hj]
      exact evt_wide X h1 h3 h4 c (i + 1) d2.2 (m + d2.1) r q d (fun x hx => hl x (by simp [hx])) h
theorem vals_wide {x : Lm} (X : LmOk x) {r1 r2 r3 r4 : Int} (h1 : 0 ≤ r1) (h2 : 0 ≤ r2) (h3 : 0 ≤ r3) (h4 : 0 ≤ r4) {l : List Nt} {ks : List Int} (hl : ∀ n ∈ l, 0 ≤ n.p ∧ n.p ≤ 127) :
    ∀ (S : List (Nat × Nat)) (s : St) (c m : Int) (z : Int × Int × Int × Int), vals x l ks s c m S = z → z.2.1 = 0 → (∀ s t, crs s t ≤ 25) → vals (wide x r1 r2 r3 r4) l ks s c m S = z
  | [], s, c, m, z, h, hz, hc => by unfold vals at h ⊢; exact h
  | (a, n) :: r, s, c, m, z, h, hz, hc => by
    unfold vals at h ⊢
    cases he : evt x s m a n (l.drop a) (ks.drop a) with
    | inl j => rw [he] at h; simp only at h; subst h; simp at hz
    | inr d =>
      rw [he] at h
      simp only at h
      rw [evt_wide X h1 h3 h4 n a s m (l.drop a) (ks.drop a) d (fun q hq => hl q (List.mem_of_mem_drop hq)) he]
      simp only
      split at h
      · subst h; simp at hz
      · rename_i c1
        have hx := X.cross
        by_cases c2 : (wide x r1 r2 r3 r4).cross < crs d.1 (frN l a)
        · have e : (wide x r1 r2 r3 r4).cross = mnK 10 (x.cross + r2) := rfl
          rw [e] at c2
          unfold mnK at c2
          split at c2 <;> omega
        · rw [if_neg c2]
          exact vals_wide X h1 h2 h3 h4 hl r d.1 _ _ z h hz hc
theorem valid_wide {x : Lm} {n : List Nt} {ks : List Int} {r1 r2 r3 r4 : Int} (hx : chkL x = 0) (h1 : 0 ≤ r1) (h2 : 0 ≤ r2) (h3 : 0 ≤ r3) (h4 : 0 ≤ r4) (h : (valid x n ks).2.1 = 0) : valid (wide x r1 r2 r3 r4) n ks = valid x n ks := by
  obtain ⟨-, hk, hb⟩ := valid_len h
  have hN : chkN n = 0 := by unfold both at hb; rw [hx] at hb; simpa using hb
  have hb' : both (wide x r1 r2 r3 r4) n = 0 := by unfold both; rw [wide_ok hx h1 h2 h3 h4, hN]; rfl
  unfold valid at h ⊢
  rw [if_neg (by omega), if_neg (by omega)] at h
  rw [if_neg (by omega), if_neg (by omega), if_neg (by omega), if_neg (by omega)]
  exact vals_wide (lmOk_of hx) h1 h2 h3 h4 (fun q hq => by have := fit_of ((ntsOk_of hN).fit q hq); unfold ntFit at this; omega) _ _ _ _ _ rfl h (fun s t => (crs_bd s t).2)
end Go.Ab.V

/-
  The law Wider. No condition but the lengths.
-/
namespace Go.Ab.V
open Go.Proofs

def A6 : Ann := fun r => match r with
  | 0 => { slots := [(0, 0), (1, 1)] }
  | 3 => { slots := [(10, 2)] }
  | 6 => { slots := [(20, 3)] }
  | 10 => { slots := [(13, 4), (14, 5)] }
  | 11 => { slots := [(13, 6), (14, 7)] }
  | 12 => { slots := [(9, 8)] }
  | _ => {}
set_option maxHeartbeats 8000000 in
set_option maxRecDepth 100000 in
theorem law_wider (x : Lm) (n : List Nt) (w1 w2 w3 w4 : Int) (ks : List Int) (h1 : x.lo.length ≤ 9223372036854775807) (h2 : x.hi.length ≤ 9223372036854775807) (h3 : n.length ≤ 9223372036854775807)
    (h4 : ks.length ≤ 9223372036854775807) : ACalls C.P 6 [caseA x n, .agg [.int .i64 w1, .int .i64 w2, .int .i64 w3, .int .i64 w4], intsA ks] Heap.nil fun r _ => r = .bool true := by
  have hM := many22 n 400 (by omega) h3
  have hC := refCheck_spec x h1 h2
  have hV := valid26 x n ks h1 h2 h3 h4
  generalize manyB n.length 400 = M at hM
  cases M
  case true =>
    refine fn_of (okx [] [26]) mixed (A := A6) 9 Try.func6 rfl ?_
    (repeat' (first | exact rfl | ((conv => whnf); first | refine ⟨_, hM, ?_⟩ | refine ⟨_, hC, ?_⟩ | refine PRet.calls hV ?_ | refine ⟨_, works_spec, ?_⟩ | exact rfl | exact ⟨rfl, rfl⟩ | refine ⟨(by kernel_rfl : drawOk _ _ _ _ = true), ?_⟩ | refine ⟨(by kernel_rfl : planOk _ _ _ _ = true), ?_⟩ | refine ⟨rfl, ?_⟩ | refine ⟨by (first | omega | (simp (disch := omega) only [wrapI]; omega) | (simp (disch := omega) only [wrapI]; simp; omega) | (simp; omega)), ?_⟩ | (intro ep) | (refine ifB (fun hb => ?_) (fun hb => ?_) <;> (try simp only [decide_eq_true_eq, decide_eq_false_iff_not, beq_iff_eq, beq_eq_false_iff_ne, bne_iff_ne, bne_eq_false_iff_eq, ne_eq, not_false_eq_true, not_true_eq_false, Bool.not_eq_true, Bool.not_eq_true', Bool.not_eq_false', Int.not_lt, Int.not_le] at hb) <;> (try simp (disch := omega) only [wrapI] at hb) <;> (try (exfalso; omega))) | fail)))
  by_cases hx : chkL x = 0
  case neg =>
    generalize chkL x = q at hC hx
    refine fn_of (okx [] [26]) mixed (A := A6) 9 Try.func6 rfl ?_
    (repeat' (first | exact rfl | ((conv => whnf); first | refine ⟨_, hM, ?_⟩ | refine ⟨_, hC, ?_⟩ | refine PRet.calls hV ?_ | refine ⟨_, works_spec, ?_⟩ | exact rfl | exact ⟨rfl, rfl⟩ | refine ⟨(by kernel_rfl : drawOk _ _ _ _ = true), ?_⟩ | refine ⟨(by kernel_rfl : planOk _ _ _ _ = true), ?_⟩ | refine ⟨rfl, ?_⟩ | refine ⟨by (first | omega | (simp (disch := omega) only [wrapI]; omega) | (simp (disch := omega) only [wrapI]; simp; omega) | (simp; omega)), ?_⟩ | (intro ep) | (refine ifB (fun hb => ?_) (fun hb => ?_) <;> (try simp only [decide_eq_true_eq, decide_eq_false_iff_not, beq_iff_eq, beq_eq_false_iff_ne, bne_iff_ne, bne_eq_false_iff_eq, ne_eq, not_false_eq_true, not_true_eq_false, Bool.not_eq_true, Bool.not_eq_true', Bool.not_eq_false', Int.not_lt, Int.not_le] at hb) <;> (try simp (disch := omega) only [wrapI] at hb) <;> (try (exfalso; omega))) | fail)))
  have X := lmOk_of hx
  have hlo5 := X.lo5
  have hhi := X.hi
  rw [hx] at hC
  have hwd := fun r1 r2 r3 r4 a b c d => valid_wide (n := n) (ks := ks) (r1 := r1) (r2 := r2) (r3 := r3) (r4 := r4) hx a b c d
  have hvl := valid_len (x := x) (n := n) (ks := ks)
  generalize valid x n ks = V at hV hwd hvl
  obtain ⟨at', e, c, m⟩ := V
  unfold valV at hV
  simp only at hV hwd hvl
  by_cases he : e = 0
  case neg =>
    rw [if_neg he] at hV
    refine fn_of (okx [] [26]) mixed (A := A6) 9 Try.func6 rfl ?_
    (repeat' (first | exact rfl | ((conv => whnf); first | refine ⟨_, hM, ?_⟩ | refine ⟨_, hC, ?_⟩ | refine PRet.calls hV ?_ | refine ⟨_, works_spec, ?_⟩ | exact rfl | exact ⟨rfl, rfl⟩ | refine ⟨(by kernel_rfl : drawOk _ _ _ _ = true), ?_⟩ | refine ⟨(by kernel_rfl : planOk _ _ _ _ = true), ?_⟩ | refine ⟨rfl, ?_⟩ | refine ⟨by (first | omega | (simp (disch := omega) only [wrapI]; omega) | (simp (disch := omega) only [wrapI]; simp; omega) | (simp; omega)), ?_⟩ | (intro ep) | (refine ifB (fun hb => ?_) (fun hb => ?_) <;> (try simp only [decide_eq_true_eq, decide_eq_false_iff_not, beq_iff_eq, beq_eq_false_iff_ne, bne_iff_ne, bne_eq_false_iff_eq, ne_eq, not_false_eq_true, not_true_eq_false, Bool.not_eq_true, Bool.not_eq_true', Bool.not_eq_false', Int.not_lt, Int.not_le] at hb) <;> (try simp (disch := omega) only [wrapI] at hb) <;> (try (exfalso; omega))) | fail)))
  rw [if_pos he] at hV
  subst he
  obtain ⟨r1, p1, q1, R1⟩ := rest29 w1 30 (by omega) (by omega)
  obtain ⟨r2, p2, q2, R2⟩ := rest29 w2 5 (by omega) (by omega)
  obtain ⟨r3, p3, q3, R3⟩ := rest29 w3 40 (by omega) (by omega)
  obtain ⟨r4, p4, q4, R4⟩ := rest29 w4 40 (by omega) (by omega)
  replace hwd := hwd r1 r2 r3 r4 p1 p2 p3 p4 rfl
  have hlp := X.leap
  have hcr := X.cross
  refine fn_of (okx [] [26]) mixed (A := A6) 9 Try.func6 rfl ?_
  (conv => whnf)
  intro e0
  (conv => whnf)
  intro e1
  (repeat' (first | exact rfl | ((conv => whnf); first | refine ⟨_, hM, ?_⟩ | refine ⟨_, hC, ?_⟩ | refine PRet.calls hV ?_ | refine ⟨_, R1, ?_⟩ | refine ⟨_, R2, ?_⟩ | (intro e3) | exact rfl | exact ⟨rfl, rfl⟩ | refine ⟨(by kernel_rfl : drawOk _ _ _ _ = true), ?_⟩ | refine ⟨(by kernel_rfl : planOk _ _ _ _ = true), ?_⟩ | refine ⟨rfl, ?_⟩ | refine ⟨by (first | omega | (simp (disch := omega) only [wrapI]; omega) | (simp (disch := omega) only [wrapI]; simp; omega) | (simp; omega)), ?_⟩ | (intro ep) | (refine ifB (fun hb => ?_) (fun hb => ?_) <;> (try simp only [decide_eq_true_eq, decide_eq_false_iff_not, beq_iff_eq, beq_eq_false_iff_ne, bne_iff_ne, bne_eq_false_iff_eq, ne_eq, not_false_eq_true, not_true_eq_false, Bool.not_eq_true, Bool.not_eq_true', Bool.not_eq_false', Int.not_lt, Int.not_le] at hb) <;> (try simp (disch := omega) only [wrapI] at hb) <;> (try (exfalso; omega))) | fail)))
  all_goals (conv => whnf)
  rename_i e2
  refine wk_liftC 3 5 e3 1 0 0 (by decide) rfl rfl rfl ?_
  intro eL
  refine wk_liftC 3 7 e3 1 0 1 (by decide) rfl rfl rfl ?_
  intro eH
  have hwl : (wide x r1 r2 r3 r4).lo.length = x.lo.length := by simp [wide]
  have hwh : (wide x r1 r2 r3 r4).hi.length = x.lo.length := by simp [wide, hhi]
  refine loopX (okx [] [26]) mixed (A := A6) [2, 3, 4, 7, 10, 11] [0, 1, 2, 3, 5, 7] (S := { z : Nat × Nat × Nat // z.1 ≤ x.lo.length })
    (fr := fun z => frOf 0 115 [(2, intsA ks), (3, .optr (.s 0) e0 6 0 0), (4, .optr (.s 1) e1 4 0 0), (7, .optr (.s 2) e2 3 0 0), (10, .optr (.s 3) e3 5 0 0), (11, .int .i64 (z.1.1 : Int))])
    (h := fun z => ⟨[.vec e0 [[intsA x.lo, intsA x.hi, .int .i64 x.leap, .int .i64 x.gap, .int .i64 x.cross, ntsA n]], .vec e1 [[.int .i64 w1, .int .i64 w2, .int .i64 w3, .int .i64 w4]], .vec e2 [[intsA ks, .int .i64 c, .int .i64 m]], .vec e3 [[.oslc (.s 5) z.1.2.1 1 0 z.1.1 false, .oslc (.s 7) z.1.2.2 1 0 z.1.1 false, .int .i64 (mnK 127 (x.leap + r1)), .int .i64 x.gap, .int .i64 (mnK 10 (x.cross + r2))]], .hole, .vec z.1.2.1 (ints ((wide x r1 r2 r3 r4).lo.take z.1.1)), .hole, .vec z.1.2.2 (ints ((wide x r1 r2 r3 r4).hi.take z.1.1)), .hole], []⟩) (μ := fun z => x.lo.length - z.1.1) ⟨(0, eL, eH), by simp⟩ ?_ ?_
    [2, 3, 4, 7, 10] [0, 1, 2, 3, 5, 7] (S' := Nat × Nat) (X := fun _ => 0) (frX := fun z => frOf 0 115 [(2, intsA ks), (3, .optr (.s 0) e0 6 0 0), (4, .optr (.s 1) e1 4 0 0), (7, .optr (.s 2) e2 3 0 0), (10, .optr (.s 3) e3 5 0 0)])
    (hX := fun z => ⟨[.vec e0 [[intsA x.lo, intsA x.hi, .int .i64 x.leap, .int .i64 x.gap, .int .i64 x.cross, ntsA n]], .vec e1 [[.int .i64 w1, .int .i64 w2, .int .i64 w3, .int .i64 w4]], .vec e2 [[intsA ks, .int .i64 c, .int .i64 m]], .vec e3 [[.oslc (.s 5) z.1 1 0 x.lo.length false, .oslc (.s 7) z.2 1 0 x.lo.length false, .int .i64 (mnK 127 (x.leap + r1)), .int .i64 x.gap, .int .i64 (mnK 10 (x.cross + r2))]], .hole, .vec z.1 (ints (wide x r1 r2 r3 r4).lo), .hole, .vec z.2 (ints (wide x r1 r2 r3 r4).hi), .hole], []⟩) (R := fun _ _ => False) ?_ (fun _ _ h => h.elim) ?_
  · exact rfl
  · show maskH 0 _ _ = ⟨[.vec e0 [[intsA x.lo, intsA x.hi, .int .i64 x.leap, .int .i64 x.gap, .int .i64 x.cross, ntsA n]], .vec e1 [[.int .i64 w1, .int .i64 w2, .int .i64 w3, .int .i64 w4]], .vec e2 [[intsA ks, .int .i64 c, .int .i64 m]], .vec e3 [[.oslc (.s 5) eL 1 0 0 false, .oslc (.s 7) eH 1 0 0 false, .int .i64 (mnK 127 (x.leap + r1)), .int .i64 x.gap, .int .i64 (mnK 10 (x.cross + r2))]], .hole, .vec eL (ints []), .hole, .vec eH (ints []), .hole], []⟩
    (first | exact rfl | (simp (disch := omega) only [wrapI]; exact rfl))
  · rintro ⟨⟨k, eL, eH⟩, hk⟩
    simp only at hk
    show aexR _ _ _ (frOf 0 115 [(2, intsA ks), (3, .optr (.s 0) e0 6 0 0), (4, .optr (.s 1) e1 4 0 0), (7, .optr (.s 2) e2 3 0 0), (10, .optr (.s 3) e3 5 0 0), (11, .int .i64 (k : Int))]) ⟨[.vec e0 [[intsA x.lo, intsA x.hi, .int .i64 x.leap, .int .i64 x.gap, .int .i64 x.cross, ntsA n]], .vec e1 [[.int .i64 w1, .int .i64 w2, .int .i64 w3, .int .i64 w4]], .vec e2 [[intsA ks, .int .i64 c, .int .i64 m]], .vec e3 [[.oslc (.s 5) eL 1 0 k false, .oslc (.s 7) eH 1 0 k false, .int .i64 (mnK 127 (x.leap + r1)), .int .i64 x.gap, .int .i64 (mnK 10 (x.cross + r2))]], .hole, .vec eL (ints ((wide x r1 r2 r3 r4).lo.take k)), .hole, .vec eH (ints ((wide x r1 r2 r3 r4).hi.take k)), .hole], []⟩ _
    (repeat' (first | ((conv => whnf); first | exact rfl | exact ⟨rfl, rfl⟩ | refine ⟨(by kernel_rfl : drawOk _ _ _ _ = true), ?_⟩ | refine ⟨(by kernel_rfl : planOk _ _ _ _ = true), ?_⟩ | refine ⟨rfl, ?_⟩ | refine ⟨by (first | omega | (simp (disch := omega) only [wrapI]; omega) | (simp (disch := omega) only [wrapI]; simp; omega) | (simp; omega)), ?_⟩ | (intro ep) | fail)))
    all_goals (conv => whnf)
    refine ifB (fun g1 => ?_) (fun g1 => ?_)
    · simp only [decide_eq_true_eq] at g1
      have a1 : k < x.lo.length := by omega
      have a2 : k < x.hi.length := by omega
      have hm1 := intsR a1
      have hm2 := intsR a2
      have hp := prs_get X.prs k a1 a2
      rw [List.getD_eq_getElem?_getD, List.getD_eq_getElem?_getD, List.getElem?_eq_getElem a1, List.getElem?_eq_getElem a2] at hp
      simp only [Option.getD_some] at hp
      have t1 : List.take k (List.drop 0 (ints ((wide x r1 r2 r3 r4).lo.take k))) = ints ((wide x r1 r2 r3 r4).lo.take k) := by rw [List.drop_zero, List.take_of_length_le (by simp [ints]; omega)]
      have t2 : List.take k (List.drop 0 (ints ((wide x r1 r2 r3 r4).hi.take k))) = ints ((wide x r1 r2 r3 r4).hi.take k) := by rw [List.drop_zero, List.take_of_length_le (by simp [ints]; omega)]
      have u1 : ints ((wide x r1 r2 r3 r4).lo.take (k + 1)) = ints ((wide x r1 r2 r3 r4).lo.take k) ++ [[.int .i64 (mx0 (x.lo[k] - r3))]] := by
        rw [List.take_add_one, List.getElem?_eq_getElem (by omega)]; simp [ints, wide]
      have u2 : ints ((wide x r1 r2 r3 r4).hi.take (k + 1)) = ints ((wide x r1 r2 r3 r4).hi.take k) ++ [[.int .i64 (mnK 127 (x.hi[k] + r4))]] := by
        rw [List.take_add_one, List.getElem?_eq_getElem (by omega)]; simp [ints, wide]
      generalize x.lo[k] = a at hm1 hp u1
      generalize x.hi[k] = b at hm2 hp u2
      (repeat' (first | exact rfl | ((conv => whnf); first | refine optS hm1 ?_ | refine optS hm2 ?_ | refine ⟨_, R3, ?_⟩ | refine ⟨_, R4, ?_⟩ | (intro e5) | exact rfl | exact ⟨rfl, rfl⟩ | refine ⟨(by kernel_rfl : drawOk _ _ _ _ = true), ?_⟩ | refine ⟨(by kernel_rfl : planOk _ _ _ _ = true), ?_⟩ | refine ⟨rfl, ?_⟩ | refine ⟨by (first | omega | (simp (disch := omega) only [wrapI]; omega) | (simp (disch := omega) only [wrapI]; simp; omega) | (simp; omega)), ?_⟩ | (intro ep) | fail)))
      all_goals (conv => whnf)
      rename_i e4 e6
      refine back_of ⟨(k + 1, e4, e5), by simp only; omega⟩ ⟨?_, ?_, by simp only; omega⟩
      · show maskF 0 _ _ = frOf 0 115 [(2, intsA ks), (3, .optr (.s 0) e0 6 0 0), (4, .optr (.s 1) e1 4 0 0), (7, .optr (.s 2) e2 3 0 0), (10, .optr (.s 3) e3 5 0 0), (11, .int .i64 ((k + 1 : Nat) : Int))]
        (first | exact rfl | (simp (disch := omega) only [wrapI]; exact rfl))
      · show maskH 0 _ _ = ⟨[.vec e0 [[intsA x.lo, intsA x.hi, .int .i64 x.leap, .int .i64 x.gap, .int .i64 x.cross, ntsA n]], .vec e1 [[.int .i64 w1, .int .i64 w2, .int .i64 w3, .int .i64 w4]], .vec e2 [[intsA ks, .int .i64 c, .int .i64 m]], .vec e3 [[.oslc (.s 5) e4 1 0 (k + 1) false, .oslc (.s 7) e5 1 0 (k + 1) false, .int .i64 (mnK 127 (x.leap + r1)), .int .i64 x.gap, .int .i64 (mnK 10 (x.cross + r2))]], .hole, .vec e4 (ints ((wide x r1 r2 r3 r4).lo.take (k + 1))), .hole, .vec e5 (ints ((wide x r1 r2 r3 r4).hi.take (k + 1))), .hole], []⟩
        rw [u1, u2, t1, t2]
        unfold mx0
        by_cases d1 : 0 < a - r3 <;> by_cases d2 : b + r4 < 127
        all_goals
          simp (disch := omega) only [wrapI]
          (try rw [show mnK 127 (b + r4) = b + r4 from if_pos d2])
          (try rw [show mnK 127 (b + r4) = 127 from if_neg d2])
          simp only [if_true, Bool.false_eq_true, if_false, d1, d2]
          exact rfl
    · simp only [decide_eq_false_iff_not] at g1
      have e : k = x.lo.length := by omega
      subst e
      (repeat' (first | exact rfl | ((conv => whnf); first | exact rfl | exact ⟨rfl, rfl⟩ | refine ⟨(by kernel_rfl : drawOk _ _ _ _ = true), ?_⟩ | refine ⟨(by kernel_rfl : planOk _ _ _ _ = true), ?_⟩ | refine ⟨rfl, ?_⟩ | refine ⟨by (first | omega | (simp (disch := omega) only [wrapI]; omega) | (simp (disch := omega) only [wrapI]; simp; omega) | (simp; omega)), ?_⟩ | (intro ep) | fail)))
      all_goals (conv => whnf)
      refine back_of (eL, eH) ⟨rfl, rfl, ?_⟩
      rw [List.take_of_length_le (by omega), List.take_of_length_le (by omega)]
      exact rfl
  · rintro ⟨eL, eH⟩
    have hV2 := valid26 (wide x r1 r2 r3 r4) n ks (by omega) (by omega) h3 h4
    rw [hwd] at hV2
    unfold valV at hV2
    simp only [if_true] at hV2
    have hs := same28 c m (same50 ks (by have := hvl rfl; omega)) (.inl ⟨ks, rfl⟩)
    have hV3 : PRet C.P 26 [.agg [.lslc 1 (ints (wide x r1 r2 r3 r4).lo) 0 x.lo.length false, .lslc 1 (ints (wide x r1 r2 r3 r4).hi) 0 x.lo.length false, .int .i64 (mnK 127 (x.leap + r1)), .int .i64 x.gap, .int .i64 (mnK 10 (x.cross + r2))], ntsA n, intsA ks]
        (.tup [.agg [intsA ks, .int .i64 c, .int .i64 m], .int .i64 at', .int .i64 0]) := by
      have e1 : lmA (wide x r1 r2 r3 r4) = .agg [.lslc 1 (ints (wide x r1 r2 r3 r4).lo) 0 (wide x r1 r2 r3 r4).lo.length false, .lslc 1 (ints (wide x r1 r2 r3 r4).hi) 0 (wide x r1 r2 r3 r4).hi.length false, .int .i64 (mnK 127 (x.leap + r1)), .int .i64 x.gap, .int .i64 (mnK 10 (x.cross + r2))] := rfl
      rw [e1, hwl, hwh] at hV2
      exact hV2
    (repeat' (first | exact rfl | ((conv => whnf); first | exact rfl | exact ⟨rfl, rfl⟩ | refine ⟨(by kernel_rfl : drawOk _ _ _ _ = true), ?_⟩ | refine ⟨(by kernel_rfl : planOk _ _ _ _ = true), ?_⟩ | refine ⟨rfl, ?_⟩ | refine ⟨by (first | omega | (simp (disch := omega) only [wrapI]; omega) | (simp (disch := omega) only [wrapI]; simp; omega) | (simp; omega)), ?_⟩ | (intro ep) | fail)))
    all_goals (conv => whnf)
    refine ACalls.fz 5 ?_
    (conv => whnf)
    refine ⟨pure_ints _, by (repeat' (first | exact trivial | exact eqsP_rows _ (fun x => rfl) | ((conv => whnf); first | exact trivial | refine ⟨rfl, ?_⟩ | refine ⟨?_, ?_⟩ | fail))), by (repeat' (first | exact trivial | exact eqsP_rows _ (fun x => rfl) | ((conv => whnf); first | exact trivial | refine ⟨rfl, ?_⟩ | refine ⟨?_, ?_⟩ | fail))), by (repeat' (first | exact trivial | exact eqsP_rows _ (fun x => rfl) | ((conv => whnf); first | exact trivial | refine ⟨rfl, ?_⟩ | refine ⟨?_, ?_⟩ | fail))), ?_⟩
    refine ACalls.fz 7 ?_
    (conv => whnf)
    rw [show List.map (fun r => List.map (fcS 5 (ints (wide x r1 r2 r3 r4).lo)) r) (ints (wide x r1 r2 r3 r4).hi) = ints (wide x r1 r2 r3 r4).hi from fcS_rows _ fun x => rfl]
    refine ⟨pure_ints _, by (repeat' (first | exact trivial | exact eqsP_rows _ (fun x => rfl) | ((conv => whnf); first | exact trivial | refine ⟨rfl, ?_⟩ | refine ⟨?_, ?_⟩ | fail))), by (repeat' (first | exact trivial | exact eqsP_rows _ (fun x => rfl) | ((conv => whnf); first | exact trivial | refine ⟨rfl, ?_⟩ | refine ⟨?_, ?_⟩ | fail))), by (repeat' (first | exact trivial | exact eqsP_rows _ (fun x => rfl) | ((conv => whnf); first | exact trivial | refine ⟨rfl, ?_⟩ | refine ⟨?_, ?_⟩ | fail))), ?_⟩
    refine PRet.calls hV3 ?_
    (repeat' (first | exact rfl | ((conv => whnf); first | refine ⟨_, hs, ?_⟩ | refine ⟨_, works_spec, ?_⟩ | exact rfl | exact ⟨rfl, rfl⟩ | refine ⟨(by kernel_rfl : drawOk _ _ _ _ = true), ?_⟩ | refine ⟨(by kernel_rfl : planOk _ _ _ _ = true), ?_⟩ | refine ⟨rfl, ?_⟩ | refine ⟨by (first | omega | (simp (disch := omega) only [wrapI]; omega) | (simp (disch := omega) only [wrapI]; simp; omega) | (simp; omega)), ?_⟩ | (intro ep) | fail)))
end Go.Ab.V
