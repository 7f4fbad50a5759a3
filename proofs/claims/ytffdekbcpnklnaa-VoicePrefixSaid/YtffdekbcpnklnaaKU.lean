/-
  What is proved here serves the law's text: each part says its own claim and its conditions. No condition is left open.
-/
import Derived.Test.YtffdekbcpnklnaaKT
set_option linter.unusedSimpArgs false
set_option linter.unusedVariables false

/-
  Wider limits; a rest. No condition but the lengths.
-/
namespace Go.Ab.V
open Go.Proofs

def A29 : Ann := fun _ => {}
set_option maxHeartbeats 4000000 in
set_option maxRecDepth 100000 in
theorem rest29 (a n : Int) (h : 0 < n) (hn : n ≤ 100000) : ∃ r : Int, 0 ≤ r ∧ r < n ∧ PRet C.P 29 [.int .i64 a, .int .i64 n] (.int .i64 r) := by
  have h1 := Int.tmod_lt_of_pos a h
  have h2 := Int.lt_tmod_of_pos a h
  obtain ⟨t, ht⟩ : ∃ t, t = a.tmod n := ⟨_, rfl⟩
  have h3 := Int.tmod_lt_of_pos (t + n) h
  have h4 := Int.tmod_nonneg (a := t + n) n (by omega)
  refine ⟨(t + n).tmod n, h4, h3, ?_⟩
  refine pret_of ok mixed (A := A29) 0 Try.func29 rfl ?_
  (repeat' (first | ((conv => whnf); first | refine ⟨rfl, ?_⟩ | refine ⟨by omega, ?_⟩ | (intro ep))))
  all_goals (refine congrArg (AV.int .i64) ?_; rw [← ht, wrapI (x := t + n) (by omega) (by omega)])
def A22 : Ann := fun _ => {}
def manyB (l m : Nat) : Bool := decide (m < l) && decide (l ≤ 5600)
set_option maxHeartbeats 4000000 in
set_option maxRecDepth 100000 in
theorem many22 (n : List Nt) (m : Nat) (hm : m ≤ 5600) (h3 : n.length ≤ 9223372036854775807) : PRet C.P 22 [ntsA n, .int .i64 (m : Int)] (.bool (manyB n.length m)) := by
  unfold manyB
  by_cases c1 : m < n.length
  · rw [decide_eq_true c1]
    by_cases c2 : n.length ≤ 5600
    · rw [decide_eq_true c2]
      refine pret_of ok mixed (A := A22) 0 Try.func22 rfl ?_
      (repeat' (first | exact rfl | ((conv => whnf); first | exact rfl | exact ⟨rfl, rfl⟩ | refine ⟨(by kernel_rfl : drawOk _ _ _ _ = true), ?_⟩ | refine ⟨(by kernel_rfl : planOk _ _ _ _ = true), ?_⟩ | refine ⟨rfl, ?_⟩ | refine ⟨by (first | omega | (simp (disch := omega) only [wrapI]; omega) | (simp (disch := omega) only [wrapI]; simp; omega) | (simp; omega)), ?_⟩ | (intro ep) | (refine ifB (fun hb => ?_) (fun hb => ?_) <;> (try simp only [decide_eq_true_eq, decide_eq_false_iff_not, beq_iff_eq, beq_eq_false_iff_ne, bne_iff_ne, bne_eq_false_iff_eq, ne_eq, not_false_eq_true, not_true_eq_false, Bool.not_eq_true, Bool.not_eq_true', Bool.not_eq_false', Int.not_lt, Int.not_le] at hb) <;> (try simp (disch := omega) only [wrapI] at hb) <;> (try (exfalso; omega))) | fail)))
      all_goals (refine congrArg AV.bool ?_; simp; omega)
    · rw [decide_eq_false c2]
      refine pret_of ok mixed (A := A22) 0 Try.func22 rfl ?_
      (repeat' (first | exact rfl | ((conv => whnf); first | exact rfl | exact ⟨rfl, rfl⟩ | refine ⟨(by kernel_rfl : drawOk _ _ _ _ = true), ?_⟩ | refine ⟨(by kernel_rfl : planOk _ _ _ _ = true), ?_⟩ | refine ⟨rfl, ?_⟩ | refine ⟨by (first | omega | (simp (disch := omega) only [wrapI]; omega) | (simp (disch := omega) only [wrapI]; simp; omega) | (simp; omega)), ?_⟩ | (intro ep) | (refine ifB (fun hb => ?_) (fun hb => ?_) <;> (try simp only [decide_eq_true_eq, decide_eq_false_iff_not, beq_iff_eq, beq_eq_false_iff_ne, bne_iff_ne, bne_eq_false_iff_eq, ne_eq, not_false_eq_true, not_true_eq_false, Bool.not_eq_true, Bool.not_eq_true', Bool.not_eq_false', Int.not_lt, Int.not_le] at hb) <;> (try simp (disch := omega) only [wrapI] at hb) <;> (try (exfalso; omega))) | fail)))
      all_goals (refine congrArg AV.bool ?_; simp; omega)
  · rw [decide_eq_false c1]
    refine pret_of ok mixed (A := A22) 0 Try.func22 rfl ?_
    (repeat' (first | exact rfl | ((conv => whnf); first | exact rfl | exact ⟨rfl, rfl⟩ | refine ⟨(by kernel_rfl : drawOk _ _ _ _ = true), ?_⟩ | refine ⟨(by kernel_rfl : planOk _ _ _ _ = true), ?_⟩ | refine ⟨rfl, ?_⟩ | refine ⟨by (first | omega | (simp (disch := omega) only [wrapI]; omega) | (simp (disch := omega) only [wrapI]; simp; omega) | (simp; omega)), ?_⟩ | (intro ep) | (refine ifB (fun hb => ?_) (fun hb => ?_) <;> (try simp only [decide_eq_true_eq, decide_eq_false_iff_not, beq_iff_eq, beq_eq_false_iff_ne, bne_iff_ne, bne_eq_false_iff_eq, ne_eq, not_false_eq_true, not_true_eq_false, Bool.not_eq_true, Bool.not_eq_true', Bool.not_eq_false', Int.not_lt, Int.not_le] at hb) <;> (try simp (disch := omega) only [wrapI] at hb) <;> (try (exfalso; omega))) | fail)))

def mx0 (t : Int) : Int := if 0 < t then t else 0
def mnK (k t : Int) : Int := if t < k then t else k
def wide (x : Lm) (r1 r2 r3 r4 : Int) : Lm := ⟨x.lo.map fun v => mx0 (v - r3), x.hi.map fun v => mnK 127 (v + r4), mnK 127 (x.leap + r1), x.gap, mnK 10 (x.cross + r2)⟩
theorem prs_wide {r3 r4 : Int} (h3 : 0 ≤ r3) (h4 : 0 ≤ r4) : ∀ (lo hi : List Int), prs lo hi = 0 → prs (lo.map fun v => mx0 (v - r3)) (hi.map fun v => mnK 127 (v + r4)) = 0
  | [], _, _ => by simp [prs]
  | _ :: _, [], _ => by simp [prs]
  | a :: r, b :: s, h => by
    unfold prs at h
    split at h
    · simp at h
    · rename_i hh
      rw [List.map_cons, List.map_cons, prs, if_neg (by unfold mx0 mnK; split <;> split <;> omega)]
      exact prs_wide h3 h4 r s h
theorem wide_ok {x : Lm} {r1 r2 r3 r4 : Int} (h : chkL x = 0) (h1 : 0 ≤ r1) (h2 : 0 ≤ r2) (h3 : 0 ≤ r3) (h4 : 0 ≤ r4) : chkL (wide x r1 r2 r3 r4) = 0 := by
  have X := lmOk_of h
  obtain ⟨a1, a2, a3, a4, a5, a6, a7⟩ := X
  unfold chkL wide
  simp only [List.length_map]
  rw [if_neg (by omega), if_neg (by omega), if_neg (by unfold mnK; split <;> omega), if_neg (by omega), if_neg (by unfold mnK; split <;> omega)]
  exact prs_wide h3 h4 _ _ a7
theorem getD_map0 (l : List Int) (f : Int → Int) {i : Nat} (h : i < l.length) : (l.map f).getD i 0 = f (l.getD i 0) := by
  rw [List.getD_eq_getElem?_getD, List.getD_eq_getElem?_getD, List.getElem?_map, List.getElem?_eq_getElem h]; rfl
theorem prs_get : ∀ {lo hi : List Int}, prs lo hi = 0 → ∀ i, i < lo.length → i < hi.length → 0 ≤ lo.getD i 0 ∧ lo.getD i 0 ≤ hi.getD i 0 ∧ hi.getD i 0 ≤ 127
  | [], _, _, i, h, _ => by simp at h
  | _ :: _, [], _, i, _, h => by simp at h
  | a :: r, b :: s, h, i, h1, h2 => by
    unfold prs at h
    split at h
    · simp at h
    · cases i with
      | zero => simp; omega
      | succ i => simpa using prs_get h i (by simpa using h1) (by simpa using h2)
theorem join_wide {x : Lm} (X : LmOk x) {r1 r2 r3 r4 : Int} (h1 : 0 ≤ r1) (h3 : 0 ≤ r3) (h4 : 0 ≤ r4) {s : St} {n : Nt} {v : Int} {d : Int × St} (hn : 0 ≤ n.p ∧ n.p ≤ 127) (h : join x s n v = some d) : join (wide x r1 r2 r3 r4) s n v = some d := by
  unfold join at h ⊢
  have e1 : (wide x r1 r2 r3 r4).lo.length = x.lo.length := by simp [wide]
  rw [e1]
  split at h
  · cases h
  rename_i c1
  rw [if_neg c1]
  have hj : (v - 1).toNat < x.lo.length := by omega
  have hj2 : (v - 1).toNat < x.hi.length := by rw [X.hi]; exact hj
  have e2 : (wide x r1 r2 r3 r4).lo.getD (v - 1).toNat 0 = mx0 (x.lo.getD (v - 1).toNat 0 - r3) := getD_map0 _ _ hj
  have e3 : (wide x r1 r2 r3 r4).hi.getD (v - 1).toNat 0 = mnK 127 (x.hi.getD (v - 1).toNat 0 + r4) := getD_map0 _ _ hj2
  rw [e2, e3]
  split at h
  · cases h
  rename_i c2
  rw [if_neg (by unfold mx0 mnK; split <;> split <;> omega)]
  split at h
  · cases h
  rename_i c3
  rw [if_neg c3]
  have e4 : (wide x r1 r2 r3 r4).gap = x.gap := rfl
  have e5 : (wide x r1 r2 r3 r4).leap = mnK 127 (x.leap + r1) := rfl
  rw [e4, e5]
  have hl := X.leap
  split at h
  · rename_i c4
    rw [if_pos c4]
    split at h
    · cases h
    · rename_i c5
      rw [if_neg (by unfold mnK; split <;> omega)]
      exact h
  · rename_i c4
    rw [if_neg c4]
    exact h
theorem evt_wide {x : Lm} (X : LmOk x) {r1 r2 r3 r4 : Int} (h1 : 0 ≤ r1) (h3 : 0 ≤ r3) (h4 : 0 ≤ r4) : ∀ (c i : Nat) (s : St) (m : Int) (l : List Nt) (ks : List Int) (d : St × Int), (∀ n ∈ l, 0 ≤ n.p ∧ n.p ≤ 127) → evt x s m i c l ks = .inr d → evt (wide x r1 r2 r3 r4) s m i c l ks = .inr d
  | 0, i, s, m, l, ks, d, hl, h => by unfold evt at h ⊢; exact h
  | c + 1, i, s, m, [], ks, d, hl, h => by simp [evt] at h
  | c + 1, i, s, m, n :: r, [], d, hl, h => by simp [evt] at h
  | c + 1, i, s, m, n :: r, k :: q, d, hl, h => by
    unfold evt at h ⊢
    cases hj : join x s n k with
    | none => rw [hj] at h; simp at h
    | some d2 =>
      rw [hj] at h
      simp only at h
      rw [join_wide X h1 h3 h4 (hl n (by simp)) hj]
      exact evt_wide X h1 h3 h4 c (i + 1) d2.2 (m + d2.1) r q d (fun x hx => hl x (by simp [hx])) h
theorem vals_wide {x : Lm} (X : LmOk x) {r1 r2 r3 r4 : Int} (h1 : 0 ≤ r1) (h2 : 0 ≤ r2) (h3 : 0 ≤ r3) (h4 : 0 ≤ r4) {l : List Nt} {ks : List Int} (hl : ∀ n ∈ l, 0 ≤ n.p ∧ n.p ≤ 127) :
    ∀ (S : List (Nat × Nat)) (s : St) (c m : Int) (z : Int × Int × Int × Int), vals x l ks s c m S = z → z.2.1 = 0 → (∀ s t, crs s t ≤ 25) → vals (wide x r1 r2 r3 r4) l ks s c m S = z
  | [], s, c, m, z, h, hz, hc => by unfold vals at h ⊢; exact h
  | (a, n) :: r, s, c, m, z, h, hz, hc => by
    unfold vals at h ⊢
    cases he : evt x s m a n (l.drop a) (ks.drop a) with
    | inl j => rw [he] at h; simp only at h; subst h; simp at hz
    | inr d =>
      rw [he] at h
      simp only at h
      rw [evt_wide X h1 h3 h4 n a s m (l.drop a) (ks.drop a) d (fun q hq => hl q (List.mem_of_mem_drop hq)) he]
      simp only
      split at h
      · subst h; simp at hz
      · rename_i c1
        have hx := X.cross
        by_cases c2 : (wide x r1 r2 r3 r4).cross < crs d.1 (frN l a)
        · have e : (wide x r1 r2 r3 r4).cross = mnK 10 (x.cross + r2) := rfl
          rw [e] at c2
          unfold mnK at c2
          split at c2 <;> omega
        · rw [if_neg c2]
          exact vals_wide X h1 h2 h3 h4 hl r d.1 _ _ z h hz hc
theorem valid_wide {x : Lm} {n : List Nt} {ks : List Int} {r1 r2 r3 r4 : Int} (hx : chkL x = 0) (h1 : 0 ≤ r1) (h2 : 0 ≤ r2) (h3 : 0 ≤ r3) (h4 : 0 ≤ r4) (h : (valid x n ks).2.1 = 0) : valid (wide x r1 r2 r3 r4) n ks = valid x n ks := by
  obtain ⟨-, hk, hb⟩ := valid_len h
  have hN : chkN n = 0 := by unfold both at hb; rw [hx] at hb; simpa using hb
  have hb' : both (wide x r1 r2 r3 r4) n = 0 := by unfold both; rw [wide_ok hx h1 h2 h3 h4, hN]; rfl
  unfold valid at h ⊢
  rw [if_neg (by omega), if_neg (by omega)] at h
  rw [if_neg (by omega), if_neg (by omega), if_neg (by omega), if_neg (by omega)]
  exact vals_wide (lmOk_of hx) h1 h2 h3 h4 (fun q hq => by have := fit_of ((ntsOk_of hN).fit q hq); unfold ntFit at this; omega) _ _ _ _ _ rfl h (fun s t => (crs_bd s t).2)
end Go.Ab.V

/-
  The notes up to an event: plain law. No condition.
-/
namespace Go.Ab.V
open Go.Proofs

theorem chkNs_take : ∀ (l : List Nt) (b : Option Nt) (q : Nat), chkNs b l = 0 → chkNs b (l.take q) = 0
  | [], b, q, h => by simpa using h
  | m :: r, b, 0, h => by cases b <;> simp [chkNs]
  | m :: r, none, q + 1, h => by
    unfold chkNs at h
    split at h
    · simp at h
    · rename_i c
      rw [List.take_succ_cons, chkNs, if_neg c]
      exact chkNs_take r (some m) q h
  | m :: r, some b, q + 1, h => by
    unfold chkNs at h
    split at h
    · simp at h
    · rename_i c
      split at h
      · simp at h
      · rename_i c2
        rw [List.take_succ_cons, chkNs, if_neg c, if_neg c2]
        exact chkNs_take r (some m) q h
theorem chkN_take {l : List Nt} (h : chkN l = 0) (q : Nat) : chkN (l.take q) = 0 := by
  unfold chkN at h ⊢
  split at h
  · simp at h
  · rw [if_neg (by simp; omega)]
    exact chkNs_take l none q h
theorem evt_take (x : Lm) : ∀ (c i : Nat) (s : St) (m : Int) (l : List Nt) (ks : List Int) (q : Nat), c ≤ q → evt x s m i c (l.take q) (ks.take q) = evt x s m i c l ks
  | 0, i, s, m, l, ks, q, _ => by simp [evt]
  | c + 1, i, s, m, [], ks, q, _ => by simp [evt]
  | c + 1, i, s, m, n :: r, [], q, h => by
    obtain ⟨q, rfl⟩ : ∃ p, q = p + 1 := ⟨q - 1, by omega⟩
    simp [evt]
  | c + 1, i, s, m, n :: r, k :: t, q, h => by
    obtain ⟨q, rfl⟩ : ∃ p, q = p + 1 := ⟨q - 1, by omega⟩
    rw [List.take_succ_cons, List.take_succ_cons, evt, evt]
    cases join x s n k with
    | none => rfl
    | some d => exact evt_take x c (i + 1) d.2 (m + d.1) r t q (by omega)
/-- whether an event ends there -/
def bnd (l : List Nt) (q : Nat) : Prop := q = 0 ∨ l.length ≤ q ∨ ∃ (h : q < l.length) (h2 : 0 < q), (l[q - 1]'(by omega)).e ≠ l[q].e
theorem run1_take (e : Int) : ∀ (l : List Nt) (q : Nat), run1 e l ≤ q → run1 e (l.take q) = run1 e l
  | [], q, _ => by simp
  | n :: r, q, h => by
    by_cases c : n.e = e
    · have e1 : run1 e (n :: r) = run1 e r + 1 := by rw [run1, if_pos c]
      rw [e1] at h ⊢
      obtain ⟨q, rfl⟩ : ∃ p, q = p + 1 := ⟨q - 1, by omega⟩
      rw [List.take_succ_cons, run1, if_pos c, run1_take e r q (by omega)]
    · have e1 : run1 e (n :: r) = 0 := by rw [run1, if_neg c]
      rw [e1]
      cases q with
      | zero => rfl
      | succ q => rw [List.take_succ_cons, run1, if_neg c]
theorem segR_take : ∀ (k o : Nat) (l : List Nt) (q : Nat), l.length ≤ k → bnd l q → ∃ X, segR o (l.take q) ++ X = segR o l
  | k, o, [], q, _, _ => ⟨[], by simp⟩
  | 0, o, n :: r, q, h, _ => by simp at h
  | k + 1, o, n :: r, q, h, hb => by
    by_cases hq : q = 0
    · subst hq; exact ⟨segR o (n :: r), by simp [segR]⟩
    have hle := run1_le n.e r
    have hrun : run1 n.e (n :: r) = run1 n.e r + 1 := by rw [run1, if_pos rfl]
    have hm : run1 n.e r + 1 ≤ q := by
      rcases hb with hb | hb | ⟨h1, h2, h3⟩
      · exact absurd hb hq
      · simp at hb; omega
      · by_cases c : run1 n.e r + 1 ≤ q
        · exact c
        · exfalso
          obtain ⟨a1, a2⟩ := run1_at (e := n.e) (l := n :: r) (k := q) (by omega)
          obtain ⟨b1, b2⟩ := run1_at (e := n.e) (l := n :: r) (k := q - 1) (by omega)
          exact h3 (b2.trans a2.symm)
    obtain ⟨q, rfl⟩ : ∃ p, q = p + 1 := ⟨q - 1, by omega⟩
    rw [List.take_succ_cons, segR_cons, segR_cons, run1_take n.e r q (by omega)]
    have hb2 : bnd ((n :: r).drop (run1 n.e r + 1)) (q + 1 - (run1 n.e r + 1)) := by
      by_cases c1 : q + 1 = run1 n.e r + 1
      · left; omega
      · rcases hb with hb | hb | ⟨h1, h2, h3⟩
        · omega
        · right; left; simp at hb ⊢; omega
        · right; right
          refine ⟨by simp at h1 ⊢; omega, by omega, ?_⟩
          rw [List.getElem_drop, List.getElem_drop]
          have e1 : run1 n.e r + 1 + (q + 1 - (run1 n.e r + 1)) = q + 1 := by omega
          have e2 : run1 n.e r + 1 + (q + 1 - (run1 n.e r + 1) - 1) = q + 1 - 1 := by omega
          simp only [e1, e2]
          exact h3
    obtain ⟨X, hX⟩ := segR_take k (o + (run1 n.e r + 1)) ((n :: r).drop (run1 n.e r + 1)) (q + 1 - (run1 n.e r + 1)) (by simp at h ⊢; omega) hb2
    refine ⟨X, ?_⟩
    rw [List.cons_append, ← hX]
    congr 3
    rw [List.drop_succ_cons, List.drop_succ_cons, List.drop_take, show q + 1 - (run1 n.e r + 1) = q - run1 n.e r by omega]
theorem vals_mono {x : Lm} (h5 : x.lo.length ≤ 5) {l : List Nt} (hl : ∀ n ∈ l, ntFit n) {ks : List Int} : ∀ (S : List (Nat × Nat)) (s : St) (c m : Int), s.ok → (vals x l ks s c m S).2.1 = 0 → c ≤ (vals x l ks s c m S).2.2.1 ∧ m ≤ (vals x l ks s c m S).2.2.2
  | [], s, c, m, _, _ => by simp [vals]
  | (a, n) :: r, s, c, m, hs, h => by
    unfold vals at h ⊢
    cases he : evt x s m a n (l.drop a) (ks.drop a) with
    | inl j => rw [he] at h; simp at h
    | inr d =>
      rw [he] at h
      simp only at h ⊢
      split at h
      · simp at h
      · rename_i c1
        rw [if_neg c1]
        have hb := evt_bd h5 n a s m (l.drop a) (ks.drop a) d hs (fun q hq => hl q (List.mem_of_mem_drop hq)) he
        have hk := evt_ok h5 n a s m (l.drop a) (ks.drop a) d hs (fun q hq => hl q (List.mem_of_mem_drop hq)) he
        have hc := crs_bd d.1 (frN l a)
        have := vals_mono h5 hl r d.1 _ _ hk h
        omega
where
  evt_ok {x : Lm} (h5 : x.lo.length ≤ 5) : ∀ (c i : Nat) (s : St) (m : Int) (l : List Nt) (ks : List Int) (d : St × Int), s.ok → (∀ n ∈ l, ntFit n) → evt x s m i c l ks = .inr d → d.1.ok
  | 0, i, s, m, l, ks, d, hs, hl, h => by unfold evt at h; cases h; exact hs
  | c + 1, i, s, m, [], ks, d, hs, hl, h => by simp [evt] at h
  | c + 1, i, s, m, n :: r, [], d, hs, hl, h => by simp [evt] at h
  | c + 1, i, s, m, n :: r, k :: q, d, hs, hl, h => by
    unfold evt at h
    cases hj : join x s n k with
    | none => rw [hj] at h; simp at h
    | some d2 =>
      rw [hj] at h
      simp only at h
      obtain ⟨h1, h2, h3⟩ := join_ok hj h5 hs (hl n (by simp))
      exact evt_ok h5 c (i + 1) d2.2 (m + d2.1) r q d h1 (fun x hx => hl x (by simp [hx])) h
theorem vals_pre {x : Lm} (h5 : x.lo.length ≤ 5) {l : List Nt} (hl : ∀ n ∈ l, ntFit n) {ks : List Int} {q : Nat} : ∀ (S X : List (Nat × Nat)) (s : St) (c m : Int), s.ok → (∀ p ∈ S, p.1 + p.2 ≤ q ∧ 0 < p.2) → (vals x l ks s c m (S ++ X)).2.1 = 0 →
    (vals x (l.take q) (ks.take q) s c m S).2.1 = 0 ∧ (vals x (l.take q) (ks.take q) s c m S).2.2.1 ≤ (vals x l ks s c m (S ++ X)).2.2.1 ∧ (vals x (l.take q) (ks.take q) s c m S).2.2.2 ≤ (vals x l ks s c m (S ++ X)).2.2.2
  | [], X, s, c, m, hs, _, h => by
    rw [List.nil_append] at h ⊢
    have := vals_mono h5 hl X s c m hs h
    simp only [vals]
    exact ⟨trivial, this⟩
  | (a, n) :: r, X, s, c, m, hs, hp, h => by
    obtain ⟨h1, h2⟩ := hp (a, n) (by simp)
    simp only at h1 h2
    rw [List.cons_append] at h ⊢
    unfold vals at h ⊢
    have e1 : (l.take q).drop a = (l.drop a).take (q - a) := List.drop_take
    have e2 : (ks.take q).drop a = (ks.drop a).take (q - a) := List.drop_take
    rw [e1, e2, evt_take x n a s m (l.drop a) (ks.drop a) (q - a) (by omega)]
    have e3 : frN (l.take q) a = frN l a := by unfold frN; rw [List.getElem?_take, if_pos (by omega)]
    rw [e3]
    cases he : evt x s m a n (l.drop a) (ks.drop a) with
    | inl j => rw [he] at h; simp at h
    | inr d =>
      rw [he] at h
      simp only at h ⊢
      split at h
      · simp at h
      · rename_i c1
        rw [if_neg c1, if_neg c1]
        have hk := vals_mono.evt_ok h5 n a s m (l.drop a) (ks.drop a) d hs (fun q hq => hl q (List.mem_of_mem_drop hq)) he
        exact vals_pre h5 hl r X d.1 _ _ hk (fun p hp2 => hp p (by simp [hp2])) h
theorem chain_mem : ∀ {L o : Nat} {S : List (Nat × Nat)}, Chain L o S → ∀ p ∈ S, p.1 + p.2 ≤ L ∧ 0 < p.2
  | L, o, [], h, p, hp => by simp at hp
  | L, o, (a, n) :: r, h, p, hp => by
    obtain ⟨h1, h2, h3⟩ := h
    rcases List.mem_cons.1 hp with rfl | hp
    · have := chain_le h3; subst h1; exact ⟨this, h2⟩
    · exact chain_mem h3 p hp
theorem valid_pre {x : Lm} {n : List Nt} {ks : List Int} {q : Nat} (hq : q ≤ n.length) (hb : bnd n q) (h : (valid x n ks).2.1 = 0) :
    (valid x (n.take q) (ks.take q)).2.1 = 0 ∧ (valid x (n.take q) (ks.take q)).2.2.1 ≤ (valid x n ks).2.2.1 ∧ (valid x (n.take q) (ks.take q)).2.2.2 ≤ (valid x n ks).2.2.2 := by
  obtain ⟨-, hk, hbo⟩ := valid_len h
  have hX : chkL x = 0 := by
    unfold both at hbo; split at hbo
    · rename_i h; exact absurd hbo h
    · rename_i h; simpa using h
  have hN : chkN n = 0 := by unfold both at hbo; rw [hX] at hbo; simpa using hbo
  have hb' : both x (n.take q) = 0 := by unfold both; rw [hX, chkN_take hN]; rfl
  have NN := ntsOk_of hN
  unfold valid at h ⊢
  rw [if_neg (by omega), if_neg (by omega)] at h
  rw [if_neg (by omega), if_neg (by simp; omega), if_neg (by omega), if_neg (by omega)]
  obtain ⟨X, hX2⟩ := segR_take n.length 0 n q (Nat.le_refl _) hb
  rw [← hX2] at h ⊢
  have hch := chain_segR (n.take q).length 0 (n.take q) (Nat.le_refl _)
  rw [Nat.zero_add] at hch
  exact vals_pre (lmOk_of hX).lo5 (fun m hm => fit_of (NN.fit m hm)) _ X st0 0 0 St.ok0 (fun p hp => by
    have := chain_mem hch p hp
    simp at this; omega) h
end Go.Ab.V

/-
  The law Prefix. No condition but the lengths.
-/
namespace Go.Ab.V
open Go.Proofs

def A7 : Ann := fun r => match r with
  | 0 => { slots := [(0, 0)] }
  | 3 => { slots := [(10, 1)] }
  | 9 => { slots := [(14, 2)] }
  | _ => {}
set_option maxHeartbeats 8000000 in
set_option maxRecDepth 100000 in
theorem law_prefix (x : Lm) (n : List Nt) (ks : List Int) (k : Int) (h1 : x.lo.length ≤ 9223372036854775807) (h2 : x.hi.length ≤ 9223372036854775807) (h3 : n.length ≤ 9223372036854775807)
    (h4 : ks.length ≤ 9223372036854775807) : ACalls C.P 7 [caseA x n, intsA ks, .int .i64 k] Heap.nil fun r _ => r = .bool true := by
  have hM := many22 n 400 (by omega) h3
  have hV := valid26 x n ks h1 h2 h3 h4
  generalize manyB n.length 400 = M at hM
  cases M
  case true =>
    refine fn_of ok mixed (A := A7) 3 Try.func7 rfl ?_
    (repeat' (first | exact rfl | ((conv => whnf); first | refine ⟨_, hM, ?_⟩ | refine ⟨_, hV, ?_⟩ | refine ⟨_, works_spec, ?_⟩ | exact rfl | exact ⟨rfl, rfl⟩ | refine ⟨(by kernel_rfl : drawOk _ _ _ _ = true), ?_⟩ | refine ⟨(by kernel_rfl : planOk _ _ _ _ = true), ?_⟩ | refine ⟨rfl, ?_⟩ | refine ⟨by (first | omega | (simp (disch := omega) only [wrapI]; omega) | (simp (disch := omega) only [wrapI]; simp; omega) | (simp; omega)), ?_⟩ | (intro ep) | (refine ifB (fun hb => ?_) (fun hb => ?_) <;> (try simp only [decide_eq_true_eq, decide_eq_false_iff_not, beq_iff_eq, beq_eq_false_iff_ne, bne_iff_ne, bne_eq_false_iff_eq, ne_eq, not_false_eq_true, not_true_eq_false, Bool.not_eq_true, Bool.not_eq_true', Bool.not_eq_false', Int.not_lt, Int.not_le] at hb) <;> (try simp (disch := omega) only [wrapI] at hb) <;> (try (exfalso; omega))) | fail)))
  have hvl := valid_len (x := x) (n := n) (ks := ks)
  have hpr := fun q a b => valid_pre (x := x) (n := n) (ks := ks) (q := q) a b
  generalize valid x n ks = V at hV hvl hpr
  obtain ⟨at', e, c, m⟩ := V
  unfold valV at hV
  simp only at hV hvl hpr
  by_cases he : e = 0
  case neg =>
    rw [if_neg he] at hV
    refine fn_of ok mixed (A := A7) 3 Try.func7 rfl ?_
    (repeat' (first | exact rfl | ((conv => whnf); first | refine ⟨_, hM, ?_⟩ | refine ⟨_, hV, ?_⟩ | refine ⟨_, works_spec, ?_⟩ | exact rfl | exact ⟨rfl, rfl⟩ | refine ⟨(by kernel_rfl : drawOk _ _ _ _ = true), ?_⟩ | refine ⟨(by kernel_rfl : planOk _ _ _ _ = true), ?_⟩ | refine ⟨rfl, ?_⟩ | refine ⟨by (first | omega | (simp (disch := omega) only [wrapI]; omega) | (simp (disch := omega) only [wrapI]; simp; omega) | (simp; omega)), ?_⟩ | (intro ep) | (refine ifB (fun hb => ?_) (fun hb => ?_) <;> (try simp only [decide_eq_true_eq, decide_eq_false_iff_not, beq_iff_eq, beq_eq_false_iff_ne, bne_iff_ne, bne_eq_false_iff_eq, ne_eq, not_false_eq_true, not_true_eq_false, Bool.not_eq_true, Bool.not_eq_true', Bool.not_eq_false', Int.not_lt, Int.not_le] at hb) <;> (try simp (disch := omega) only [wrapI] at hb) <;> (try (exfalso; omega))) | fail)))
  rw [if_pos he] at hV
  subst he
  obtain ⟨hk1, hk2, hb0⟩ := hvl rfl
  have hnl : n.length ≤ 5600 := by omega
  obtain ⟨r1, p1, q1, R1⟩ := rest29 k (n.length + 1) (by omega) (by omega)
  have R1 : PRet C.P 29 [.int .i64 k, .int .i64 (IntKind.i64.wrap ((n.length : Int) + 1))] (.int .i64 r1) := by rw [wrapI (by omega) (by omega)]; exact R1
  obtain ⟨q0, rfl⟩ : ∃ q : Nat, r1 = (q : Int) := ⟨r1.toNat, by omega⟩
  refine fn_of ok mixed (A := A7) 3 Try.func7 rfl ?_
  (conv => whnf)
  intro e0
  (repeat' (first | exact rfl | ((conv => whnf); first | refine ⟨_, hM, ?_⟩ | refine ⟨_, hV, ?_⟩ | refine ⟨_, R1, ?_⟩ | (intro e1) | exact rfl | exact ⟨rfl, rfl⟩ | refine ⟨(by kernel_rfl : drawOk _ _ _ _ = true), ?_⟩ | refine ⟨(by kernel_rfl : planOk _ _ _ _ = true), ?_⟩ | refine ⟨rfl, ?_⟩ | refine ⟨by (first | omega | (simp (disch := omega) only [wrapI]; omega) | (simp (disch := omega) only [wrapI]; simp; omega) | (simp; omega)), ?_⟩ | (intro ep) | (refine ifB (fun hb => ?_) (fun hb => ?_) <;> (try simp only [decide_eq_true_eq, decide_eq_false_iff_not, beq_iff_eq, beq_eq_false_iff_ne, bne_iff_ne, bne_eq_false_iff_eq, ne_eq, not_false_eq_true, not_true_eq_false, Bool.not_eq_true, Bool.not_eq_true', Bool.not_eq_false', Int.not_lt, Int.not_le] at hb) <;> (try simp (disch := omega) only [wrapI] at hb) <;> (try (exfalso; omega))) | fail)))
  all_goals (conv => whnf)
  refine loopX ok mixed (A := A7) [1, 3, 7, 10] [0, 1] (S := { q : Nat // q ≤ n.length })
    (fr := fun q => frOf 0 108 [(1, intsA ks), (3, .optr (.s 0) e0 6 0 0), (7, .optr (.s 1) e1 3 0 0), (10, .int .i64 (q.1 : Int))])
    (h := fun q => ⟨[.vec e0 [[intsA x.lo, intsA x.hi, .int .i64 x.leap, .int .i64 x.gap, .int .i64 x.cross, ntsA n]], .vec e1 [[intsA ks, .int .i64 c, .int .i64 m]], .hole], []⟩) (μ := fun q => n.length - q.1) ⟨q0, by omega⟩ ?_ ?_
    [1, 3, 7, 10] [0, 1] (S' := { q : Nat // q ≤ n.length ∧ bnd n q }) (X := fun _ => 0)
    (frX := fun q => frOf 0 108 [(1, intsA ks), (3, .optr (.s 0) e0 6 0 0), (7, .optr (.s 1) e1 3 0 0), (10, .int .i64 (q.1 : Int))])
    (hX := fun q => ⟨[.vec e0 [[intsA x.lo, intsA x.hi, .int .i64 x.leap, .int .i64 x.gap, .int .i64 x.cross, ntsA n]], .vec e1 [[intsA ks, .int .i64 c, .int .i64 m]], .hole], []⟩)
    (R := fun _ _ => False) ?_ (fun _ _ h => h.elim) ?_
  · exact rfl
  · exact rfl
  · rintro ⟨q, hq⟩
    show aexR _ _ _ (frOf 0 108 [(1, intsA ks), (3, .optr (.s 0) e0 6 0 0), (7, .optr (.s 1) e1 3 0 0), (10, .int .i64 (q : Int))])
      ⟨[.vec e0 [[intsA x.lo, intsA x.hi, .int .i64 x.leap, .int .i64 x.gap, .int .i64 x.cross, ntsA n]], .vec e1 [[intsA ks, .int .i64 c, .int .i64 m]], .hole], []⟩ _
    by_cases g1 : 0 < q ∧ q < n.length
    · have a2 : q - 1 < n.length := by omega
      have hm1 := mapR (f := ntR) g1.2
      have hm2 := mapR (f := ntR) a2
      have hw : IntKind.i64.wrap ((q : Int) - 1) = ((q - 1 : Nat) : Int) := by rw [wrapI (by omega) (by omega)]; omega
      rw [← hw] at hm2
      have hbn : n[q - 1].e ≠ n[q].e → bnd n q := fun h => .inr (.inr ⟨g1.2, g1.1, h⟩)
      generalize n[q] = a at hm1 hbn
      generalize n[q - 1] = b at hm2 hbn
      obtain ⟨ae, ac, ap, af, at2⟩ := a
      obtain ⟨be, bc, bp, bf, bt⟩ := b
      replace hm1 : (n.map ntR)[0 + (q : Int).toNat]? = some [.int .i64 ae, .int .i64 ac, .int .i64 ap, .int .i64 af, .int .i64 at2] := hm1
      replace hm2 : (n.map ntR)[0 + (IntKind.i64.wrap ((q : Int) - 1)).toNat]? = some [.int .i64 be, .int .i64 bc, .int .i64 bp, .int .i64 bf, .int .i64 bt] := hm2
      simp only at hbn
      by_cases g2 : ae = be
      · (repeat' (first | exact rfl | ((conv => whnf); first | refine optS hm1 ?_ | refine optS hm2 ?_ | exact rfl | exact ⟨rfl, rfl⟩ | refine ⟨(by kernel_rfl : drawOk _ _ _ _ = true), ?_⟩ | refine ⟨(by kernel_rfl : planOk _ _ _ _ = true), ?_⟩ | refine ⟨rfl, ?_⟩ | refine ⟨by (first | omega | (simp (disch := omega) only [wrapI]; omega) | (simp (disch := omega) only [wrapI]; simp; omega) | (simp; omega)), ?_⟩ | (intro ep) | (refine ifB (fun hb => ?_) (fun hb => ?_) <;> (try simp only [decide_eq_true_eq, decide_eq_false_iff_not, beq_iff_eq, beq_eq_false_iff_ne, bne_iff_ne, bne_eq_false_iff_eq, ne_eq, not_false_eq_true, not_true_eq_false, Bool.not_eq_true, Bool.not_eq_true', Bool.not_eq_false', Int.not_lt, Int.not_le] at hb) <;> (try simp (disch := omega) only [wrapI] at hb) <;> (try (exfalso; omega))) | fail)))
        all_goals (conv => whnf)
        all_goals exact back_of ⟨q + 1, by omega⟩ ⟨by (first | exact rfl | (simp (disch := omega) only [wrapI]; exact rfl)), rfl, by simp only; omega⟩
      · (repeat' (first | exact rfl | ((conv => whnf); first | refine optS hm1 ?_ | refine optS hm2 ?_ | exact rfl | exact ⟨rfl, rfl⟩ | refine ⟨(by kernel_rfl : drawOk _ _ _ _ = true), ?_⟩ | refine ⟨(by kernel_rfl : planOk _ _ _ _ = true), ?_⟩ | refine ⟨rfl, ?_⟩ | refine ⟨by (first | omega | (simp (disch := omega) only [wrapI]; omega) | (simp (disch := omega) only [wrapI]; simp; omega) | (simp; omega)), ?_⟩ | (intro ep) | (refine ifB (fun hb => ?_) (fun hb => ?_) <;> (try simp only [decide_eq_true_eq, decide_eq_false_iff_not, beq_iff_eq, beq_eq_false_iff_ne, bne_iff_ne, bne_eq_false_iff_eq, ne_eq, not_false_eq_true, not_true_eq_false, Bool.not_eq_true, Bool.not_eq_true', Bool.not_eq_false', Int.not_lt, Int.not_le] at hb) <;> (try simp (disch := omega) only [wrapI] at hb) <;> (try (exfalso; omega))) | fail)))
        all_goals (conv => whnf)
        all_goals exact back_of ⟨q, hq, hbn (fun h => g2 h.symm)⟩ ⟨rfl, rfl, rfl⟩
    · have hbn : bnd n q := by
        by_cases c1 : q = 0
        · exact .inl c1
        · exact .inr (.inl (by omega))
      (repeat' (first | exact rfl | ((conv => whnf); first | exact rfl | exact ⟨rfl, rfl⟩ | refine ⟨(by kernel_rfl : drawOk _ _ _ _ = true), ?_⟩ | refine ⟨(by kernel_rfl : planOk _ _ _ _ = true), ?_⟩ | refine ⟨rfl, ?_⟩ | refine ⟨by (first | omega | (simp (disch := omega) only [wrapI]; omega) | (simp (disch := omega) only [wrapI]; simp; omega) | (simp; omega)), ?_⟩ | (intro ep) | (refine ifB (fun hb => ?_) (fun hb => ?_) <;> (try simp only [decide_eq_true_eq, decide_eq_false_iff_not, beq_iff_eq, beq_eq_false_iff_ne, bne_iff_ne, bne_eq_false_iff_eq, ne_eq, not_false_eq_true, not_true_eq_false, Bool.not_eq_true, Bool.not_eq_true', Bool.not_eq_false', Int.not_lt, Int.not_le] at hb) <;> (try simp (disch := omega) only [wrapI] at hb) <;> (try (exfalso; omega))) | fail)))
      all_goals (conv => whnf)
      all_goals exact back_of ⟨q, hq, hbn⟩ ⟨rfl, rfl, rfl⟩
  · rintro ⟨q, hq, hbn⟩
    have hp := hpr q hq hbn rfl
    have hV2 := valid26 x (n.take q) (ks.take q) h1 h2 (by simp; omega) (by simp; omega)
    generalize valid x (n.take q) (ks.take q) = V at hV2 hp
    obtain ⟨at2, e2, c2, m2⟩ := V
    unfold valV at hV2
    simp only at hV2 hp
    obtain ⟨rfl, hp1, hp2⟩ := hp
    rw [if_pos rfl] at hV2
    have s1 : Sub (.lslc 5 (n.map ntR) 0 q false) (ntsA (n.take q)) := by
      have := Sub.part (sz := 5) (off := 0) (len := q) (rows := n.map ntR) (by simp; omega)
      rw [List.drop_zero, ← List.map_take] at this
      unfold ntsA
      rwa [List.length_take, Nat.min_eq_left hq]
    have s2 : Sub (.lslc 1 (ints ks) 0 q false) (intsA (ks.take q)) := by
      have := Sub.part (sz := 1) (off := 0) (len := q) (rows := ints ks) (by simp [ints]; omega)
      rw [List.drop_zero] at this
      unfold intsA
      rw [List.length_take, Nat.min_eq_left (by omega)]
      have e : ints (ks.take q) = (ints ks).take q := List.map_take
      rw [e]
      exact this
    have hV3 := hV2.sub (.cons (Sub.refl _) (.cons s1 (.cons s2 .nil)))
    (repeat' (first | exact rfl | ((conv => whnf); first | refine ⟨_, hV3, ?_⟩ | refine ⟨_, works_spec, ?_⟩ | exact rfl | exact ⟨rfl, rfl⟩ | refine ⟨(by kernel_rfl : drawOk _ _ _ _ = true), ?_⟩ | refine ⟨(by kernel_rfl : planOk _ _ _ _ = true), ?_⟩ | refine ⟨rfl, ?_⟩ | refine ⟨by (first | omega | (simp (disch := omega) only [wrapI]; omega) | (simp (disch := omega) only [wrapI]; simp; omega) | (simp; omega)), ?_⟩ | (intro ep) | (refine ifB (fun hb => ?_) (fun hb => ?_) <;> (try simp only [decide_eq_true_eq, decide_eq_false_iff_not, beq_iff_eq, beq_eq_false_iff_ne, bne_iff_ne, bne_eq_false_iff_eq, ne_eq, not_false_eq_true, not_true_eq_false, Bool.not_eq_true, Bool.not_eq_true', Bool.not_eq_false', Int.not_lt, Int.not_le] at hb) <;> (try simp (disch := omega) only [wrapI] at hb) <;> (try (exfalso; omega))) | fail)))
end Go.Ab.V
