/-
  What is proved here serves the law's text: each part says its own claim and its conditions. No condition is left open.
-/
import Derived.Test.YtffdekbcpnklnaaKS
import Derived.Test.YtffdekbcpnklnaaKM
set_option linter.unusedSimpArgs false
set_option linter.unusedVariables false

/-
  An assignment that is looked at, as the document says it; the law Valid. No condition but the lengths.
-/
namespace Go.Ab.V
open Go.Proofs

theorem bnds_next {S : List (Nat × Nat)} {L b : Nat} {j : Nat} (h : Chain L b (S.drop j)) (hj : j ≤ S.length) : (S.map (fun x => (x.1 : Int)) ++ [(L : Int)])[j]? = some (b : Int) := by
  by_cases hl : j < S.length
  · rw [List.drop_eq_getElem_cons hl] at h
    rw [List.getElem?_append_left (by simpa using hl), List.getElem?_map, List.getElem?_eq_getElem hl]
    have h1 : S[j].1 = b := h.1
    simp [h1]
  · rw [List.drop_eq_nil_of_le (by omega)] at h
    have e : j = S.length := by omega
    subst e
    rw [List.getElem?_append_right (by simp)]
    simp
    rw [show b = L from h]
theorem evt_shift (x : Lm) : ∀ (c i : Nat) (s : St) (m m' : Int) (l : List Nt) (ks : List Int), evt x s (m + m') i c l ks = match evt x s m' i c l ks with
    | .inl j => .inl j
    | .inr d => .inr (d.1, m + d.2)
  | 0, i, s, m, m', l, ks => by simp [evt]
  | c + 1, i, s, m, m', [], ks => by simp [evt]
  | c + 1, i, s, m, m', n :: r, [] => by simp [evt]
  | c + 1, i, s, m, m', n :: r, k :: q => by
    unfold evt
    cases hj : join x s n k with
    | none => rfl
    | some d =>
      simp only
      rw [Int.add_assoc]
      exact evt_shift x c (i + 1) d.2 m (m' + d.1) r q
def A27 : Ann := fun r => match r with
  | 0 => { slots := [(0, 0), (1, 1)] }
  | 6 => { slots := [(1, 2), (3, 3)] }
  | 8 => { slots := [(1, 4)] }
  | 12 => { slots := [(29, 5)] }
  | _ => {}
theorem nx0 (L : Nat) : NxOk L [0, 0, 0, 0, 0] 0 0 [0, 0, 0, 0, 0] := by
  have h : ∀ i, i < 5 → [(0 : Int), 0, 0, 0, 0].getD i 0 = 0 := fun i hi => by
    obtain rfl | rfl | rfl | rfl | rfl : i = 0 ∨ i = 1 ∨ i = 2 ∨ i = 3 ∨ i = 4 := by omega
    all_goals rfl
  exact ⟨rfl, fun i hi => by rw [h i hi]; simp, fun i hi _ => rfl, fun i hi _ => h i hi⟩
theorem NxOk.self {L : Nat} {s : List Int} {a k : Nat} {nx : List Int} (h : NxOk L s a k nx) : NxOk L nx k k nx := ⟨h.len, h.bd, fun _ _ _ => rfl, h.out⟩
theorem evt_bd {x : Lm} (h5 : x.lo.length ≤ 5) : ∀ (c i : Nat) (s : St) (m : Int) (l : List Nt) (ks : List Int) (d : St × Int), s.ok → (∀ n ∈ l, ntFit n) → evt x s m i c l ks = .inr d → m ≤ d.2 ∧ d.2 ≤ m + 127 * c
  | 0, i, s, m, l, ks, d, hs, hl, h => by
    unfold evt at h; cases h; simp
  | c + 1, i, s, m, [], ks, d, hs, hl, h => by simp [evt] at h
  | c + 1, i, s, m, n :: r, [], d, hs, hl, h => by simp [evt] at h
  | c + 1, i, s, m, n :: r, k :: q, d, hs, hl, h => by
    unfold evt at h
    cases hj : join x s n k with
    | none => rw [hj] at h; simp at h
    | some d2 =>
      rw [hj] at h
      simp only at h
      obtain ⟨h1, h2, h3⟩ := join_ok hj h5 hs (hl n (by simp))
      have := evt_bd h5 c (i + 1) d2.2 (m + d2.1) r q d h1 (fun x hx => hl x (by simp [hx])) h
      omega
theorem lookS_ok {l : List Nt} (hl : ∀ n ∈ l, ntFit n) (s : List Int) : (lookS l s).ok := by
  have h : ∀ z, ntFit (look l z) := fun z => by
    unfold look
    split
    · unfold ntFit nt0; decide
    · cases hh : l[(z - 1).toNat]? with
      | none => unfold ntFit nt0; simp
      | some n => exact hl n (List.mem_of_getElem? hh)
  intro k
  unfold St.get lookS
  split <;> first | exact h _ | (unfold ntFit nt0; decide)
set_option maxHeartbeats 16000000 in
set_option maxRecDepth 100000 in
theorem refValid27 (x : Lm) (n : List Nt) (ks : List Int) (hl : x.lo.length ≤ 9223372036854775807) (hh : x.hi.length ≤ 9223372036854775807) (h3 : n.length ≤ 9223372036854775807) (h4 : ks.length ≤ 9223372036854775807) :
    PRet C.P 27 [lmA x, ntsA n, intsA ks] (valV ks (valid x n ks)) := by
  have hB := both56_spec x n hl hh h3
  unfold valid
  by_cases c1 : both x n ≠ 0
  · rw [if_pos c1]
    unfold valV
    simp only
    rw [if_neg c1]
    generalize both x n = b at hB c1
    refine pret_of ok mixed (A := A27) 6 Try.func27 rfl ?_
    (repeat' (first | exact rfl | ((conv => whnf); first | refine ⟨_, hB, ?_⟩ | exact rfl | refine ⟨by kernel_rfl, ?_⟩ | exact ⟨rfl, rfl⟩ | refine ⟨rfl, ?_⟩ | refine ⟨by (first | omega | (simp (disch := omega) only [wrapI]; omega) | (simp (disch := omega) only [wrapI]; simp; omega) | (simp; omega)), ?_⟩ | (intro ep) | (refine ifB (fun hb => ?_) (fun hb => ?_) <;> (try simp only [decide_eq_true_eq, decide_eq_false_iff_not, beq_iff_eq, beq_eq_false_iff_ne, bne_iff_ne, bne_eq_false_iff_eq, ne_eq, not_false_eq_true, not_true_eq_false, Bool.not_eq_true, Bool.not_eq_true', Bool.not_eq_false', Int.not_lt, Int.not_le] at hb) <;> (try simp (disch := omega) only [wrapI] at hb) <;> (try (exfalso; omega))) | fail)))
  rw [if_neg c1]
  have c1 : both x n = 0 := by omega
  rw [c1] at hB
  by_cases c2 : ks.length ≠ n.length
  · rw [if_pos c2]
    unfold valV
    simp only
    rw [if_neg (by decide)]
    refine pret_of ok mixed (A := A27) 6 Try.func27 rfl ?_
    (repeat' (first | exact rfl | ((conv => whnf); first | refine ⟨_, hB, ?_⟩ | exact rfl | refine ⟨by kernel_rfl, ?_⟩ | exact ⟨rfl, rfl⟩ | refine ⟨rfl, ?_⟩ | refine ⟨by (first | omega | (simp (disch := omega) only [wrapI]; omega) | (simp (disch := omega) only [wrapI]; simp; omega) | (simp; omega)), ?_⟩ | (intro ep) | (refine ifB (fun hb => ?_) (fun hb => ?_) <;> (try simp only [decide_eq_true_eq, decide_eq_false_iff_not, beq_iff_eq, beq_eq_false_iff_ne, bne_iff_ne, bne_eq_false_iff_eq, ne_eq, not_false_eq_true, not_true_eq_false, Bool.not_eq_true, Bool.not_eq_true', Bool.not_eq_false', Int.not_lt, Int.not_le] at hb) <;> (try simp (disch := omega) only [wrapI] at hb) <;> (try (exfalso; omega))) | fail)))
  rw [if_neg c2]
  have c2 : ks.length = n.length := by omega
  have hX : chkL x = 0 := by
    unfold both at c1; split at c1
    · rename_i h; exact absurd c1 h
    · rename_i h; simpa using h
  have hN : chkN n = 0 := by unfold both at c1; rw [hX] at c1; simpa using c1
  have X := lmOk_of hX
  have NN := ntsOk_of hN
  have hev := refEvents_spec n NN.len
  have hch : Chain n.length 0 (segR 0 n) := by have := chain_segR n.length 0 n (Nat.le_refl _); rwa [Nat.zero_add] at this
  have hsg : ∀ q ∈ segR 0 n, SegOk n q.1 q.2 := segR_ok n n.length 0 (by omega) (fun h => by omega)
  have hlen := NN.len
  have hL5 := X.lo5
  have hfits : ∀ m ∈ n, ntFit m := fun m hm => fit_of (NN.fit m hm)
  have t3 : List.take ks.length (List.drop 0 (ints ks)) = ints ks := by rw [List.drop_zero, List.take_of_length_le (by simp [ints])]
  obtain ⟨R, hR⟩ : ∃ R, R = vals x n ks st0 0 0 (segR 0 n) := ⟨_, rfl⟩
  rw [← hR]
  unfold bnds at hev
  generalize segR 0 n = S at hR hch hsg hev
  refine pret_of ok mixed (A := A27) 6 Try.func27 rfl ?_
  (conv => whnf)
  intro e0
  (conv => whnf)
  intro e1
  (repeat' (first | exact rfl | ((conv => whnf); first | refine ⟨_, hB, ?_⟩ | refine ⟨_, hev, ?_⟩ | (intro e2) | exact rfl | refine ⟨by kernel_rfl, ?_⟩ | exact ⟨rfl, rfl⟩ | refine ⟨rfl, ?_⟩ | refine ⟨by (first | omega | (simp (disch := omega) only [wrapI]; omega) | (simp (disch := omega) only [wrapI]; simp; omega) | (simp; omega)), ?_⟩ | (intro ep) | (refine ifB (fun hb => ?_) (fun hb => ?_) <;> (try simp only [decide_eq_true_eq, decide_eq_false_iff_not, beq_iff_eq, beq_eq_false_iff_ne, bne_iff_ne, bne_eq_false_iff_eq, ne_eq, not_false_eq_true, not_true_eq_false, Bool.not_eq_true, Bool.not_eq_true', Bool.not_eq_false', Int.not_lt, Int.not_le] at hb) <;> (try simp (disch := omega) only [wrapI] at hb) <;> (try (exfalso; omega))) | fail)))
  all_goals (conv => whnf)
  rename_i eA e3
  rename_i e4
  generalize e2 = e4
  refine loopY ok mixed (A := A27) [1, 2, 3, 6, 10, 11, 12, 13] [0, 1, 2, 3, 4] (S := { z : Nat × Nat × List Int × Int × Int // z.1 ≤ S.length ∧ Chain n.length z.2.1 (S.drop z.1) ∧ NxOk x.lo.length z.2.2.1 z.2.1 z.2.1 z.2.2.1 ∧ (0 ≤ z.2.2.2.1 ∧ z.2.2.2.1 ≤ 25 * z.1) ∧ (0 ≤ z.2.2.2.2 ∧ z.2.2.2.2 ≤ 127 * z.2.1) ∧ z.1 ≤ z.2.1 ∧ vals x n ks (lookS n z.2.2.1) z.2.2.2.1 z.2.2.2.2 (S.drop z.1) = R })
    (fr := fun z => frOf 0 89 [(1, ntsA n), (2, intsA ks), (3, .optr (.s 0) e0 5 0 0), (6, .optr (.s 1) e1 3 0 0), (10, .optr (.s 3) e3 3 0 0), (11, intsA (S.map (fun x => (x.1 : Int)) ++ [(n.length : Int)])), (12, .optr (.s 4) e4 5 0 0), (13, .int .i64 (z.1.1 : Int))])
    (h := fun z => ⟨[.vec e0 [lmR x], .vec e1 [[.nils, .int .i64 0, .int .i64 0]], .vec eA (ints ks), .vec e3 [[.oslc (.s 2) eA 1 0 ks.length false, .int .i64 z.1.2.2.2.1, .int .i64 z.1.2.2.2.2]], .vec e4 [arr z.1.2.2.1], .hole], []⟩) (μ := fun z => S.length - z.1.1)
    ⟨(0, 0, [0, 0, 0, 0, 0], 0, 0), Nat.zero_le _, by simpa using hch, nx0 _, by simp, by simp, Nat.le_refl _, hR.symm⟩ ?_ ?_
    [6, 10] [1, 2, 3] (S' := { z : Int × Int // (0, 0, z.1, z.2) = R }) (X := fun _ => 0) (frX := fun z => frOf 0 89 [(6, .optr (.s 1) e1 3 0 0), (10, .optr (.s 3) e3 3 0 0)]) (hX := fun z => ⟨[.hole, .vec e1 [[.nils, .int .i64 0, .int .i64 0]], .vec eA (ints ks), .vec e3 [[.oslc (.s 2) eA 1 0 ks.length false, .int .i64 z.1.1, .int .i64 z.1.2]], .hole, .hole], []⟩)
    [6, 7, 8] [1] (S2 := { j : Int // (j, 71, 0, 0) = R }) (frR := fun j => frOf 0 89 [(6, .optr (.s 1) e1 3 0 0), (7, .int .i64 j.1), (8, .int .i64 71)]) (hR := fun j => ⟨[.hole, .vec e1 [[.nils, .int .i64 0, .int .i64 0]], .hole, .hole, .hole, .hole], []⟩) ?_ ?_ ?_
  · exact rfl
  · show maskH 0 _ _ = ⟨[.vec e0 [lmR x], .vec e1 [[.nils, .int .i64 0, .int .i64 0]], .vec eA (ints ks), .vec e3 [[.oslc (.s 2) eA 1 0 ks.length false, .int .i64 0, .int .i64 0]], .vec e4 [arr [0, 0, 0, 0, 0]], .hole], []⟩
    have t4 : (ints ks).length = ks.length := by simp [ints]
    rw [t3, t4]
    exact rfl
  · rintro ⟨⟨j, o, s, c, m⟩, hj, hch, hs, hc, hm, hjo, hu⟩
    simp only at hj hch hs hc hm hjo hu
    obtain ⟨s0, s1, s2, s3, s4, rfl⟩ := l5 hs.len
    show aexR _ _ _ (frOf 0 89 [(1, ntsA n), (2, intsA ks), (3, .optr (.s 0) e0 5 0 0), (6, .optr (.s 1) e1 3 0 0), (10, .optr (.s 3) e3 3 0 0), (11, intsA (S.map (fun x => (x.1 : Int)) ++ [(n.length : Int)])), (12, .optr (.s 4) e4 5 0 0), (13, .int .i64 (j : Int))]) ⟨[.vec e0 [lmR x], .vec e1 [[.nils, .int .i64 0, .int .i64 0]], .vec eA (ints ks), .vec e3 [[.oslc (.s 2) eA 1 0 ks.length false, .int .i64 c, .int .i64 m]], .vec e4 [arr [s0, s1, s2, s3, s4]], .hole], []⟩ _
    have hBl : (S.map (fun x => (x.1 : Int)) ++ [(n.length : Int)]).length = S.length + 1 := by simp
    have hm1 := bnds_next hch hj
    have hol := chain_le hch
    (repeat' (first | ((conv => whnf); first | exact rfl | exact ⟨rfl, rfl⟩ | refine ⟨(by kernel_rfl : drawOk _ _ _ _ = true), ?_⟩ | refine ⟨(by kernel_rfl : planOk _ _ _ _ = true), ?_⟩ | refine ⟨rfl, ?_⟩ | refine ⟨by (first | omega | (simp (disch := omega) only [wrapI]; omega) | (simp (disch := omega) only [wrapI]; simp; omega) | (simp; omega)), ?_⟩ | (intro ep) | fail)))
    all_goals (conv => whnf)
    rw [hBl]
    refine ifB (fun g1 => ?_) (fun g1 => ?_)
    · rw [wrapI (by omega) (by omega)] at g1
      simp only [decide_eq_true_eq] at g1
      have h1 : j < S.length := by omega
      rw [List.drop_eq_getElem_cons h1] at hu hch
      have hsq := hsg _ (List.getElem_mem h1)
      generalize S[j] = q at hu hch hsq
      obtain ⟨a, cnt⟩ := q
      obtain ⟨rfl, hcnt, hch⟩ := hch
      have hm2 := bnds_next hch (by omega)
      simp only at hsq
      have hle := chain_le hch
      have ha : a < n.length := by omega
      have hwj : IntKind.i64.wrap ((j : Int) + 1) = ((j + 1 : Nat) : Int) := by rw [wrapI (by omega) (by omega)]; omega
      generalize hBB : (S.map (fun x => (x.1 : Int)) ++ [(n.length : Int)]) = B at hm1 hm2 hBl
      have k1 : (ints B)[0 + (j : Int).toNat]? = some [.int .i64 (a : Int)] := by simp [ints, hm1]
      have k2 : (ints B)[0 + (IntKind.i64.wrap ((j : Int) + 1)).toNat]? = some [.int .i64 ((a + cnt : Nat) : Int)] := by rw [hwj]; simp only [ints, List.getElem?_map, Nat.zero_add, Int.toNat_natCast, hm2]; rfl
      have hT := fun o' c' h1 h2 => turn58 x n ks [s0, s1, s2, s3, s4] a cnt o' c' h1 h2 X hN hsq c2 hs
      unfold turnV at hT
      rw [vals] at hu
      have hfr : frN n a = n[a].f := frN_at ha
      have hse := evt_shift x cnt a (lookS n [s0, s1, s2, s3, s4]) m 0 (n.drop a) (ks.drop a)
      rw [Int.add_zero] at hse
      rw [hse] at hu
      have hnx := fun d => evt_nxt (d := d) X hN hsq c2 cnt a [s0, s1, s2, s3, s4] 0 hs (Nat.le_refl _) rfl
      have hbd := fun d => evt_bd (d := d) hL5 cnt a (lookS n [s0, s1, s2, s3, s4]) 0 (n.drop a) (ks.drop a) (lookS_ok hfits _) (fun q hq => hfits q (List.mem_of_mem_drop hq))
      clear hse
      generalize evt x (lookS n [s0, s1, s2, s3, s4]) 0 a cnt (n.drop a) (ks.drop a) = E at hT hu hnx hbd
      cases E with
      | inl j' =>
        simp only at hT hu
        (repeat' (first | exact rfl | ((conv => whnf); first | refine optS k1 ?_ | refine optS k2 ?_ | refine ⟨_, hT _ _ (by omega) (by omega), ?_⟩ | exact rfl | exact ⟨rfl, rfl⟩ | refine ⟨(by kernel_rfl : drawOk _ _ _ _ = true), ?_⟩ | refine ⟨(by kernel_rfl : planOk _ _ _ _ = true), ?_⟩ | refine ⟨rfl, ?_⟩ | refine ⟨by (first | omega | (simp (disch := omega) only [wrapI]; omega) | (simp (disch := omega) only [wrapI]; simp; omega) | (simp; omega)), ?_⟩ | (intro ep) | (refine ifB (fun hb => ?_) (fun hb => ?_) <;> (try simp only [decide_eq_true_eq, decide_eq_false_iff_not, beq_iff_eq, beq_eq_false_iff_ne, bne_iff_ne, bne_eq_false_iff_eq, ne_eq, not_false_eq_true, not_true_eq_false, Bool.not_eq_true, Bool.not_eq_true', Bool.not_eq_false', Int.not_lt, Int.not_le] at hb) <;> (try simp (disch := omega) only [wrapI] at hb) <;> (try (exfalso; omega))) | fail)))
        all_goals (conv => whnf)
        all_goals exact back_of ⟨(j' : Int), hu⟩ ⟨by (first | exact rfl | (simp (disch := omega) only [wrapI]; exact rfl)), rfl⟩
      | inr d =>
        obtain ⟨st, dm⟩ := d
        obtain ⟨hn1, hn2⟩ := hnx _ rfl
        have hb := hbd _ rfl
        simp only at hT hu hn1 hb
        have hcb := crs_bd st (frN n a)
        rw [← hn1] at hu
        generalize hz : crs st (frN n a) = z at hT hcb
        rw [hn1, hz] at hu
        rw [← hn1] at hu
        generalize nxt [s0, s1, s2, s3, s4] a cnt (ks.drop a) = NX at hT hn2 hu
        have hn3 := hn2.self
        obtain ⟨n0, n1, n2, n3, n4, rfl⟩ := l5 hn2.len
        clear hnx
        clear hbd
        clear hn1
        by_cases c6 : x.cross < z
        · rw [if_pos c6] at hT hu
          (repeat' (first | exact rfl | ((conv => whnf); first | refine optS k1 ?_ | refine optS k2 ?_ | refine ⟨_, hT _ _ (by omega) (by omega), ?_⟩ | exact rfl | exact ⟨rfl, rfl⟩ | refine ⟨(by kernel_rfl : drawOk _ _ _ _ = true), ?_⟩ | refine ⟨(by kernel_rfl : planOk _ _ _ _ = true), ?_⟩ | refine ⟨rfl, ?_⟩ | refine ⟨by (first | omega | (simp (disch := omega) only [wrapI]; omega) | (simp (disch := omega) only [wrapI]; simp; omega) | (simp; omega)), ?_⟩ | (intro ep) | (refine ifB (fun hb => ?_) (fun hb => ?_) <;> (try simp only [decide_eq_true_eq, decide_eq_false_iff_not, beq_iff_eq, beq_eq_false_iff_ne, bne_iff_ne, bne_eq_false_iff_eq, ne_eq, not_false_eq_true, not_true_eq_false, Bool.not_eq_true, Bool.not_eq_true', Bool.not_eq_false', Int.not_lt, Int.not_le] at hb) <;> (try simp (disch := omega) only [wrapI] at hb) <;> (try (exfalso; omega))) | fail)))
          all_goals (conv => whnf)
          all_goals exact back_of ⟨(a : Int) + cnt - 1, hu⟩ ⟨by (first | exact rfl | (simp (disch := omega) only [wrapI]; exact rfl)), rfl⟩
        · rw [if_neg c6] at hT hu
          (repeat' (first | exact rfl | ((conv => whnf); first | refine optS k1 ?_ | refine optS k2 ?_ | refine ⟨_, hT _ _ (by omega) (by omega), ?_⟩ | exact rfl | exact ⟨rfl, rfl⟩ | refine ⟨(by kernel_rfl : drawOk _ _ _ _ = true), ?_⟩ | refine ⟨(by kernel_rfl : planOk _ _ _ _ = true), ?_⟩ | refine ⟨rfl, ?_⟩ | refine ⟨by (first | omega | (simp (disch := omega) only [wrapI]; omega) | (simp (disch := omega) only [wrapI]; simp; omega) | (simp; omega)), ?_⟩ | (intro ep) | (refine ifB (fun hb => ?_) (fun hb => ?_) <;> (try simp only [decide_eq_true_eq, decide_eq_false_iff_not, beq_iff_eq, beq_eq_false_iff_ne, bne_iff_ne, bne_eq_false_iff_eq, ne_eq, not_false_eq_true, not_true_eq_false, Bool.not_eq_true, Bool.not_eq_true', Bool.not_eq_false', Int.not_lt, Int.not_le] at hb) <;> (try simp (disch := omega) only [wrapI] at hb) <;> (try (exfalso; omega))) | fail)))
          all_goals (conv => whnf)
          refine back_of ⟨(j + 1, a + cnt, [n0, n1, n2, n3, n4], c + z, m + dm), by simp only; omega, hch, hn3, by simp only; omega, by simp only; omega, by simp only; omega, hu⟩ ⟨?_, ?_, by simp only; omega⟩
          · show maskF 0 _ _ = frOf 0 89 [(1, ntsA n), (2, intsA ks), (3, .optr (.s 0) e0 5 0 0), (6, .optr (.s 1) e1 3 0 0), (10, .optr (.s 3) e3 3 0 0), (11, intsA B), (12, .optr (.s 4) e4 5 0 0), (13, .int .i64 ((j + 1 : Nat) : Int))]
            (first | exact rfl | (simp (disch := omega) only [wrapI]; exact rfl))
          · (first | exact rfl | (simp (disch := omega) only [wrapI]; exact rfl))
    · rw [wrapI (by omega) (by omega)] at g1
      simp only [decide_eq_false_iff_not] at g1
      rw [List.drop_eq_nil_of_le (by omega), vals] at hu
      (repeat' (first | exact rfl | ((conv => whnf); first | exact rfl | exact ⟨rfl, rfl⟩ | refine ⟨(by kernel_rfl : drawOk _ _ _ _ = true), ?_⟩ | refine ⟨(by kernel_rfl : planOk _ _ _ _ = true), ?_⟩ | refine ⟨rfl, ?_⟩ | refine ⟨by (first | omega | (simp (disch := omega) only [wrapI]; omega) | (simp (disch := omega) only [wrapI]; simp; omega) | (simp; omega)), ?_⟩ | (intro ep) | fail)))
      all_goals (conv => whnf)
      exact back_of ⟨(c, m), hu⟩ ⟨rfl, rfl, rfl⟩
  · rintro ⟨z, hz⟩
    (repeat' (first | ((conv => whnf); first | exact rfl | exact ⟨rfl, rfl⟩ | refine ⟨(by kernel_rfl : drawOk _ _ _ _ = true), ?_⟩ | refine ⟨(by kernel_rfl : planOk _ _ _ _ = true), ?_⟩ | refine ⟨rfl, ?_⟩ | refine ⟨by (first | omega | (simp (disch := omega) only [wrapI]; omega) | (simp (disch := omega) only [wrapI]; simp; omega) | (simp; omega)), ?_⟩ | (intro ep) | fail)))
    all_goals (subst hz; exact rfl)
  · rintro ⟨⟨c, m⟩, hz⟩
    (repeat' (first | ((conv => whnf); first | exact rfl | exact ⟨rfl, rfl⟩ | refine ⟨(by kernel_rfl : drawOk _ _ _ _ = true), ?_⟩ | refine ⟨(by kernel_rfl : planOk _ _ _ _ = true), ?_⟩ | refine ⟨rfl, ?_⟩ | refine ⟨by (first | omega | (simp (disch := omega) only [wrapI]; omega) | (simp (disch := omega) only [wrapI]; simp; omega) | (simp; omega)), ?_⟩ | (intro ep) | fail)))
    all_goals (subst hz; refine ⟨pure_ints _, ?_⟩; (conv => whnf); exact ⟨rfl, rfl⟩)
end Go.Ab.V

/-
  The law Valid. No condition but the lengths.
-/
namespace Go.Ab.V
open Go.Proofs

def A50 : Ann := fun _ => {}
set_option maxHeartbeats 4000000 in
set_option maxRecDepth 100000 in
theorem same50 (l : List Int) (hl : l.length ≤ 9223372036854775806) : PRet C.P 50 [intsA l, intsA l] (.bool true) := by
  refine pret_of ok mixed (A := A50) 0 Try.func50 rfl ?_
  (repeat' (first | exact rfl | ((conv => whnf); first | exact rfl | exact ⟨rfl, rfl⟩ | refine ⟨(by kernel_rfl : drawOk _ _ _ _ = true), ?_⟩ | refine ⟨(by kernel_rfl : planOk _ _ _ _ = true), ?_⟩ | refine ⟨rfl, ?_⟩ | refine ⟨by (first | omega | (simp (disch := omega) only [wrapI]; omega) | (simp (disch := omega) only [wrapI]; simp; omega) | (simp; omega)), ?_⟩ | (intro ep) | (refine ifB (fun hb => ?_) (fun hb => ?_) <;> (try simp only [decide_eq_true_eq, decide_eq_false_iff_not, beq_iff_eq, beq_eq_false_iff_ne, bne_iff_ne, bne_eq_false_iff_eq, ne_eq, not_false_eq_true, not_true_eq_false, Bool.not_eq_true, Bool.not_eq_true', Bool.not_eq_false', Int.not_lt, Int.not_le] at hb) <;> (try simp (disch := omega) only [wrapI] at hb) <;> (try (exfalso; omega))) | fail)))
  all_goals (conv => whnf)
  refine loopX ok mixed (A := A50) [0, 1, 5] [] (S := { k : Nat // k ≤ l.length })
    (fr := fun s => frOf 0 26 [(0, intsA l), (1, intsA l), (5, .int .i64 (s.1 : Int))])
    (h := fun s => ⟨[], []⟩) (μ := fun s => l.length - s.1) ⟨0, by omega⟩ ?_ ?_
    [] [] (S' := Unit) (X := fun _ => 0) (frX := fun s => frOf 0 26 []) (hX := fun s => ⟨[], []⟩) (R := fun _ _ => False) ?_ (fun _ _ h => h.elim) ?_
  · exact rfl
  · exact rfl
  · rintro ⟨k, hk⟩
    show aexR _ _ _ (frOf 0 26 [(0, intsA l), (1, intsA l), (5, .int .i64 (k : Int))]) ⟨[], []⟩ _
    (conv => whnf)
    refine ifB (fun g1 => ?_) (fun g1 => ?_)
    · simp only [decide_eq_true_eq] at g1
      have h1 : k < l.length := by omega
      have hm := intsR h1
      (repeat' (first | exact rfl | ((conv => whnf); first | refine optS hm ?_ | exact rfl | exact ⟨rfl, rfl⟩ | refine ⟨(by kernel_rfl : drawOk _ _ _ _ = true), ?_⟩ | refine ⟨(by kernel_rfl : planOk _ _ _ _ = true), ?_⟩ | refine ⟨rfl, ?_⟩ | refine ⟨by (first | omega | (simp (disch := omega) only [wrapI]; omega) | (simp (disch := omega) only [wrapI]; simp; omega) | (simp; omega)), ?_⟩ | (intro ep) | (refine ifB (fun hb => ?_) (fun hb => ?_) <;> (try simp only [decide_eq_true_eq, decide_eq_false_iff_not, beq_iff_eq, beq_eq_false_iff_ne, bne_iff_ne, bne_eq_false_iff_eq, ne_eq, not_false_eq_true, not_true_eq_false, Bool.not_eq_true, Bool.not_eq_true', Bool.not_eq_false', Int.not_lt, Int.not_le] at hb) <;> (try simp (disch := omega) only [wrapI] at hb) <;> (try (exfalso; omega))) | fail)))
      all_goals (conv => whnf)
      exact back_of ⟨k + 1, by omega⟩ ⟨by (first | exact rfl | (simp (disch := omega) only [wrapI]; exact rfl)), rfl, by simp only; omega⟩
    · (repeat' (first | exact rfl | ((conv => whnf); first | exact rfl | exact ⟨rfl, rfl⟩ | refine ⟨(by kernel_rfl : drawOk _ _ _ _ = true), ?_⟩ | refine ⟨(by kernel_rfl : planOk _ _ _ _ = true), ?_⟩ | refine ⟨rfl, ?_⟩ | refine ⟨by (first | omega | (simp (disch := omega) only [wrapI]; omega) | (simp (disch := omega) only [wrapI]; simp; omega) | (simp; omega)), ?_⟩ | (intro ep) | fail)))
      all_goals (conv => whnf)
      exact back_of () ⟨rfl, rfl, rfl⟩
  · rintro ⟨⟩
    (repeat' (first | exact rfl | ((conv => whnf); first | exact rfl | exact ⟨rfl, rfl⟩ | refine ⟨(by kernel_rfl : drawOk _ _ _ _ = true), ?_⟩ | refine ⟨(by kernel_rfl : planOk _ _ _ _ = true), ?_⟩ | refine ⟨rfl, ?_⟩ | refine ⟨by (first | omega | (simp (disch := omega) only [wrapI]; omega) | (simp (disch := omega) only [wrapI]; simp; omega) | (simp; omega)), ?_⟩ | (intro ep) | fail)))
set_option maxHeartbeats 4000000 in
theorem same50_nil : PRet C.P 50 [.nils, .nils] (.bool true) := by
  refine pret_of ok mixed (A := A50) 0 Try.func50 rfl ?_
  (repeat ((conv => whnf); first | exact rfl | exact ⟨rfl, rfl⟩ | refine ⟨rfl, ?_⟩ | refine ⟨by decide, ?_⟩ | refine ⟨by kernel_rfl, ?_⟩ | (intro ep) | refine loopU ok mixed (A := fun _ => {}) 100 ?_))
def A28 : Ann := fun r => match r with
  | 0 => { slots := [(0, 0), (1, 1)] }
  | _ => {}
set_option maxHeartbeats 4000000 in
set_option maxRecDepth 100000 in
theorem same28 {a : AV} (c m : Int) (h : PRet C.P 50 [a, a] (.bool true)) (ha : (∃ l, a = intsA l) ∨ a = .nils) : PRet C.P 28 [.agg [a, .int .i64 c, .int .i64 m], .agg [a, .int .i64 c, .int .i64 m]] (.bool true) := by
  rcases ha with ⟨l, rfl⟩ | rfl
  all_goals
    refine pret_of ok mixed (A := A28) 2 Try.func28 rfl ?_
    (repeat' (first | exact rfl | ((conv => whnf); first | refine ⟨_, h, ?_⟩ | exact rfl | exact ⟨rfl, rfl⟩ | refine ⟨(by kernel_rfl : drawOk _ _ _ _ = true), ?_⟩ | refine ⟨(by kernel_rfl : planOk _ _ _ _ = true), ?_⟩ | refine ⟨rfl, ?_⟩ | refine ⟨by (first | omega | (simp (disch := omega) only [wrapI]; omega) | (simp (disch := omega) only [wrapI]; simp; omega) | (simp; omega)), ?_⟩ | (intro ep) | (refine ifB (fun hb => ?_) (fun hb => ?_) <;> (try simp only [decide_eq_true_eq, decide_eq_false_iff_not, beq_iff_eq, beq_eq_false_iff_ne, bne_iff_ne, bne_eq_false_iff_eq, ne_eq, not_false_eq_true, not_true_eq_false, Bool.not_eq_true, Bool.not_eq_true', Bool.not_eq_false', Int.not_lt, Int.not_le] at hb) <;> (try simp (disch := omega) only [wrapI] at hb) <;> (try (exfalso; omega))) | fail)))
def A5 : Ann := fun r => match r with
  | 0 => { slots := [(0, 0)] }
  | 1 => { slots := [(10, 1)] }
  | 2 => { slots := [(10, 2)] }
  | _ => {}
theorem valid_len {x : Lm} {n : List Nt} {ks : List Int} (h : (valid x n ks).2.1 = 0) : ks.length ≤ 5600 ∧ ks.length = n.length ∧ both x n = 0 := by
  unfold valid at h
  split at h
  · rename_i hh; exact absurd h hh
  · split at h
    · simp at h
    · rename_i h1 h2
      have hb : both x n = 0 := by omega
      have hN : chkN n = 0 := by
        have hX : chkL x = 0 := by
          unfold both at hb; split at hb
          · rename_i h; exact absurd hb h
          · rename_i h; simpa using h
        unfold both at hb; rw [hX] at hb; simpa using hb
      have := (ntsOk_of hN).len
      exact ⟨by omega, by omega, hb⟩
set_option maxHeartbeats 4000000 in
set_option maxRecDepth 100000 in
theorem law_valid (x : Lm) (n : List Nt) (ks : List Int) (h1 : x.lo.length ≤ 9223372036854775807) (h2 : x.hi.length ≤ 9223372036854775807) (h3 : n.length ≤ 9223372036854775807)
    (h4 : ks.length ≤ 9223372036854775807) : ACalls C.P 5 [caseA x n, intsA ks] Heap.nil fun r _ => r = .bool true := by
  have a1 := valid26 x n ks h1 h2 h3 h4
  have a2 := refValid27 x n ks h1 h2 h3 h4
  have hL := valid_len (x := x) (n := n) (ks := ks)
  generalize valid x n ks = V at a1 a2 hL
  obtain ⟨at', e, c, m⟩ := V
  unfold valV at a1 a2
  simp only at a1 a2 hL
  by_cases he : e = 0
  · rw [if_pos he] at a1 a2
    have hs := same28 c m (same50 ks (by have := hL he; omega)) (.inl ⟨ks, rfl⟩)
    refine fn_of ok mixed (A := A5) 3 Try.func5 rfl ?_
    (repeat' (first | exact rfl | ((conv => whnf); first | refine ⟨_, a1, ?_⟩ | refine ⟨_, a2, ?_⟩ | refine ⟨_, hs, ?_⟩ | refine ⟨_, works_spec, ?_⟩ | exact rfl | exact ⟨rfl, rfl⟩ | refine ⟨(by kernel_rfl : drawOk _ _ _ _ = true), ?_⟩ | refine ⟨(by kernel_rfl : planOk _ _ _ _ = true), ?_⟩ | refine ⟨rfl, ?_⟩ | refine ⟨by (first | omega | (simp (disch := omega) only [wrapI]; omega) | (simp (disch := omega) only [wrapI]; simp; omega) | (simp; omega)), ?_⟩ | (intro ep) | (refine ifB (fun hb => ?_) (fun hb => ?_) <;> (try simp only [decide_eq_true_eq, decide_eq_false_iff_not, beq_iff_eq, beq_eq_false_iff_ne, bne_iff_ne, bne_eq_false_iff_eq, ne_eq, not_false_eq_true, not_true_eq_false, Bool.not_eq_true, Bool.not_eq_true', Bool.not_eq_false', Int.not_lt, Int.not_le] at hb) <;> (try simp (disch := omega) only [wrapI] at hb) <;> (try (exfalso; omega))) | fail)))
  · rw [if_neg he] at a1 a2
    have hs := same28 c m same50_nil (.inr rfl)
    refine fn_of ok mixed (A := A5) 3 Try.func5 rfl ?_
    (repeat' (first | exact rfl | ((conv => whnf); first | refine ⟨_, a1, ?_⟩ | refine ⟨_, a2, ?_⟩ | refine ⟨_, hs, ?_⟩ | refine ⟨_, works_spec, ?_⟩ | exact rfl | exact ⟨rfl, rfl⟩ | refine ⟨(by kernel_rfl : drawOk _ _ _ _ = true), ?_⟩ | refine ⟨(by kernel_rfl : planOk _ _ _ _ = true), ?_⟩ | refine ⟨rfl, ?_⟩ | refine ⟨by (first | omega | (simp (disch := omega) only [wrapI]; omega) | (simp (disch := omega) only [wrapI]; simp; omega) | (simp; omega)), ?_⟩ | (intro ep) | (refine ifB (fun hb => ?_) (fun hb => ?_) <;> (try simp only [decide_eq_true_eq, decide_eq_false_iff_not, beq_iff_eq, beq_eq_false_iff_ne, bne_iff_ne, bne_eq_false_iff_eq, ne_eq, not_false_eq_true, not_true_eq_false, Bool.not_eq_true, Bool.not_eq_true', Bool.not_eq_false', Int.not_lt, Int.not_le] at hb) <;> (try simp (disch := omega) only [wrapI] at hb) <;> (try (exfalso; omega))) | fail)))
end Go.Ab.V
