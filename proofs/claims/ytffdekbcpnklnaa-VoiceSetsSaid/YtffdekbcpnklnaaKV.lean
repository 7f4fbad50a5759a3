/-
  What is proved here serves the law's text: each part says its own claim and its conditions. No condition is left open.
-/
import Derived.Test.YtffdekbcpnklnaaKU
import Derived.Test.YtffdekbcpnklnaaKN
import Derived.Test.YtffdekbcpnklnaaKM
set_option linter.unusedSimpArgs false
set_option linter.unusedVariables false

/-
  Set, as the document says it. No condition but the lengths.
-/
namespace Go.Ab.V
open Go.Proofs

theorem refSg_bad {n : Int} (p : Int) (h : seg p n = none) : ∃ er : Int, er ≠ 0 ∧ PRet C.P 67 [.int .i64 n] (.tup [.nils, .int .i64 er]) := by
  unfold seg at h
  split at h
  · rename_i hb
    by_cases c : n < 0 ∨ 4608 < n
    · exact ⟨1, by decide, refSigns_bad n c⟩
    · obtain ⟨m, rfl⟩ : ∃ m : Nat, n = (m : Int) := ⟨n.toNat, by omega⟩
      rw [Int.toNat_natCast] at hb
      exact ⟨25, by decide, refSigns_none m (by omega) (by omega)⟩
  · cases h
theorem refSg_ok {n : Int} {p : Int} {w : List Wr} (h : seg p n = some w) : ∃ L : List Nat, w = wrL p L ∧ (∀ k ∈ L, k < 21) ∧ L.length ≤ 4608 ∧ PRet C.P 67 [.int .i64 n] (.tup [.lslc 3 (outR L) 0 L.length false, .int .i64 0]) := by
  unfold seg at h
  split at h
  · cases h
  · rename_i hb
    cases h
    obtain ⟨m, rfl⟩ : ∃ m : Nat, n = (m : Int) := ⟨n.toNat, by omega⟩
    rw [Int.toNat_natCast] at hb ⊢
    have := sigK_len (n := m) (by omega)
    exact ⟨sigK m, rfl, sigK_lt (by omega), by omega, refSigns_spec m (by omega) (by omega)⟩
/-- the tones of a list, written -/
def wts : List Tn → List Wr → Option (List Wr)
  | [], a => some a
  | t :: r, a => match seg t.p (t.t - t.f) with
    | none => none
    | some b => wts r (a ++ b)
theorem wts_cons {l : List Tn} {k : Nat} (a : List Wr) (h : k < l.length) : wts (l.drop k) a = match seg l[k].p (l[k].t - l[k].f) with
    | none => none
    | some b => wts (l.drop (k + 1)) (a ++ b) := by
  rw [List.drop_eq_getElem_cons h, wts]
def nxT (l : List Tn) (en : Int) (k : Nat) : Tn := if h : k < l.length then l[k] else ⟨-1, en, en⟩
def outS (l : List Tn) (en : Int) (k : Nat) (now : Int) (a : List Wr) : Option (List Wr) := if k ≤ l.length then setL en (l.drop k) now a else some a
theorem outS_step {l : List Tn} {k : Nat} (en now : Int) (a : List Wr) (h : k ≤ l.length) : outS l en k now a = match wts [⟨-1, now, (nxT l en k).f⟩, nxT l en k] a with
    | none => none
    | some b => outS l en (k + 1) (nxT l en k).t b := by
  unfold outS
  rw [if_pos h]
  by_cases c : k < l.length
  · have hn : nxT l en k = l[k] := by unfold nxT; rw [dif_pos c]
    rw [setL_cons en now a c, hn, wts]
    simp only
    cases seg (-1) (l[k].f - now) with
    | none => rfl
    | some b =>
      simp only [wts]
      cases seg l[k].p (l[k].t - l[k].f) with
      | none => rfl
      | some c2 => simp only [wts]; rw [if_pos (by omega)]
  · have hn : nxT l en k = ⟨-1, en, en⟩ := by unfold nxT; rw [dif_neg c]
    rw [List.drop_eq_nil_of_le (by omega), setL, hn, wts]
    simp only
    cases seg (-1) (en - now) with
    | none => rfl
    | some b =>
      simp only [wts, Int.sub_self, seg_zero]
      rw [if_neg (by omega)]
      simp
def A38 : Ann := fun r => match r with
  | 1 => { slots := [(1, 0)] }
  | 11 => { slots := [(3, 1)] }
  | 14 => { slots := [(5, 2)] }
  | 16 => { slots := [(2, 3)] }
  | 24 => { slots := [(18, 4), (19, 5)] }
  | _ => {}
abbrev X38 := okx [] [20]
set_option maxHeartbeats 16000000 in
set_option maxRecDepth 100000 in
theorem refSet38 (l : List Tn) (en : Int) (nl : l.length ≤ 9223372036854775807) : PRet C.P 38 [tnsA l, .int .i64 en] (setA l en) := by
  have h1 := refCheckParts_spec [l] (by simp) (by simpa using nl)
  unfold setA
  by_cases c1 : chkP [l] ≠ 0
  · rw [if_pos c1]
    generalize chkP [l] = b at h1 c1
    refine pret_of X38 mixed (A := A38) 6 Try.func38 rfl ?_
    (repeat' (first | exact rfl | ((conv => whnf); first | (refine ACalls.fz 0 ?_; (conv => whnf); refine ⟨pure_map (f := fun p : List Tn => [tnsA p]) [l] fun x => rfl, by (repeat' (first | exact trivial | exact eqsP_rows _ (fun x => rfl) | ((conv => whnf); first | exact trivial | refine ⟨rfl, ?_⟩ | refine ⟨?_, ?_⟩ | fail))), by (repeat' (first | exact trivial | exact eqsP_rows _ (fun x => rfl) | ((conv => whnf); first | exact trivial | refine ⟨rfl, ?_⟩ | refine ⟨?_, ?_⟩ | fail))), by (repeat' (first | exact trivial | exact eqsP_rows _ (fun x => rfl) | ((conv => whnf); first | exact trivial | refine ⟨rfl, ?_⟩ | refine ⟨?_, ?_⟩ | fail))), ?_⟩; refine PRet.calls h1 ?_) | refine optS hm0 ?_ | exact rfl | exact ⟨rfl, rfl⟩ | refine ⟨(by kernel_rfl : drawOk _ _ _ _ = true), ?_⟩ | refine ⟨(by kernel_rfl : planOk _ _ _ _ = true), ?_⟩ | refine ⟨rfl, ?_⟩ | refine ⟨by (first | omega | (simp (disch := omega) only [wrapI]; omega) | (simp (disch := omega) only [wrapI]; simp; omega) | (simp; omega)), ?_⟩ | (intro ep) | (refine ifB (fun hb => ?_) (fun hb => ?_) <;> (try simp only [decide_eq_true_eq, decide_eq_false_iff_not, beq_iff_eq, beq_eq_false_iff_ne, bne_iff_ne, bne_eq_false_iff_eq, ne_eq, not_false_eq_true, not_true_eq_false, Bool.not_eq_true, Bool.not_eq_true', Bool.not_eq_false', Int.not_lt, Int.not_le] at hb) <;> (try simp (disch := omega) only [wrapI] at hb) <;> (try (exfalso; omega))) | fail)))
  rw [if_neg c1]
  have c1 : chkP [l] = 0 := by omega
  rw [c1] at h1
  obtain ⟨hlen, hg⟩ := chk1 c1
  have hlr := lastT_rng hg
  obtain ⟨T, hT⟩ : ∃ T, T = lastT l := ⟨_, rfl⟩
  rw [← hT] at hlr
  have hlast : ∀ (h0 : 0 < l.length), ∃ p f, (l.map tnR)[0 + (((l.length : Int) - 1)).toNat]? = some [.int .i64 p, .int .i64 f, .int .i64 T] := fun h0 => by
    have e : ((l.length : Int) - 1).toNat = l.length - 1 := by omega
    have hm := mapR (f := tnR) (show l.length - 1 < l.length by omega)
    rw [Int.toNat_natCast] at hm
    refine ⟨(l[l.length - 1]).p, (l[l.length - 1]).f, ?_⟩
    rw [e, hm, hT]
    unfold lastT
    rw [dif_pos h0]
    rfl
  by_cases c2 : en < T ∨ 262144 < en
  · rw [← hT, if_pos c2]
    refine pret_of X38 mixed (A := A38) 6 Try.func38 rfl ?_
    by_cases c0 : 0 < l.length
    · obtain ⟨p, f, hm0⟩ := hlast c0
      have hw : IntKind.i64.wrap ((l.length : Int) - 1) = (l.length : Int) - 1 := wrapI (by omega) (by omega)
      rw [← hw] at hm0
      (repeat' (first | exact rfl | ((conv => whnf); first | (refine ACalls.fz 0 ?_; (conv => whnf); refine ⟨pure_map (f := fun p : List Tn => [tnsA p]) [l] fun x => rfl, by (repeat' (first | exact trivial | exact eqsP_rows _ (fun x => rfl) | ((conv => whnf); first | exact trivial | refine ⟨rfl, ?_⟩ | refine ⟨?_, ?_⟩ | fail))), by (repeat' (first | exact trivial | exact eqsP_rows _ (fun x => rfl) | ((conv => whnf); first | exact trivial | refine ⟨rfl, ?_⟩ | refine ⟨?_, ?_⟩ | fail))), by (repeat' (first | exact trivial | exact eqsP_rows _ (fun x => rfl) | ((conv => whnf); first | exact trivial | refine ⟨rfl, ?_⟩ | refine ⟨?_, ?_⟩ | fail))), ?_⟩; refine PRet.calls h1 ?_) | refine optS hm0 ?_ | exact rfl | exact ⟨rfl, rfl⟩ | refine ⟨(by kernel_rfl : drawOk _ _ _ _ = true), ?_⟩ | refine ⟨(by kernel_rfl : planOk _ _ _ _ = true), ?_⟩ | refine ⟨rfl, ?_⟩ | refine ⟨by (first | omega | (simp (disch := omega) only [wrapI]; omega) | (simp (disch := omega) only [wrapI]; simp; omega) | (simp; omega)), ?_⟩ | (intro ep) | (refine ifB (fun hb => ?_) (fun hb => ?_) <;> (try simp only [decide_eq_true_eq, decide_eq_false_iff_not, beq_iff_eq, beq_eq_false_iff_ne, bne_iff_ne, bne_eq_false_iff_eq, ne_eq, not_false_eq_true, not_true_eq_false, Bool.not_eq_true, Bool.not_eq_true', Bool.not_eq_false', Int.not_lt, Int.not_le] at hb) <;> (try simp (disch := omega) only [wrapI] at hb) <;> (try (exfalso; omega))) | fail)))
    · have hT0 : T = 0 := by rw [hT]; unfold lastT; rw [dif_neg c0]
      have hm0 : True := trivial
      (repeat' (first | exact rfl | ((conv => whnf); first | (refine ACalls.fz 0 ?_; (conv => whnf); refine ⟨pure_map (f := fun p : List Tn => [tnsA p]) [l] fun x => rfl, by (repeat' (first | exact trivial | exact eqsP_rows _ (fun x => rfl) | ((conv => whnf); first | exact trivial | refine ⟨rfl, ?_⟩ | refine ⟨?_, ?_⟩ | fail))), by (repeat' (first | exact trivial | exact eqsP_rows _ (fun x => rfl) | ((conv => whnf); first | exact trivial | refine ⟨rfl, ?_⟩ | refine ⟨?_, ?_⟩ | fail))), by (repeat' (first | exact trivial | exact eqsP_rows _ (fun x => rfl) | ((conv => whnf); first | exact trivial | refine ⟨rfl, ?_⟩ | refine ⟨?_, ?_⟩ | fail))), ?_⟩; refine PRet.calls h1 ?_) | refine optS hm0 ?_ | exact rfl | exact ⟨rfl, rfl⟩ | refine ⟨(by kernel_rfl : drawOk _ _ _ _ = true), ?_⟩ | refine ⟨(by kernel_rfl : planOk _ _ _ _ = true), ?_⟩ | refine ⟨rfl, ?_⟩ | refine ⟨by (first | omega | (simp (disch := omega) only [wrapI]; omega) | (simp (disch := omega) only [wrapI]; simp; omega) | (simp; omega)), ?_⟩ | (intro ep) | (refine ifB (fun hb => ?_) (fun hb => ?_) <;> (try simp only [decide_eq_true_eq, decide_eq_false_iff_not, beq_iff_eq, beq_eq_false_iff_ne, bne_iff_ne, bne_eq_false_iff_eq, ne_eq, not_false_eq_true, not_true_eq_false, Bool.not_eq_true, Bool.not_eq_true', Bool.not_eq_false', Int.not_lt, Int.not_le] at hb) <;> (try simp (disch := omega) only [wrapI] at hb) <;> (try (exfalso; omega))) | fail)))
  rw [← hT, if_neg c2]
  obtain ⟨R, hR⟩ : ∃ R, R = setL en l 0 [] := ⟨_, rfl⟩
  rw [← hR]
  refine pret_of X38 mixed (A := A38) 6 Try.func38 rfl ?_
  by_cases c0 : 0 < l.length
  · obtain ⟨p, f, hm0⟩ := hlast c0
    have hw : IntKind.i64.wrap ((l.length : Int) - 1) = (l.length : Int) - 1 := wrapI (by omega) (by omega)
    rw [← hw] at hm0
    (repeat' (first | exact rfl | ((conv => whnf); first | (refine ACalls.fz 0 ?_; (conv => whnf); refine ⟨pure_map (f := fun p : List Tn => [tnsA p]) [l] fun x => rfl, by (repeat' (first | exact trivial | exact eqsP_rows _ (fun x => rfl) | ((conv => whnf); first | exact trivial | refine ⟨rfl, ?_⟩ | refine ⟨?_, ?_⟩ | fail))), by (repeat' (first | exact trivial | exact eqsP_rows _ (fun x => rfl) | ((conv => whnf); first | exact trivial | refine ⟨rfl, ?_⟩ | refine ⟨?_, ?_⟩ | fail))), by (repeat' (first | exact trivial | exact eqsP_rows _ (fun x => rfl) | ((conv => whnf); first | exact trivial | refine ⟨rfl, ?_⟩ | refine ⟨?_, ?_⟩ | fail))), ?_⟩; refine PRet.calls h1 ?_) | refine optS hm0 ?_ | exact rfl | exact ⟨rfl, rfl⟩ | refine ⟨(by kernel_rfl : drawOk _ _ _ _ = true), ?_⟩ | refine ⟨(by kernel_rfl : planOk _ _ _ _ = true), ?_⟩ | refine ⟨rfl, ?_⟩ | refine ⟨by (first | omega | (simp (disch := omega) only [wrapI]; omega) | (simp (disch := omega) only [wrapI]; simp; omega) | (simp; omega)), ?_⟩ | (intro ep) | (refine ifB (fun hb => ?_) (fun hb => ?_) <;> (try simp only [decide_eq_true_eq, decide_eq_false_iff_not, beq_iff_eq, beq_eq_false_iff_ne, bne_iff_ne, bne_eq_false_iff_eq, ne_eq, not_false_eq_true, not_true_eq_false, Bool.not_eq_true, Bool.not_eq_true', Bool.not_eq_false', Int.not_lt, Int.not_le] at hb) <;> (try simp (disch := omega) only [wrapI] at hb) <;> (try (exfalso; omega))) | fail)))
    clear hm0
    all_goals (conv => whnf)
    refine wk_lift 7 5 5 rfl ?_
    intro e5
    refine loopY X38 mixed (A := A38) [0, 1, 7, 8, 9] [5] (S := { z : Nat × Nat × List Wr × Int // z.1 ≤ l.length + 1 ∧ z.2.2.1.length ≤ 9216 * z.1 ∧ (0 ≤ z.2.2.2 ∧ z.2.2.2 ≤ 262144) ∧ outS l en z.1 z.2.2.2 z.2.2.1 = R })
      (fr := fun s => frOf 0 118 [(0, tnsA l), (1, .int .i64 en), (7, .oslc (.s 5) s.1.2.1 5 0 s.1.2.2.1.length false), (8, .int .i64 s.1.2.2.2), (9, .int .i64 (s.1.1 : Int))])
      (h := fun s => ⟨[.hole, .hole, .hole, .hole, .hole, .vec s.1.2.1 (s.1.2.2.1.map wrR)], []⟩) (μ := fun s => l.length + 1 - s.1.1) ⟨(0, e5, [], 0), by simp, by simp, by simp, by unfold outS; simp [hR]⟩ ?_ ?_
      [7] [5] (S' := { z : Nat × List Wr // some z.2 = R }) (X := fun _ => 0) (frX := fun s => frOf 0 118 [(7, .oslc (.s 5) s.1.1 5 0 s.1.2.length false)]) (hX := fun s => ⟨[.hole, .hole, .hole, .hole, .hole, .vec s.1.1 (s.1.2.map wrR)], []⟩)
      [4, 5] [] (S2 := { _x : Unit // none = R }) (frR := fun s => frOf 0 118 [(4, .nils), (5, .int .i64 25)]) (hR := fun s => ⟨[.hole, .hole, .hole, .hole, .hole, .hole], []⟩) ?_ ?_ ?_
    · exact rfl
    · exact rfl
    · rintro ⟨⟨k, e, a, now⟩, hk, ha, hnow, hu⟩
      simp only at hk ha hnow hu
      show aexR _ _ _ (frOf 0 118 [(0, tnsA l), (1, .int .i64 en), (7, .oslc (.s 5) e 5 0 a.length false), (8, .int .i64 now), (9, .int .i64 (k : Int))]) ⟨[.hole, .hole, .hole, .hole, .hole, .vec e (a.map wrR)], []⟩ _
      (conv => whnf)
      refine ifB (fun g1 => ?_) (fun g1 => ?_)
      · simp only [decide_eq_true_eq] at g1
        have hk2 : k ≤ l.length := by omega
        rw [outS_step en now a hk2] at hu
        by_cases ck : k < l.length
        · have hn : nxT l en k = l[k] := by unfold nxT; rw [dif_pos ck]
          have hm := mapR (f := tnR) ck
          have hgk := good_t hg k ck
          rw [hn] at hu
          generalize hx0 : l[k] = x0 at hm hu hgk
          obtain ⟨xp, xf, xt⟩ := x0
          replace hm : (l.map tnR)[0 + ((k : Nat) : Int).toNat]? = some [.int .i64 xp, .int .i64 xf, .int .i64 xt] := hm
          obtain ⟨x, hx⟩ : ∃ x : Tn, x = ⟨xp, xf, xt⟩ := ⟨_, rfl⟩
          obtain ⟨ts, hts⟩ : ∃ ts : List Tn, ts = [⟨-1, now, x.f⟩, x] := ⟨_, rfl⟩
          have hrng : ∀ t ∈ ts, 0 ≤ t.f ∧ t.f ≤ 262144 ∧ 0 ≤ t.t ∧ t.t ≤ 262144 := fun t ht => by
            simp only at hgk
            rw [hts, hx] at ht; simp at ht; rcases ht with rfl | rfl <;> simp only <;> omega
          have hxt : 0 ≤ x.t ∧ x.t ≤ 262144 := by simp only at hgk; rw [hx]; simp only; omega
          have h2l : ts.length = 2 := by rw [hts]; rfl
          rw [← hx, ← hts] at hu
          obtain ⟨M, hM⟩ : ∃ M, M = wts ts a := ⟨_, rfl⟩
          rw [← hM] at hu
          (repeat' (first | exact rfl | ((conv => whnf); first | refine optS hm ?_ | exact rfl | exact ⟨rfl, rfl⟩ | refine ⟨(by kernel_rfl : drawOk _ _ _ _ = true), ?_⟩ | refine ⟨(by kernel_rfl : planOk _ _ _ _ = true), ?_⟩ | refine ⟨rfl, ?_⟩ | refine ⟨by (first | omega | (simp (disch := omega) only [wrapI]; omega) | (simp (disch := omega) only [wrapI]; simp; omega) | (simp; omega)), ?_⟩ | (intro ep) | (refine ifB (fun hb => ?_) (fun hb => ?_) <;> (try simp only [decide_eq_true_eq, decide_eq_false_iff_not, beq_iff_eq, beq_eq_false_iff_ne, bne_iff_ne, bne_eq_false_iff_eq, ne_eq, not_false_eq_true, not_true_eq_false, Bool.not_eq_true, Bool.not_eq_true', Bool.not_eq_false', Int.not_lt, Int.not_le] at hb) <;> (try simp (disch := omega) only [wrapI] at hb) <;> (try (exfalso; omega))) | fail)))
          all_goals (conv => whnf)
          rename_i eN
          obtain ⟨eS, heS⟩ : ∃ eS, eS = ep := ⟨_, rfl⟩
          subst heS
          refine loopY X38 mixed (A := A38) [0, 1, 7, 9, 10, 66, 67, 68] [1, 2, 5] (S := { z : Nat × Nat × List Wr // z.1 ≤ 2 ∧ z.2.2.length ≤ a.length + 4608 * z.1 ∧ wts (ts.drop z.1) z.2.2 = M })
            (fr := fun s => frOf 0 118 [(0, tnsA l), (1, .int .i64 en), (7, .oslc (.s 5) s.1.2.1 5 0 s.1.2.2.length false), (9, .int .i64 (k : Int)), (10, .optr (.s 1) eN 3 0 0), (66, .oslc (.s 2) eS 3 0 2 false), (67, .int .i64 2), (68, .int .i64 (s.1.1 : Int))])
            (h := fun s => ⟨[.hole, .vec eN [tnR x], .vec eS (ts.map tnR), .hole, .hole, .vec s.1.2.1 (s.1.2.2.map wrR)], []⟩) (μ := fun s => 2 - s.1.1) ⟨(0, e, a), by omega, by simp, by simp [hM]⟩ ?_ ?_
            [0, 1, 7, 9, 10] [1, 5] (S' := { z : Nat × List Wr // z.2.length ≤ a.length + 9216 ∧ some z.2 = M }) (X := fun _ => 2) (frX := fun s => frOf 0 118 [(0, tnsA l), (1, .int .i64 en), (7, .oslc (.s 5) s.1.1 5 0 s.1.2.length false), (9, .int .i64 (k : Int)), (10, .optr (.s 1) eN 3 0 0)])
            (hX := fun s => ⟨[.hole, .vec eN [tnR x], .hole, .hole, .hole, .vec s.1.1 (s.1.2.map wrR)], []⟩)
            [4, 5] [] (S2 := { _x : Unit // none = M }) (frR := fun s => frOf 0 118 [(4, .nils), (5, .int .i64 25)]) (hR := fun s => ⟨[.hole, .hole, .hole, .hole, .hole, .hole], []⟩) ?_ ?_ ?_
          · exact rfl
          · show _ = (⟨[.hole, .vec eN [tnR x], .vec eS (ts.map tnR), .hole, .hole, .vec e (a.map wrR)], []⟩ : Heap)
            rw [hts, hx]; exact rfl
          · rintro ⟨⟨j, e', b⟩, hj, hbl, hw⟩
            simp only at hj hbl hw
            show aexR _ _ _ (frOf 0 118 [(0, tnsA l), (1, .int .i64 en), (7, .oslc (.s 5) e' 5 0 b.length false), (9, .int .i64 (k : Int)), (10, .optr (.s 1) eN 3 0 0), (66, .oslc (.s 2) eS 3 0 2 false), (67, .int .i64 2), (68, .int .i64 (j : Int))]) ⟨[.hole, .vec eN [tnR x], .vec eS (ts.map tnR), .hole, .hole, .vec e' (b.map wrR)], []⟩ _
            (conv => whnf)
            refine ifB (fun g2 => ?_) (fun g2 => ?_)
            · simp only [decide_eq_true_eq] at g2
              have h2 : j < ts.length := by omega
              have hm := mapR (f := tnR) h2
              have ht := hrng ts[j] (List.getElem_mem h2)
              rw [wts_cons b h2] at hw
              generalize ts[j] = tt0 at hm hw ht
              obtain ⟨tp, tf, tt⟩ := tt0
              simp only at hw ht
              replace hm : (ts.map tnR)[0 + ((j : Nat) : Int).toNat]? = some [.int .i64 tp, .int .i64 tf, .int .i64 tt] := hm
              by_cases c3 : tf = tt
              · rw [c3, Int.sub_self, seg_zero] at hw
                simp only [List.append_nil] at hw
                subst c3
                (repeat' (first | exact rfl | ((conv => whnf); first | refine optS hm ?_ | exact rfl | exact ⟨rfl, rfl⟩ | refine ⟨(by kernel_rfl : drawOk _ _ _ _ = true), ?_⟩ | refine ⟨(by kernel_rfl : planOk _ _ _ _ = true), ?_⟩ | refine ⟨rfl, ?_⟩ | refine ⟨by (first | omega | (simp (disch := omega) only [wrapI]; omega) | (simp (disch := omega) only [wrapI]; simp; omega) | (simp; omega)), ?_⟩ | (intro ep) | (refine ifB (fun hb => ?_) (fun hb => ?_) <;> (try simp only [decide_eq_true_eq, decide_eq_false_iff_not, beq_iff_eq, beq_eq_false_iff_ne, bne_iff_ne, bne_eq_false_iff_eq, ne_eq, not_false_eq_true, not_true_eq_false, Bool.not_eq_true, Bool.not_eq_true', Bool.not_eq_false', Int.not_lt, Int.not_le] at hb) <;> (try simp (disch := omega) only [wrapI] at hb) <;> (try (exfalso; omega))) | fail)))
                all_goals (conv => whnf)
                all_goals exact back_of ⟨(j + 1, e', b), by simp only; omega, by simp only; omega, hw⟩ ⟨by (first | exact rfl | (simp (disch := omega) only [wrapI]; exact rfl)), rfl, by simp only; omega⟩
              have hwr : IntKind.i64.wrap (tt - tf) = tt - tf := wrapI (by omega) (by omega)
              cases hsg : seg tp (tt - tf) with
              | none =>
                rw [hsg] at hw
                obtain ⟨er, her, hS⟩ := refSg_bad tp hsg
                rw [← hwr] at hS
                (repeat' (first | exact rfl | ((conv => whnf); first | refine optS hm ?_ | refine ⟨_, hS, ?_⟩ | exact rfl | exact ⟨rfl, rfl⟩ | refine ⟨(by kernel_rfl : drawOk _ _ _ _ = true), ?_⟩ | refine ⟨(by kernel_rfl : planOk _ _ _ _ = true), ?_⟩ | refine ⟨rfl, ?_⟩ | refine ⟨by (first | omega | (simp (disch := omega) only [wrapI]; omega) | (simp (disch := omega) only [wrapI]; simp; omega) | (simp; omega)), ?_⟩ | (intro ep) | (refine ifB (fun hb => ?_) (fun hb => ?_) <;> (try simp only [decide_eq_true_eq, decide_eq_false_iff_not, beq_iff_eq, beq_eq_false_iff_ne, bne_iff_ne, bne_eq_false_iff_eq, ne_eq, not_false_eq_true, not_true_eq_false, Bool.not_eq_true, Bool.not_eq_true', Bool.not_eq_false', Int.not_lt, Int.not_le] at hb) <;> (try simp (disch := omega) only [wrapI] at hb) <;> (try (exfalso; omega))) | fail)))
                all_goals (conv => whnf)
                all_goals exact back_of ⟨(), hw⟩ ⟨rfl, rfl⟩
              | some w2 =>
                rw [hsg] at hw
                simp only at hw
                obtain ⟨L, rfl, hK, hLl, hS⟩ := refSg_ok hsg
                rw [← hwr] at hS
                (repeat' (first | exact rfl | ((conv => whnf); first | refine optS hm ?_ | refine ⟨_, hS, ?_⟩ | exact rfl | exact ⟨rfl, rfl⟩ | refine ⟨(by kernel_rfl : drawOk _ _ _ _ = true), ?_⟩ | refine ⟨(by kernel_rfl : planOk _ _ _ _ = true), ?_⟩ | refine ⟨rfl, ?_⟩ | refine ⟨by (first | omega | (simp (disch := omega) only [wrapI]; omega) | (simp (disch := omega) only [wrapI]; simp; omega) | (simp; omega)), ?_⟩ | (intro ep) | (refine ifB (fun hb => ?_) (fun hb => ?_) <;> (try simp only [decide_eq_true_eq, decide_eq_false_iff_not, beq_iff_eq, beq_eq_false_iff_ne, bne_iff_ne, bne_eq_false_iff_eq, ne_eq, not_false_eq_true, not_true_eq_false, Bool.not_eq_true, Bool.not_eq_true', Bool.not_eq_false', Int.not_lt, Int.not_le] at hb) <;> (try simp (disch := omega) only [wrapI] at hb) <;> (try (exfalso; omega))) | fail)))
                all_goals (conv => whnf)
                obtain ⟨eT, heT⟩ : ∃ eT, eT = ep := ⟨_, rfl⟩
                subst heT
                obtain ⟨B, hB⟩ : ∃ B, B = b ++ wrL tp L := ⟨_, rfl⟩
                rw [← hB] at hw
                refine loopY X38 mixed (A := A38) [0, 1, 7, 9, 10, 12, 13, 15, 66, 67, 68] [1, 2, 3, 5] (S := { z : Nat × Nat × List Wr // z.1 ≤ L.length ∧ z.2.2 ++ wrL tp (L.drop z.1) = B ∧ z.2.2.length ≤ b.length + z.1 })
                  (fr := fun s => frOf 0 118 [(0, tnsA l), (1, .int .i64 en), (7, .oslc (.s 5) s.1.2.1 5 0 s.1.2.2.length false), (9, .int .i64 (k : Int)), (10, .optr (.s 1) eN 3 0 0), (12, .optr (.s 3) eT 3 0 0), (13, .lslc 3 (outR L) 0 L.length false), (15, .int .i64 (s.1.1 : Int)), (66, .oslc (.s 2) eS 3 0 2 false), (67, .int .i64 2), (68, .int .i64 (j : Int))])
                  (h := fun s => ⟨[.hole, .vec eN [tnR x], .vec eS (ts.map tnR), .vec eT [[.int .i64 tp, .int .i64 tf, .int .i64 tt]], .hole, .vec s.1.2.1 (s.1.2.2.map wrR)], []⟩) (μ := fun s => L.length - s.1.1) ⟨(0, e', b), Nat.zero_le _, by simp [hB], by simp⟩ ?_ ?_
                  [0, 1, 7, 9, 10, 66, 67, 68] [1, 2, 5] (S' := Nat) (X := fun _ => 4) (frX := fun s => frOf 0 118 [(0, tnsA l), (1, .int .i64 en), (7, .oslc (.s 5) s 5 0 B.length false), (9, .int .i64 (k : Int)), (10, .optr (.s 1) eN 3 0 0), (66, .oslc (.s 2) eS 3 0 2 false), (67, .int .i64 2), (68, .int .i64 (j : Int))])
                  (hX := fun s => ⟨[.hole, .vec eN [tnR x], .vec eS (ts.map tnR), .hole, .hole, .vec s (B.map wrR)], []⟩)
                  [] [] (S2 := Empty) (frR := fun s => frOf 0 118 []) (hR := fun s => ⟨[], []⟩) ?_ ?_ ?_
                · exact rfl
                · exact rfl
                · rintro ⟨⟨i, ei, c⟩, hi, hv, hcl⟩
                  simp only at hi hv hcl
                  show aexR _ _ _ (frOf 0 118 [(0, tnsA l), (1, .int .i64 en), (7, .oslc (.s 5) ei 5 0 c.length false), (9, .int .i64 (k : Int)), (10, .optr (.s 1) eN 3 0 0), (12, .optr (.s 3) eT 3 0 0), (13, .lslc 3 (outR L) 0 L.length false), (15, .int .i64 (i : Int)), (66, .oslc (.s 2) eS 3 0 2 false), (67, .int .i64 2), (68, .int .i64 (j : Int))])
                    ⟨[.hole, .vec eN [tnR x], .vec eS (ts.map tnR), .vec eT [[.int .i64 tp, .int .i64 tf, .int .i64 tt]], .hole, .vec ei (c.map wrR)], []⟩ _
                  (conv => whnf)
                  refine ifB (fun g3 => ?_) (fun g3 => ?_)
                  · simp only [decide_eq_true_eq] at g3
                    have h3 : i < L.length := by omega
                    have hm2 := outR_get h3
                    obtain ⟨v, d, t, _, g, _⟩ := tkL_get (hK L[i] (List.getElem_mem h3))
                    rw [g] at hm2
                    rw [wrL_cons tp h3, sgW_of tp _ g] at hv
                    have e1 : ∀ y : Bool, (c ++ [(⟨tp, v, d, t, y⟩ : Wr)]).length = c.length + 1 := fun y => by simp
                    have t3 : List.take c.length (List.drop 0 (c.map wrR)) = c.map wrR := by rw [List.drop_zero, List.take_of_length_le (by simp)]
                    have e2' : ∀ y : Bool, (c ++ [(⟨tp, v, d, t, y⟩ : Wr)]).map wrR = List.take c.length (List.drop 0 (c.map wrR)) ++ [[.int .i64 tp, .int .i64 v, .bool d, .bool t, .bool y]] := fun y => by rw [t3]; simp [wrR]
                    by_cases c1 : 0 ≤ tp
                    · rw [show (decide (0 ≤ tp) && decide (i + 1 < L.length)) = decide ((i : Int) + 1 < (L.length : Int)) by simp only [c1, decide_true, Bool.true_and, decide_eq_decide]; omega] at hv
                      (repeat' (first | exact rfl | ((conv => whnf); first | refine optS hm2 ?_ | exact rfl | exact ⟨rfl, rfl⟩ | refine ⟨(by kernel_rfl : drawOk _ _ _ _ = true), ?_⟩ | refine ⟨(by kernel_rfl : planOk _ _ _ _ = true), ?_⟩ | refine ⟨rfl, ?_⟩ | refine ⟨by (first | omega | (simp (disch := omega) only [wrapI]; omega) | (simp (disch := omega) only [wrapI]; simp; omega) | (simp; omega)), ?_⟩ | (intro ep) | (refine ifB (fun hb => ?_) (fun hb => ?_) <;> (try simp only [decide_eq_true_eq, decide_eq_false_iff_not, beq_iff_eq, beq_eq_false_iff_ne, bne_iff_ne, bne_eq_false_iff_eq, ne_eq, not_false_eq_true, not_true_eq_false, Bool.not_eq_true, Bool.not_eq_true', Bool.not_eq_false', Int.not_lt, Int.not_le] at hb) <;> (try simp (disch := omega) only [wrapI] at hb) <;> (try (exfalso; omega))) | fail)))
                      all_goals (conv => whnf)
                      all_goals refine back_of ⟨(i + 1, ep, c ++ [⟨tp, v, d, t, decide ((i : Int) + 1 < (L.length : Int))⟩]), by simp only; omega, by simp only; rw [← hv]; simp, by simp only [e1]; omega⟩ ⟨?_, ?_, by simp only; omega⟩
                      all_goals first
                        | (show maskF 0 _ _ = frOf 0 118 [(0, tnsA l), (1, .int .i64 en), (7, .oslc (.s 5) ep 5 0 (c ++ [(⟨tp, v, d, t, decide ((i : Int) + 1 < (L.length : Int))⟩ : Wr)]).length false), (9, .int .i64 (k : Int)), (10, .optr (.s 1) eN 3 0 0), (12, .optr (.s 3) eT 3 0 0), (13, .lslc 3 (outR L) 0 L.length false), (15, .int .i64 ((i + 1 : Nat) : Int)), (66, .oslc (.s 2) eS 3 0 2 false), (67, .int .i64 2), (68, .int .i64 (j : Int))]; rw [e1]; (first | exact rfl | (simp (disch := omega) only [wrapI]; exact rfl)); done)
                        | skip
                      all_goals show maskH 0 _ _ = ⟨[.hole, .vec eN [tnR x], .vec eS (ts.map tnR), .vec eT [[.int .i64 tp, .int .i64 tf, .int .i64 tt]], .hole, .vec ep ((c ++ [(⟨tp, v, d, t, decide ((i : Int) + 1 < (L.length : Int))⟩ : Wr)]).map wrR)], []⟩
                      all_goals rw [e2']
                      all_goals (first | exact rfl | (simp (disch := omega) only [wrapI]; exact rfl))
                    · rw [show (decide (0 ≤ tp) && decide (i + 1 < L.length)) = false by simp [c1]] at hv
                      (repeat' (first | exact rfl | ((conv => whnf); first | refine optS hm2 ?_ | exact rfl | exact ⟨rfl, rfl⟩ | refine ⟨(by kernel_rfl : drawOk _ _ _ _ = true), ?_⟩ | refine ⟨(by kernel_rfl : planOk _ _ _ _ = true), ?_⟩ | refine ⟨rfl, ?_⟩ | refine ⟨by (first | omega | (simp (disch := omega) only [wrapI]; omega) | (simp (disch := omega) only [wrapI]; simp; omega) | (simp; omega)), ?_⟩ | (intro ep) | (refine ifB (fun hb => ?_) (fun hb => ?_) <;> (try simp only [decide_eq_true_eq, decide_eq_false_iff_not, beq_iff_eq, beq_eq_false_iff_ne, bne_iff_ne, bne_eq_false_iff_eq, ne_eq, not_false_eq_true, not_true_eq_false, Bool.not_eq_true, Bool.not_eq_true', Bool.not_eq_false', Int.not_lt, Int.not_le] at hb) <;> (try simp (disch := omega) only [wrapI] at hb) <;> (try (exfalso; omega))) | fail)))
                      all_goals (conv => whnf)
                      all_goals refine back_of ⟨(i + 1, ep, c ++ [⟨tp, v, d, t, false⟩]), by simp only; omega, by simp only; rw [← hv]; simp, by simp only [e1]; omega⟩ ⟨?_, ?_, by simp only; omega⟩
                      all_goals first
                        | (show maskF 0 _ _ = frOf 0 118 [(0, tnsA l), (1, .int .i64 en), (7, .oslc (.s 5) ep 5 0 (c ++ [(⟨tp, v, d, t, false⟩ : Wr)]).length false), (9, .int .i64 (k : Int)), (10, .optr (.s 1) eN 3 0 0), (12, .optr (.s 3) eT 3 0 0), (13, .lslc 3 (outR L) 0 L.length false), (15, .int .i64 ((i + 1 : Nat) : Int)), (66, .oslc (.s 2) eS 3 0 2 false), (67, .int .i64 2), (68, .int .i64 (j : Int))]; rw [e1]; (first | exact rfl | (simp (disch := omega) only [wrapI]; exact rfl)); done)
                        | skip
                      all_goals show maskH 0 _ _ = ⟨[.hole, .vec eN [tnR x], .vec eS (ts.map tnR), .vec eT [[.int .i64 tp, .int .i64 tf, .int .i64 tt]], .hole, .vec ep ((c ++ [(⟨tp, v, d, t, false⟩ : Wr)]).map wrR)], []⟩
                      all_goals rw [e2']
                      all_goals (first | exact rfl | (simp (disch := omega) only [wrapI]; exact rfl))
                  · simp only [decide_eq_false_iff_not] at g3
                    rw [List.drop_eq_nil_of_le (by omega), wrL, List.append_nil] at hv
                    subst hv
                    (repeat' (first | exact rfl | ((conv => whnf); first | exact rfl | exact ⟨rfl, rfl⟩ | refine ⟨(by kernel_rfl : drawOk _ _ _ _ = true), ?_⟩ | refine ⟨(by kernel_rfl : planOk _ _ _ _ = true), ?_⟩ | refine ⟨rfl, ?_⟩ | refine ⟨by (first | omega | (simp (disch := omega) only [wrapI]; omega) | (simp (disch := omega) only [wrapI]; simp; omega) | (simp; omega)), ?_⟩ | (intro ep) | fail)))
                    all_goals (conv => whnf)
                    all_goals exact back_of ei ⟨rfl, rfl, rfl⟩
                · rintro ⟨⟩
                · intro ei
                  have hBl : B.length ≤ b.length + 4608 := by rw [hB, List.length_append, wrL_len]; omega
                  (repeat' (first | exact rfl | ((conv => whnf); first | exact rfl | exact ⟨rfl, rfl⟩ | refine ⟨(by kernel_rfl : drawOk _ _ _ _ = true), ?_⟩ | refine ⟨(by kernel_rfl : planOk _ _ _ _ = true), ?_⟩ | refine ⟨rfl, ?_⟩ | refine ⟨by (first | omega | (simp (disch := omega) only [wrapI]; omega) | (simp (disch := omega) only [wrapI]; simp; omega) | (simp; omega)), ?_⟩ | (intro ep) | fail)))
                  all_goals (conv => whnf)
                  all_goals exact back_of ⟨(j + 1, ei, B), by simp only; omega, by simp only; omega, hw⟩ ⟨by (first | exact rfl | (simp (disch := omega) only [wrapI]; exact rfl)), rfl, by simp only; omega⟩
            · simp only [decide_eq_false_iff_not] at g2
              rw [List.drop_eq_nil_of_le (by omega), wts] at hw
              (repeat' (first | exact rfl | ((conv => whnf); first | exact rfl | exact ⟨rfl, rfl⟩ | refine ⟨(by kernel_rfl : drawOk _ _ _ _ = true), ?_⟩ | refine ⟨(by kernel_rfl : planOk _ _ _ _ = true), ?_⟩ | refine ⟨rfl, ?_⟩ | refine ⟨by (first | omega | (simp (disch := omega) only [wrapI]; omega) | (simp (disch := omega) only [wrapI]; simp; omega) | (simp; omega)), ?_⟩ | (intro ep) | fail)))
              all_goals (conv => whnf)
              all_goals exact back_of ⟨(e', b), by simp only; omega, hw⟩ ⟨rfl, rfl, rfl⟩
          · rintro ⟨⟨⟩, hw⟩
            rw [← hw] at hu
            exact back_of ⟨(), hu⟩ ⟨rfl, rfl⟩
          · rintro ⟨⟨e', b⟩, hb, hw⟩
            simp only at hb hw
            rw [← hw] at hu
            simp only at hu
            (repeat' (first | exact rfl | ((conv => whnf); first | refine optS hm ?_ | exact rfl | exact ⟨rfl, rfl⟩ | refine ⟨(by kernel_rfl : drawOk _ _ _ _ = true), ?_⟩ | refine ⟨(by kernel_rfl : planOk _ _ _ _ = true), ?_⟩ | refine ⟨rfl, ?_⟩ | refine ⟨by (first | omega | (simp (disch := omega) only [wrapI]; omega) | (simp (disch := omega) only [wrapI]; simp; omega) | (simp; omega)), ?_⟩ | (intro ep) | (refine ifB (fun hb => ?_) (fun hb => ?_) <;> (try simp only [decide_eq_true_eq, decide_eq_false_iff_not, beq_iff_eq, beq_eq_false_iff_ne, bne_iff_ne, bne_eq_false_iff_eq, ne_eq, not_false_eq_true, not_true_eq_false, Bool.not_eq_true, Bool.not_eq_true', Bool.not_eq_false', Int.not_lt, Int.not_le] at hb) <;> (try simp (disch := omega) only [wrapI] at hb) <;> (try (exfalso; omega))) | fail)))
            all_goals (conv => whnf)
            all_goals exact back_of ⟨(k + 1, e', b, x.t), by simp only; omega, by simp only; omega, by simp only; omega, hu⟩ ⟨by (first | exact rfl | (simp (disch := omega) only [wrapI]; exact rfl)), rfl, by simp only; omega⟩
        · have hn : nxT l en k = ⟨-1, en, en⟩ := by unfold nxT; rw [dif_neg ck]
          rw [hn] at hu
          obtain ⟨x, hx⟩ : ∃ x : Tn, x = ⟨-1, en, en⟩ := ⟨_, rfl⟩
          obtain ⟨ts, hts⟩ : ∃ ts : List Tn, ts = [⟨-1, now, x.f⟩, x] := ⟨_, rfl⟩
          have hrng : ∀ t ∈ ts, 0 ≤ t.f ∧ t.f ≤ 262144 ∧ 0 ≤ t.t ∧ t.t ≤ 262144 := fun t ht => by
            rw [hts, hx] at ht; simp at ht; rcases ht with rfl | rfl <;> simp only <;> omega
          have hxt : 0 ≤ x.t ∧ x.t ≤ 262144 := by rw [hx]; simp only; omega
          have h2l : ts.length = 2 := by rw [hts]; rfl
          rw [← hx, ← hts] at hu
          obtain ⟨M, hM⟩ : ∃ M, M = wts ts a := ⟨_, rfl⟩
          rw [← hM] at hu
          have hm : True := trivial
          (repeat' (first | exact rfl | ((conv => whnf); first | exact rfl | exact ⟨rfl, rfl⟩ | refine ⟨(by kernel_rfl : drawOk _ _ _ _ = true), ?_⟩ | refine ⟨(by kernel_rfl : planOk _ _ _ _ = true), ?_⟩ | refine ⟨rfl, ?_⟩ | refine ⟨by (first | omega | (simp (disch := omega) only [wrapI]; omega) | (simp (disch := omega) only [wrapI]; simp; omega) | (simp; omega)), ?_⟩ | (intro ep) | (refine ifB (fun hb => ?_) (fun hb => ?_) <;> (try simp only [decide_eq_true_eq, decide_eq_false_iff_not, beq_iff_eq, beq_eq_false_iff_ne, bne_iff_ne, bne_eq_false_iff_eq, ne_eq, not_false_eq_true, not_true_eq_false, Bool.not_eq_true, Bool.not_eq_true', Bool.not_eq_false', Int.not_lt, Int.not_le] at hb) <;> (try simp (disch := omega) only [wrapI] at hb) <;> (try (exfalso; omega))) | fail)))
          all_goals (conv => whnf)
          rename_i eN
          obtain ⟨eS, heS⟩ : ∃ eS, eS = ep := ⟨_, rfl⟩
          subst heS
          refine loopY X38 mixed (A := A38) [0, 1, 7, 9, 10, 66, 67, 68] [1, 2, 5] (S := { z : Nat × Nat × List Wr // z.1 ≤ 2 ∧ z.2.2.length ≤ a.length + 4608 * z.1 ∧ wts (ts.drop z.1) z.2.2 = M })
            (fr := fun s => frOf 0 118 [(0, tnsA l), (1, .int .i64 en), (7, .oslc (.s 5) s.1.2.1 5 0 s.1.2.2.length false), (9, .int .i64 (k : Int)), (10, .optr (.s 1) eN 3 0 0), (66, .oslc (.s 2) eS 3 0 2 false), (67, .int .i64 2), (68, .int .i64 (s.1.1 : Int))])
            (h := fun s => ⟨[.hole, .vec eN [tnR x], .vec eS (ts.map tnR), .hole, .hole, .vec s.1.2.1 (s.1.2.2.map wrR)], []⟩) (μ := fun s => 2 - s.1.1) ⟨(0, e, a), by omega, by simp, by simp [hM]⟩ ?_ ?_
            [0, 1, 7, 9, 10] [1, 5] (S' := { z : Nat × List Wr // z.2.length ≤ a.length + 9216 ∧ some z.2 = M }) (X := fun _ => 2) (frX := fun s => frOf 0 118 [(0, tnsA l), (1, .int .i64 en), (7, .oslc (.s 5) s.1.1 5 0 s.1.2.length false), (9, .int .i64 (k : Int)), (10, .optr (.s 1) eN 3 0 0)])
            (hX := fun s => ⟨[.hole, .vec eN [tnR x], .hole, .hole, .hole, .vec s.1.1 (s.1.2.map wrR)], []⟩)
            [4, 5] [] (S2 := { _x : Unit // none = M }) (frR := fun s => frOf 0 118 [(4, .nils), (5, .int .i64 25)]) (hR := fun s => ⟨[.hole, .hole, .hole, .hole, .hole, .hole], []⟩) ?_ ?_ ?_
          · exact rfl
          · show _ = (⟨[.hole, .vec eN [tnR x], .vec eS (ts.map tnR), .hole, .hole, .vec e (a.map wrR)], []⟩ : Heap)
            rw [hts, hx]; exact rfl
          · rintro ⟨⟨j, e', b⟩, hj, hbl, hw⟩
            simp only at hj hbl hw
            show aexR _ _ _ (frOf 0 118 [(0, tnsA l), (1, .int .i64 en), (7, .oslc (.s 5) e' 5 0 b.length false), (9, .int .i64 (k : Int)), (10, .optr (.s 1) eN 3 0 0), (66, .oslc (.s 2) eS 3 0 2 false), (67, .int .i64 2), (68, .int .i64 (j : Int))]) ⟨[.hole, .vec eN [tnR x], .vec eS (ts.map tnR), .hole, .hole, .vec e' (b.map wrR)], []⟩ _
            (conv => whnf)
            refine ifB (fun g2 => ?_) (fun g2 => ?_)
            · simp only [decide_eq_true_eq] at g2
              have h2 : j < ts.length := by omega
              have hm := mapR (f := tnR) h2
              have ht := hrng ts[j] (List.getElem_mem h2)
              rw [wts_cons b h2] at hw
              generalize ts[j] = tt0 at hm hw ht
              obtain ⟨tp, tf, tt⟩ := tt0
              simp only at hw ht
              replace hm : (ts.map tnR)[0 + ((j : Nat) : Int).toNat]? = some [.int .i64 tp, .int .i64 tf, .int .i64 tt] := hm
              by_cases c3 : tf = tt
              · rw [c3, Int.sub_self, seg_zero] at hw
                simp only [List.append_nil] at hw
                subst c3
                (repeat' (first | exact rfl | ((conv => whnf); first | refine optS hm ?_ | exact rfl | exact ⟨rfl, rfl⟩ | refine ⟨(by kernel_rfl : drawOk _ _ _ _ = true), ?_⟩ | refine ⟨(by kernel_rfl : planOk _ _ _ _ = true), ?_⟩ | refine ⟨rfl, ?_⟩ | refine ⟨by (first | omega | (simp (disch := omega) only [wrapI]; omega) | (simp (disch := omega) only [wrapI]; simp; omega) | (simp; omega)), ?_⟩ | (intro ep) | (refine ifB (fun hb => ?_) (fun hb => ?_) <;> (try simp only [decide_eq_true_eq, decide_eq_false_iff_not, beq_iff_eq, beq_eq_false_iff_ne, bne_iff_ne, bne_eq_false_iff_eq, ne_eq, not_false_eq_true, not_true_eq_false, Bool.not_eq_true, Bool.not_eq_true', Bool.not_eq_false', Int.not_lt, Int.not_le] at hb) <;> (try simp (disch := omega) only [wrapI] at hb) <;> (try (exfalso; omega))) | fail)))
                all_goals (conv => whnf)
                all_goals exact back_of ⟨(j + 1, e', b), by simp only; omega, by simp only; omega, hw⟩ ⟨by (first | exact rfl | (simp (disch := omega) only [wrapI]; exact rfl)), rfl, by simp only; omega⟩
              have hwr : IntKind.i64.wrap (tt - tf) = tt - tf := wrapI (by omega) (by omega)
              cases hsg : seg tp (tt - tf) with
              | none =>
                rw [hsg] at hw
                obtain ⟨er, her, hS⟩ := refSg_bad tp hsg
                rw [← hwr] at hS
                (repeat' (first | exact rfl | ((conv => whnf); first | refine optS hm ?_ | refine ⟨_, hS, ?_⟩ | exact rfl | exact ⟨rfl, rfl⟩ | refine ⟨(by kernel_rfl : drawOk _ _ _ _ = true), ?_⟩ | refine ⟨(by kernel_rfl : planOk _ _ _ _ = true), ?_⟩ | refine ⟨rfl, ?_⟩ | refine ⟨by (first | omega | (simp (disch := omega) only [wrapI]; omega) | (simp (disch := omega) only [wrapI]; simp; omega) | (simp; omega)), ?_⟩ | (intro ep) | (refine ifB (fun hb => ?_) (fun hb => ?_) <;> (try simp only [decide_eq_true_eq, decide_eq_false_iff_not, beq_iff_eq, beq_eq_false_iff_ne, bne_iff_ne, bne_eq_false_iff_eq, ne_eq, not_false_eq_true, not_true_eq_false, Bool.not_eq_true, Bool.not_eq_true', Bool.not_eq_false', Int.not_lt, Int.not_le] at hb) <;> (try simp (disch := omega) only [wrapI] at hb) <;> (try (exfalso; omega))) | fail)))
                all_goals (conv => whnf)
                all_goals exact back_of ⟨(), hw⟩ ⟨rfl, rfl⟩
              | some w2 =>
                rw [hsg] at hw
                simp only at hw
                obtain ⟨L, rfl, hK, hLl, hS⟩ := refSg_ok hsg
                rw [← hwr] at hS
                (repeat' (first | exact rfl | ((conv => whnf); first | refine optS hm ?_ | refine ⟨_, hS, ?_⟩ | exact rfl | exact ⟨rfl, rfl⟩ | refine ⟨(by kernel_rfl : drawOk _ _ _ _ = true), ?_⟩ | refine ⟨(by kernel_rfl : planOk _ _ _ _ = true), ?_⟩ | refine ⟨rfl, ?_⟩ | refine ⟨by (first | omega | (simp (disch := omega) only [wrapI]; omega) | (simp (disch := omega) only [wrapI]; simp; omega) | (simp; omega)), ?_⟩ | (intro ep) | (refine ifB (fun hb => ?_) (fun hb => ?_) <;> (try simp only [decide_eq_true_eq, decide_eq_false_iff_not, beq_iff_eq, beq_eq_false_iff_ne, bne_iff_ne, bne_eq_false_iff_eq, ne_eq, not_false_eq_true, not_true_eq_false, Bool.not_eq_true, Bool.not_eq_true', Bool.not_eq_false', Int.not_lt, Int.not_le] at hb) <;> (try simp (disch := omega) only [wrapI] at hb) <;> (try (exfalso; omega))) | fail)))
                all_goals (conv => whnf)
                obtain ⟨eT, heT⟩ : ∃ eT, eT = ep := ⟨_, rfl⟩
                subst heT
                obtain ⟨B, hB⟩ : ∃ B, B = b ++ wrL tp L := ⟨_, rfl⟩
                rw [← hB] at hw
                refine loopY X38 mixed (A := A38) [0, 1, 7, 9, 10, 12, 13, 15, 66, 67, 68] [1, 2, 3, 5] (S := { z : Nat × Nat × List Wr // z.1 ≤ L.length ∧ z.2.2 ++ wrL tp (L.drop z.1) = B ∧ z.2.2.length ≤ b.length + z.1 })
                  (fr := fun s => frOf 0 118 [(0, tnsA l), (1, .int .i64 en), (7, .oslc (.s 5) s.1.2.1 5 0 s.1.2.2.length false), (9, .int .i64 (k : Int)), (10, .optr (.s 1) eN 3 0 0), (12, .optr (.s 3) eT 3 0 0), (13, .lslc 3 (outR L) 0 L.length false), (15, .int .i64 (s.1.1 : Int)), (66, .oslc (.s 2) eS 3 0 2 false), (67, .int .i64 2), (68, .int .i64 (j : Int))])
                  (h := fun s => ⟨[.hole, .vec eN [tnR x], .vec eS (ts.map tnR), .vec eT [[.int .i64 tp, .int .i64 tf, .int .i64 tt]], .hole, .vec s.1.2.1 (s.1.2.2.map wrR)], []⟩) (μ := fun s => L.length - s.1.1) ⟨(0, e', b), Nat.zero_le _, by simp [hB], by simp⟩ ?_ ?_
                  [0, 1, 7, 9, 10, 66, 67, 68] [1, 2, 5] (S' := Nat) (X := fun _ => 4) (frX := fun s => frOf 0 118 [(0, tnsA l), (1, .int .i64 en), (7, .oslc (.s 5) s 5 0 B.length false), (9, .int .i64 (k : Int)), (10, .optr (.s 1) eN 3 0 0), (66, .oslc (.s 2) eS 3 0 2 false), (67, .int .i64 2), (68, .int .i64 (j : Int))])
                  (hX := fun s => ⟨[.hole, .vec eN [tnR x], .vec eS (ts.map tnR), .hole, .hole, .vec s (B.map wrR)], []⟩)
                  [] [] (S2 := Empty) (frR := fun s => frOf 0 118 []) (hR := fun s => ⟨[], []⟩) ?_ ?_ ?_
                · exact rfl
                · exact rfl
                · rintro ⟨⟨i, ei, c⟩, hi, hv, hcl⟩
                  simp only at hi hv hcl
                  show aexR _ _ _ (frOf 0 118 [(0, tnsA l), (1, .int .i64 en), (7, .oslc (.s 5) ei 5 0 c.length false), (9, .int .i64 (k : Int)), (10, .optr (.s 1) eN 3 0 0), (12, .optr (.s 3) eT 3 0 0), (13, .lslc 3 (outR L) 0 L.length false), (15, .int .i64 (i : Int)), (66, .oslc (.s 2) eS 3 0 2 false), (67, .int .i64 2), (68, .int .i64 (j : Int))])
                    ⟨[.hole, .vec eN [tnR x], .vec eS (ts.map tnR), .vec eT [[.int .i64 tp, .int .i64 tf, .int .i64 tt]], .hole, .vec ei (c.map wrR)], []⟩ _
                  (conv => whnf)
                  refine ifB (fun g3 => ?_) (fun g3 => ?_)
                  · simp only [decide_eq_true_eq] at g3
                    have h3 : i < L.length := by omega
                    have hm2 := outR_get h3
                    obtain ⟨v, d, t, _, g, _⟩ := tkL_get (hK L[i] (List.getElem_mem h3))
                    rw [g] at hm2
                    rw [wrL_cons tp h3, sgW_of tp _ g] at hv
                    have e1 : ∀ y : Bool, (c ++ [(⟨tp, v, d, t, y⟩ : Wr)]).length = c.length + 1 := fun y => by simp
                    have t3 : List.take c.length (List.drop 0 (c.map wrR)) = c.map wrR := by rw [List.drop_zero, List.take_of_length_le (by simp)]
                    have e2' : ∀ y : Bool, (c ++ [(⟨tp, v, d, t, y⟩ : Wr)]).map wrR = List.take c.length (List.drop 0 (c.map wrR)) ++ [[.int .i64 tp, .int .i64 v, .bool d, .bool t, .bool y]] := fun y => by rw [t3]; simp [wrR]
                    by_cases c1 : 0 ≤ tp
                    · rw [show (decide (0 ≤ tp) && decide (i + 1 < L.length)) = decide ((i : Int) + 1 < (L.length : Int)) by simp only [c1, decide_true, Bool.true_and, decide_eq_decide]; omega] at hv
                      (repeat' (first | exact rfl | ((conv => whnf); first | refine optS hm2 ?_ | exact rfl | exact ⟨rfl, rfl⟩ | refine ⟨(by kernel_rfl : drawOk _ _ _ _ = true), ?_⟩ | refine ⟨(by kernel_rfl : planOk _ _ _ _ = true), ?_⟩ | refine ⟨rfl, ?_⟩ | refine ⟨by (first | omega | (simp (disch := omega) only [wrapI]; omega) | (simp (disch := omega) only [wrapI]; simp; omega) | (simp; omega)), ?_⟩ | (intro ep) | (refine ifB (fun hb => ?_) (fun hb => ?_) <;> (try simp only [decide_eq_true_eq, decide_eq_false_iff_not, beq_iff_eq, beq_eq_false_iff_ne, bne_iff_ne, bne_eq_false_iff_eq, ne_eq, not_false_eq_true, not_true_eq_false, Bool.not_eq_true, Bool.not_eq_true', Bool.not_eq_false', Int.not_lt, Int.not_le] at hb) <;> (try simp (disch := omega) only [wrapI] at hb) <;> (try (exfalso; omega))) | fail)))
                      all_goals (conv => whnf)
                      all_goals refine back_of ⟨(i + 1, ep, c ++ [⟨tp, v, d, t, decide ((i : Int) + 1 < (L.length : Int))⟩]), by simp only; omega, by simp only; rw [← hv]; simp, by simp only [e1]; omega⟩ ⟨?_, ?_, by simp only; omega⟩
                      all_goals first
                        | (show maskF 0 _ _ = frOf 0 118 [(0, tnsA l), (1, .int .i64 en), (7, .oslc (.s 5) ep 5 0 (c ++ [(⟨tp, v, d, t, decide ((i : Int) + 1 < (L.length : Int))⟩ : Wr)]).length false), (9, .int .i64 (k : Int)), (10, .optr (.s 1) eN 3 0 0), (12, .optr (.s 3) eT 3 0 0), (13, .lslc 3 (outR L) 0 L.length false), (15, .int .i64 ((i + 1 : Nat) : Int)), (66, .oslc (.s 2) eS 3 0 2 false), (67, .int .i64 2), (68, .int .i64 (j : Int))]; rw [e1]; (first | exact rfl | (simp (disch := omega) only [wrapI]; exact rfl)); done)
                        | skip
                      all_goals show maskH 0 _ _ = ⟨[.hole, .vec eN [tnR x], .vec eS (ts.map tnR), .vec eT [[.int .i64 tp, .int .i64 tf, .int .i64 tt]], .hole, .vec ep ((c ++ [(⟨tp, v, d, t, decide ((i : Int) + 1 < (L.length : Int))⟩ : Wr)]).map wrR)], []⟩
                      all_goals rw [e2']
                      all_goals (first | exact rfl | (simp (disch := omega) only [wrapI]; exact rfl))
                    · rw [show (decide (0 ≤ tp) && decide (i + 1 < L.length)) = false by simp [c1]] at hv
                      (repeat' (first | exact rfl | ((conv => whnf); first | refine optS hm2 ?_ | exact rfl | exact ⟨rfl, rfl⟩ | refine ⟨(by kernel_rfl : drawOk _ _ _ _ = true), ?_⟩ | refine ⟨(by kernel_rfl : planOk _ _ _ _ = true), ?_⟩ | refine ⟨rfl, ?_⟩ | refine ⟨by (first | omega | (simp (disch := omega) only [wrapI]; omega) | (simp (disch := omega) only [wrapI]; simp; omega) | (simp; omega)), ?_⟩ | (intro ep) | (refine ifB (fun hb => ?_) (fun hb => ?_) <;> (try simp only [decide_eq_true_eq, decide_eq_false_iff_not, beq_iff_eq, beq_eq_false_iff_ne, bne_iff_ne, bne_eq_false_iff_eq, ne_eq, not_false_eq_true, not_true_eq_false, Bool.not_eq_true, Bool.not_eq_true', Bool.not_eq_false', Int.not_lt, Int.not_le] at hb) <;> (try simp (disch := omega) only [wrapI] at hb) <;> (try (exfalso; omega))) | fail)))
                      all_goals (conv => whnf)
                      all_goals refine back_of ⟨(i + 1, ep, c ++ [⟨tp, v, d, t, false⟩]), by simp only; omega, by simp only; rw [← hv]; simp, by simp only [e1]; omega⟩ ⟨?_, ?_, by simp only; omega⟩
                      all_goals first
                        | (show maskF 0 _ _ = frOf 0 118 [(0, tnsA l), (1, .int .i64 en), (7, .oslc (.s 5) ep 5 0 (c ++ [(⟨tp, v, d, t, false⟩ : Wr)]).length false), (9, .int .i64 (k : Int)), (10, .optr (.s 1) eN 3 0 0), (12, .optr (.s 3) eT 3 0 0), (13, .lslc 3 (outR L) 0 L.length false), (15, .int .i64 ((i + 1 : Nat) : Int)), (66, .oslc (.s 2) eS 3 0 2 false), (67, .int .i64 2), (68, .int .i64 (j : Int))]; rw [e1]; (first | exact rfl | (simp (disch := omega) only [wrapI]; exact rfl)); done)
                        | skip
                      all_goals show maskH 0 _ _ = ⟨[.hole, .vec eN [tnR x], .vec eS (ts.map tnR), .vec eT [[.int .i64 tp, .int .i64 tf, .int .i64 tt]], .hole, .vec ep ((c ++ [(⟨tp, v, d, t, false⟩ : Wr)]).map wrR)], []⟩
                      all_goals rw [e2']
                      all_goals (first | exact rfl | (simp (disch := omega) only [wrapI]; exact rfl))
                  · simp only [decide_eq_false_iff_not] at g3
                    rw [List.drop_eq_nil_of_le (by omega), wrL, List.append_nil] at hv
                    subst hv
                    (repeat' (first | exact rfl | ((conv => whnf); first | exact rfl | exact ⟨rfl, rfl⟩ | refine ⟨(by kernel_rfl : drawOk _ _ _ _ = true), ?_⟩ | refine ⟨(by kernel_rfl : planOk _ _ _ _ = true), ?_⟩ | refine ⟨rfl, ?_⟩ | refine ⟨by (first | omega | (simp (disch := omega) only [wrapI]; omega) | (simp (disch := omega) only [wrapI]; simp; omega) | (simp; omega)), ?_⟩ | (intro ep) | fail)))
                    all_goals (conv => whnf)
                    all_goals exact back_of ei ⟨rfl, rfl, rfl⟩
                · rintro ⟨⟩
                · intro ei
                  have hBl : B.length ≤ b.length + 4608 := by rw [hB, List.length_append, wrL_len]; omega
                  (repeat' (first | exact rfl | ((conv => whnf); first | exact rfl | exact ⟨rfl, rfl⟩ | refine ⟨(by kernel_rfl : drawOk _ _ _ _ = true), ?_⟩ | refine ⟨(by kernel_rfl : planOk _ _ _ _ = true), ?_⟩ | refine ⟨rfl, ?_⟩ | refine ⟨by (first | omega | (simp (disch := omega) only [wrapI]; omega) | (simp (disch := omega) only [wrapI]; simp; omega) | (simp; omega)), ?_⟩ | (intro ep) | fail)))
                  all_goals (conv => whnf)
                  all_goals exact back_of ⟨(j + 1, ei, B), by simp only; omega, by simp only; omega, hw⟩ ⟨by (first | exact rfl | (simp (disch := omega) only [wrapI]; exact rfl)), rfl, by simp only; omega⟩
            · simp only [decide_eq_false_iff_not] at g2
              rw [List.drop_eq_nil_of_le (by omega), wts] at hw
              (repeat' (first | exact rfl | ((conv => whnf); first | exact rfl | exact ⟨rfl, rfl⟩ | refine ⟨(by kernel_rfl : drawOk _ _ _ _ = true), ?_⟩ | refine ⟨(by kernel_rfl : planOk _ _ _ _ = true), ?_⟩ | refine ⟨rfl, ?_⟩ | refine ⟨by (first | omega | (simp (disch := omega) only [wrapI]; omega) | (simp (disch := omega) only [wrapI]; simp; omega) | (simp; omega)), ?_⟩ | (intro ep) | fail)))
              all_goals (conv => whnf)
              all_goals exact back_of ⟨(e', b), by simp only; omega, hw⟩ ⟨rfl, rfl, rfl⟩
          · rintro ⟨⟨⟩, hw⟩
            rw [← hw] at hu
            exact back_of ⟨(), hu⟩ ⟨rfl, rfl⟩
          · rintro ⟨⟨e', b⟩, hb, hw⟩
            simp only at hb hw
            rw [← hw] at hu
            simp only at hu
            (repeat' (first | exact rfl | ((conv => whnf); first | refine optS hm ?_ | exact rfl | exact ⟨rfl, rfl⟩ | refine ⟨(by kernel_rfl : drawOk _ _ _ _ = true), ?_⟩ | refine ⟨(by kernel_rfl : planOk _ _ _ _ = true), ?_⟩ | refine ⟨rfl, ?_⟩ | refine ⟨by (first | omega | (simp (disch := omega) only [wrapI]; omega) | (simp (disch := omega) only [wrapI]; simp; omega) | (simp; omega)), ?_⟩ | (intro ep) | (refine ifB (fun hb => ?_) (fun hb => ?_) <;> (try simp only [decide_eq_true_eq, decide_eq_false_iff_not, beq_iff_eq, beq_eq_false_iff_ne, bne_iff_ne, bne_eq_false_iff_eq, ne_eq, not_false_eq_true, not_true_eq_false, Bool.not_eq_true, Bool.not_eq_true', Bool.not_eq_false', Int.not_lt, Int.not_le] at hb) <;> (try simp (disch := omega) only [wrapI] at hb) <;> (try (exfalso; omega))) | fail)))
            all_goals (conv => whnf)
            all_goals exact back_of ⟨(k + 1, e', b, x.t), by simp only; omega, by simp only; omega, by simp only; omega, hu⟩ ⟨by (first | exact rfl | (simp (disch := omega) only [wrapI]; exact rfl)), rfl, by simp only; omega⟩
      · simp only [decide_eq_false_iff_not] at g1
        have : k = l.length + 1 := by omega
        unfold outS at hu
        rw [if_neg (by omega)] at hu
        (repeat' (first | exact rfl | ((conv => whnf); first | exact rfl | exact ⟨rfl, rfl⟩ | refine ⟨(by kernel_rfl : drawOk _ _ _ _ = true), ?_⟩ | refine ⟨(by kernel_rfl : planOk _ _ _ _ = true), ?_⟩ | refine ⟨rfl, ?_⟩ | refine ⟨by (first | omega | (simp (disch := omega) only [wrapI]; omega) | (simp (disch := omega) only [wrapI]; simp; omega) | (simp; omega)), ?_⟩ | (intro ep) | fail)))
        all_goals (conv => whnf)
        all_goals exact back_of ⟨(e, a), hu⟩ ⟨rfl, rfl, rfl⟩
    · rintro ⟨⟨⟩, hx⟩
      (repeat' (first | exact rfl | ((conv => whnf); first | exact rfl | exact ⟨rfl, rfl⟩ | refine ⟨(by kernel_rfl : drawOk _ _ _ _ = true), ?_⟩ | refine ⟨(by kernel_rfl : planOk _ _ _ _ = true), ?_⟩ | refine ⟨rfl, ?_⟩ | refine ⟨by (first | omega | (simp (disch := omega) only [wrapI]; omega) | (simp (disch := omega) only [wrapI]; simp; omega) | (simp; omega)), ?_⟩ | (intro ep) | fail)))
      all_goals (conv => whnf)
      all_goals (rw [← hx]; rfl)
    · rintro ⟨⟨e, a⟩, hx⟩
      (repeat' (first | exact rfl | ((conv => whnf); first | exact rfl | exact ⟨rfl, rfl⟩ | refine ⟨(by kernel_rfl : drawOk _ _ _ _ = true), ?_⟩ | refine ⟨(by kernel_rfl : planOk _ _ _ _ = true), ?_⟩ | refine ⟨rfl, ?_⟩ | refine ⟨by (first | omega | (simp (disch := omega) only [wrapI]; omega) | (simp (disch := omega) only [wrapI]; simp; omega) | (simp; omega)), ?_⟩ | (intro ep) | fail)))
      all_goals (conv => whnf)
      simp only at hx
      subst hx
      exact ⟨pure_wrs a, rfl, by unfold setV; simp [wrsA]⟩
  · have hT0 : T = 0 := by rw [hT]; unfold lastT; rw [dif_neg c0]
    have hm0 : True := trivial
    (repeat' (first | exact rfl | ((conv => whnf); first | (refine ACalls.fz 0 ?_; (conv => whnf); refine ⟨pure_map (f := fun p : List Tn => [tnsA p]) [l] fun x => rfl, by (repeat' (first | exact trivial | exact eqsP_rows _ (fun x => rfl) | ((conv => whnf); first | exact trivial | refine ⟨rfl, ?_⟩ | refine ⟨?_, ?_⟩ | fail))), by (repeat' (first | exact trivial | exact eqsP_rows _ (fun x => rfl) | ((conv => whnf); first | exact trivial | refine ⟨rfl, ?_⟩ | refine ⟨?_, ?_⟩ | fail))), by (repeat' (first | exact trivial | exact eqsP_rows _ (fun x => rfl) | ((conv => whnf); first | exact trivial | refine ⟨rfl, ?_⟩ | refine ⟨?_, ?_⟩ | fail))), ?_⟩; refine PRet.calls h1 ?_) | refine optS hm0 ?_ | exact rfl | exact ⟨rfl, rfl⟩ | refine ⟨(by kernel_rfl : drawOk _ _ _ _ = true), ?_⟩ | refine ⟨(by kernel_rfl : planOk _ _ _ _ = true), ?_⟩ | refine ⟨rfl, ?_⟩ | refine ⟨by (first | omega | (simp (disch := omega) only [wrapI]; omega) | (simp (disch := omega) only [wrapI]; simp; omega) | (simp; omega)), ?_⟩ | (intro ep) | (refine ifB (fun hb => ?_) (fun hb => ?_) <;> (try simp only [decide_eq_true_eq, decide_eq_false_iff_not, beq_iff_eq, beq_eq_false_iff_ne, bne_iff_ne, bne_eq_false_iff_eq, ne_eq, not_false_eq_true, not_true_eq_false, Bool.not_eq_true, Bool.not_eq_true', Bool.not_eq_false', Int.not_lt, Int.not_le] at hb) <;> (try simp (disch := omega) only [wrapI] at hb) <;> (try (exfalso; omega))) | fail)))
    all_goals (conv => whnf)
    refine wk_lift 7 5 5 rfl ?_
    intro e5
    refine loopY X38 mixed (A := A38) [0, 1, 7, 8, 9] [5] (S := { z : Nat × Nat × List Wr × Int // z.1 ≤ l.length + 1 ∧ z.2.2.1.length ≤ 9216 * z.1 ∧ (0 ≤ z.2.2.2 ∧ z.2.2.2 ≤ 262144) ∧ outS l en z.1 z.2.2.2 z.2.2.1 = R })
      (fr := fun s => frOf 0 118 [(0, tnsA l), (1, .int .i64 en), (7, .oslc (.s 5) s.1.2.1 5 0 s.1.2.2.1.length false), (8, .int .i64 s.1.2.2.2), (9, .int .i64 (s.1.1 : Int))])
      (h := fun s => ⟨[.hole, .hole, .hole, .hole, .hole, .vec s.1.2.1 (s.1.2.2.1.map wrR)], []⟩) (μ := fun s => l.length + 1 - s.1.1) ⟨(0, e5, [], 0), by simp, by simp, by simp, by unfold outS; simp [hR]⟩ ?_ ?_
      [7] [5] (S' := { z : Nat × List Wr // some z.2 = R }) (X := fun _ => 0) (frX := fun s => frOf 0 118 [(7, .oslc (.s 5) s.1.1 5 0 s.1.2.length false)]) (hX := fun s => ⟨[.hole, .hole, .hole, .hole, .hole, .vec s.1.1 (s.1.2.map wrR)], []⟩)
      [4, 5] [] (S2 := { _x : Unit // none = R }) (frR := fun s => frOf 0 118 [(4, .nils), (5, .int .i64 25)]) (hR := fun s => ⟨[.hole, .hole, .hole, .hole, .hole, .hole], []⟩) ?_ ?_ ?_
    · exact rfl
    · exact rfl
    · rintro ⟨⟨k, e, a, now⟩, hk, ha, hnow, hu⟩
      simp only at hk ha hnow hu
      show aexR _ _ _ (frOf 0 118 [(0, tnsA l), (1, .int .i64 en), (7, .oslc (.s 5) e 5 0 a.length false), (8, .int .i64 now), (9, .int .i64 (k : Int))]) ⟨[.hole, .hole, .hole, .hole, .hole, .vec e (a.map wrR)], []⟩ _
      (conv => whnf)
      refine ifB (fun g1 => ?_) (fun g1 => ?_)
      · simp only [decide_eq_true_eq] at g1
        have hk2 : k ≤ l.length := by omega
        rw [outS_step en now a hk2] at hu
        by_cases ck : k < l.length
        · exfalso; omega
        · have hn : nxT l en k = ⟨-1, en, en⟩ := by unfold nxT; rw [dif_neg ck]
          rw [hn] at hu
          obtain ⟨x, hx⟩ : ∃ x : Tn, x = ⟨-1, en, en⟩ := ⟨_, rfl⟩
          obtain ⟨ts, hts⟩ : ∃ ts : List Tn, ts = [⟨-1, now, x.f⟩, x] := ⟨_, rfl⟩
          have hrng : ∀ t ∈ ts, 0 ≤ t.f ∧ t.f ≤ 262144 ∧ 0 ≤ t.t ∧ t.t ≤ 262144 := fun t ht => by
            rw [hts, hx] at ht; simp at ht; rcases ht with rfl | rfl <;> simp only <;> omega
          have hxt : 0 ≤ x.t ∧ x.t ≤ 262144 := by rw [hx]; simp only; omega
          have h2l : ts.length = 2 := by rw [hts]; rfl
          rw [← hx, ← hts] at hu
          obtain ⟨M, hM⟩ : ∃ M, M = wts ts a := ⟨_, rfl⟩
          rw [← hM] at hu
          have hm : True := trivial
          (repeat' (first | exact rfl | ((conv => whnf); first | exact rfl | exact ⟨rfl, rfl⟩ | refine ⟨(by kernel_rfl : drawOk _ _ _ _ = true), ?_⟩ | refine ⟨(by kernel_rfl : planOk _ _ _ _ = true), ?_⟩ | refine ⟨rfl, ?_⟩ | refine ⟨by (first | omega | (simp (disch := omega) only [wrapI]; omega) | (simp (disch := omega) only [wrapI]; simp; omega) | (simp; omega)), ?_⟩ | (intro ep) | (refine ifB (fun hb => ?_) (fun hb => ?_) <;> (try simp only [decide_eq_true_eq, decide_eq_false_iff_not, beq_iff_eq, beq_eq_false_iff_ne, bne_iff_ne, bne_eq_false_iff_eq, ne_eq, not_false_eq_true, not_true_eq_false, Bool.not_eq_true, Bool.not_eq_true', Bool.not_eq_false', Int.not_lt, Int.not_le] at hb) <;> (try simp (disch := omega) only [wrapI] at hb) <;> (try (exfalso; omega))) | fail)))
          all_goals (conv => whnf)
          rename_i eN
          obtain ⟨eS, heS⟩ : ∃ eS, eS = ep := ⟨_, rfl⟩
          subst heS
          refine loopY X38 mixed (A := A38) [0, 1, 7, 9, 10, 66, 67, 68] [1, 2, 5] (S := { z : Nat × Nat × List Wr // z.1 ≤ 2 ∧ z.2.2.length ≤ a.length + 4608 * z.1 ∧ wts (ts.drop z.1) z.2.2 = M })
            (fr := fun s => frOf 0 118 [(0, tnsA l), (1, .int .i64 en), (7, .oslc (.s 5) s.1.2.1 5 0 s.1.2.2.length false), (9, .int .i64 (k : Int)), (10, .optr (.s 1) eN 3 0 0), (66, .oslc (.s 2) eS 3 0 2 false), (67, .int .i64 2), (68, .int .i64 (s.1.1 : Int))])
            (h := fun s => ⟨[.hole, .vec eN [tnR x], .vec eS (ts.map tnR), .hole, .hole, .vec s.1.2.1 (s.1.2.2.map wrR)], []⟩) (μ := fun s => 2 - s.1.1) ⟨(0, e, a), by omega, by simp, by simp [hM]⟩ ?_ ?_
            [0, 1, 7, 9, 10] [1, 5] (S' := { z : Nat × List Wr // z.2.length ≤ a.length + 9216 ∧ some z.2 = M }) (X := fun _ => 2) (frX := fun s => frOf 0 118 [(0, tnsA l), (1, .int .i64 en), (7, .oslc (.s 5) s.1.1 5 0 s.1.2.length false), (9, .int .i64 (k : Int)), (10, .optr (.s 1) eN 3 0 0)])
            (hX := fun s => ⟨[.hole, .vec eN [tnR x], .hole, .hole, .hole, .vec s.1.1 (s.1.2.map wrR)], []⟩)
            [4, 5] [] (S2 := { _x : Unit // none = M }) (frR := fun s => frOf 0 118 [(4, .nils), (5, .int .i64 25)]) (hR := fun s => ⟨[.hole, .hole, .hole, .hole, .hole, .hole], []⟩) ?_ ?_ ?_
          · exact rfl
          · show _ = (⟨[.hole, .vec eN [tnR x], .vec eS (ts.map tnR), .hole, .hole, .vec e (a.map wrR)], []⟩ : Heap)
            rw [hts, hx]; exact rfl
          · rintro ⟨⟨j, e', b⟩, hj, hbl, hw⟩
            simp only at hj hbl hw
            show aexR _ _ _ (frOf 0 118 [(0, tnsA l), (1, .int .i64 en), (7, .oslc (.s 5) e' 5 0 b.length false), (9, .int .i64 (k : Int)), (10, .optr (.s 1) eN 3 0 0), (66, .oslc (.s 2) eS 3 0 2 false), (67, .int .i64 2), (68, .int .i64 (j : Int))]) ⟨[.hole, .vec eN [tnR x], .vec eS (ts.map tnR), .hole, .hole, .vec e' (b.map wrR)], []⟩ _
            (conv => whnf)
            refine ifB (fun g2 => ?_) (fun g2 => ?_)
            · simp only [decide_eq_true_eq] at g2
              have h2 : j < ts.length := by omega
              have hm := mapR (f := tnR) h2
              have ht := hrng ts[j] (List.getElem_mem h2)
              rw [wts_cons b h2] at hw
              generalize ts[j] = tt0 at hm hw ht
              obtain ⟨tp, tf, tt⟩ := tt0
              simp only at hw ht
              replace hm : (ts.map tnR)[0 + ((j : Nat) : Int).toNat]? = some [.int .i64 tp, .int .i64 tf, .int .i64 tt] := hm
              by_cases c3 : tf = tt
              · rw [c3, Int.sub_self, seg_zero] at hw
                simp only [List.append_nil] at hw
                subst c3
                (repeat' (first | exact rfl | ((conv => whnf); first | refine optS hm ?_ | exact rfl | exact ⟨rfl, rfl⟩ | refine ⟨(by kernel_rfl : drawOk _ _ _ _ = true), ?_⟩ | refine ⟨(by kernel_rfl : planOk _ _ _ _ = true), ?_⟩ | refine ⟨rfl, ?_⟩ | refine ⟨by (first | omega | (simp (disch := omega) only [wrapI]; omega) | (simp (disch := omega) only [wrapI]; simp; omega) | (simp; omega)), ?_⟩ | (intro ep) | (refine ifB (fun hb => ?_) (fun hb => ?_) <;> (try simp only [decide_eq_true_eq, decide_eq_false_iff_not, beq_iff_eq, beq_eq_false_iff_ne, bne_iff_ne, bne_eq_false_iff_eq, ne_eq, not_false_eq_true, not_true_eq_false, Bool.not_eq_true, Bool.not_eq_true', Bool.not_eq_false', Int.not_lt, Int.not_le] at hb) <;> (try simp (disch := omega) only [wrapI] at hb) <;> (try (exfalso; omega))) | fail)))
                all_goals (conv => whnf)
                all_goals exact back_of ⟨(j + 1, e', b), by simp only; omega, by simp only; omega, hw⟩ ⟨by (first | exact rfl | (simp (disch := omega) only [wrapI]; exact rfl)), rfl, by simp only; omega⟩
              have hwr : IntKind.i64.wrap (tt - tf) = tt - tf := wrapI (by omega) (by omega)
              cases hsg : seg tp (tt - tf) with
              | none =>
                rw [hsg] at hw
                obtain ⟨er, her, hS⟩ := refSg_bad tp hsg
                rw [← hwr] at hS
                (repeat' (first | exact rfl | ((conv => whnf); first | refine optS hm ?_ | refine ⟨_, hS, ?_⟩ | exact rfl | exact ⟨rfl, rfl⟩ | refine ⟨(by kernel_rfl : drawOk _ _ _ _ = true), ?_⟩ | refine ⟨(by kernel_rfl : planOk _ _ _ _ = true), ?_⟩ | refine ⟨rfl, ?_⟩ | refine ⟨by (first | omega | (simp (disch := omega) only [wrapI]; omega) | (simp (disch := omega) only [wrapI]; simp; omega) | (simp; omega)), ?_⟩ | (intro ep) | (refine ifB (fun hb => ?_) (fun hb => ?_) <;> (try simp only [decide_eq_true_eq, decide_eq_false_iff_not, beq_iff_eq, beq_eq_false_iff_ne, bne_iff_ne, bne_eq_false_iff_eq, ne_eq, not_false_eq_true, not_true_eq_false, Bool.not_eq_true, Bool.not_eq_true', Bool.not_eq_false', Int.not_lt, Int.not_le] at hb) <;> (try simp (disch := omega) only [wrapI] at hb) <;> (try (exfalso; omega))) | fail)))
                all_goals (conv => whnf)
                all_goals exact back_of ⟨(), hw⟩ ⟨rfl, rfl⟩
              | some w2 =>
                rw [hsg] at hw
                simp only at hw
                obtain ⟨L, rfl, hK, hLl, hS⟩ := refSg_ok hsg
                rw [← hwr] at hS
                (repeat' (first | exact rfl | ((conv => whnf); first | refine optS hm ?_ | refine ⟨_, hS, ?_⟩ | exact rfl | exact ⟨rfl, rfl⟩ | refine ⟨(by kernel_rfl : drawOk _ _ _ _ = true), ?_⟩ | refine ⟨(by kernel_rfl : planOk _ _ _ _ = true), ?_⟩ | refine ⟨rfl, ?_⟩ | refine ⟨by (first | omega | (simp (disch := omega) only [wrapI]; omega) | (simp (disch := omega) only [wrapI]; simp; omega) | (simp; omega)), ?_⟩ | (intro ep) | (refine ifB (fun hb => ?_) (fun hb => ?_) <;> (try simp only [decide_eq_true_eq, decide_eq_false_iff_not, beq_iff_eq, beq_eq_false_iff_ne, bne_iff_ne, bne_eq_false_iff_eq, ne_eq, not_false_eq_true, not_true_eq_false, Bool.not_eq_true, Bool.not_eq_true', Bool.not_eq_false', Int.not_lt, Int.not_le] at hb) <;> (try simp (disch := omega) only [wrapI] at hb) <;> (try (exfalso; omega))) | fail)))
                all_goals (conv => whnf)
                obtain ⟨eT, heT⟩ : ∃ eT, eT = ep := ⟨_, rfl⟩
                subst heT
                obtain ⟨B, hB⟩ : ∃ B, B = b ++ wrL tp L := ⟨_, rfl⟩
                rw [← hB] at hw
                refine loopY X38 mixed (A := A38) [0, 1, 7, 9, 10, 12, 13, 15, 66, 67, 68] [1, 2, 3, 5] (S := { z : Nat × Nat × List Wr // z.1 ≤ L.length ∧ z.2.2 ++ wrL tp (L.drop z.1) = B ∧ z.2.2.length ≤ b.length + z.1 })
                  (fr := fun s => frOf 0 118 [(0, tnsA l), (1, .int .i64 en), (7, .oslc (.s 5) s.1.2.1 5 0 s.1.2.2.length false), (9, .int .i64 (k : Int)), (10, .optr (.s 1) eN 3 0 0), (12, .optr (.s 3) eT 3 0 0), (13, .lslc 3 (outR L) 0 L.length false), (15, .int .i64 (s.1.1 : Int)), (66, .oslc (.s 2) eS 3 0 2 false), (67, .int .i64 2), (68, .int .i64 (j : Int))])
                  (h := fun s => ⟨[.hole, .vec eN [tnR x], .vec eS (ts.map tnR), .vec eT [[.int .i64 tp, .int .i64 tf, .int .i64 tt]], .hole, .vec s.1.2.1 (s.1.2.2.map wrR)], []⟩) (μ := fun s => L.length - s.1.1) ⟨(0, e', b), Nat.zero_le _, by simp [hB], by simp⟩ ?_ ?_
                  [0, 1, 7, 9, 10, 66, 67, 68] [1, 2, 5] (S' := Nat) (X := fun _ => 4) (frX := fun s => frOf 0 118 [(0, tnsA l), (1, .int .i64 en), (7, .oslc (.s 5) s 5 0 B.length false), (9, .int .i64 (k : Int)), (10, .optr (.s 1) eN 3 0 0), (66, .oslc (.s 2) eS 3 0 2 false), (67, .int .i64 2), (68, .int .i64 (j : Int))])
                  (hX := fun s => ⟨[.hole, .vec eN [tnR x], .vec eS (ts.map tnR), .hole, .hole, .vec s (B.map wrR)], []⟩)
                  [] [] (S2 := Empty) (frR := fun s => frOf 0 118 []) (hR := fun s => ⟨[], []⟩) ?_ ?_ ?_
                · exact rfl
                · exact rfl
                · rintro ⟨⟨i, ei, c⟩, hi, hv, hcl⟩
                  simp only at hi hv hcl
                  show aexR _ _ _ (frOf 0 118 [(0, tnsA l), (1, .int .i64 en), (7, .oslc (.s 5) ei 5 0 c.length false), (9, .int .i64 (k : Int)), (10, .optr (.s 1) eN 3 0 0), (12, .optr (.s 3) eT 3 0 0), (13, .lslc 3 (outR L) 0 L.length false), (15, .int .i64 (i : Int)), (66, .oslc (.s 2) eS 3 0 2 false), (67, .int .i64 2), (68, .int .i64 (j : Int))])
                    ⟨[.hole, .vec eN [tnR x], .vec eS (ts.map tnR), .vec eT [[.int .i64 tp, .int .i64 tf, .int .i64 tt]], .hole, .vec ei (c.map wrR)], []⟩ _
                  (conv => whnf)
                  refine ifB (fun g3 => ?_) (fun g3 => ?_)
                  · simp only [decide_eq_true_eq] at g3
                    have h3 : i < L.length := by omega
                    have hm2 := outR_get h3
                    obtain ⟨v, d, t, _, g, _⟩ := tkL_get (hK L[i] (List.getElem_mem h3))
                    rw [g] at hm2
                    rw [wrL_cons tp h3, sgW_of tp _ g] at hv
                    have e1 : ∀ y : Bool, (c ++ [(⟨tp, v, d, t, y⟩ : Wr)]).length = c.length + 1 := fun y => by simp
                    have t3 : List.take c.length (List.drop 0 (c.map wrR)) = c.map wrR := by rw [List.drop_zero, List.take_of_length_le (by simp)]
                    have e2' : ∀ y : Bool, (c ++ [(⟨tp, v, d, t, y⟩ : Wr)]).map wrR = List.take c.length (List.drop 0 (c.map wrR)) ++ [[.int .i64 tp, .int .i64 v, .bool d, .bool t, .bool y]] := fun y => by rw [t3]; simp [wrR]
                    by_cases c1 : 0 ≤ tp
                    · rw [show (decide (0 ≤ tp) && decide (i + 1 < L.length)) = decide ((i : Int) + 1 < (L.length : Int)) by simp only [c1, decide_true, Bool.true_and, decide_eq_decide]; omega] at hv
                      (repeat' (first | exact rfl | ((conv => whnf); first | refine optS hm2 ?_ | exact rfl | exact ⟨rfl, rfl⟩ | refine ⟨(by kernel_rfl : drawOk _ _ _ _ = true), ?_⟩ | refine ⟨(by kernel_rfl : planOk _ _ _ _ = true), ?_⟩ | refine ⟨rfl, ?_⟩ | refine ⟨by (first | omega | (simp (disch := omega) only [wrapI]; omega) | (simp (disch := omega) only [wrapI]; simp; omega) | (simp; omega)), ?_⟩ | (intro ep) | (refine ifB (fun hb => ?_) (fun hb => ?_) <;> (try simp only [decide_eq_true_eq, decide_eq_false_iff_not, beq_iff_eq, beq_eq_false_iff_ne, bne_iff_ne, bne_eq_false_iff_eq, ne_eq, not_false_eq_true, not_true_eq_false, Bool.not_eq_true, Bool.not_eq_true', Bool.not_eq_false', Int.not_lt, Int.not_le] at hb) <;> (try simp (disch := omega) only [wrapI] at hb) <;> (try (exfalso; omega))) | fail)))
                      all_goals (conv => whnf)
                      all_goals refine back_of ⟨(i + 1, ep, c ++ [⟨tp, v, d, t, decide ((i : Int) + 1 < (L.length : Int))⟩]), by simp only; omega, by simp only; rw [← hv]; simp, by simp only [e1]; omega⟩ ⟨?_, ?_, by simp only; omega⟩
                      all_goals first
                        | (show maskF 0 _ _ = frOf 0 118 [(0, tnsA l), (1, .int .i64 en), (7, .oslc (.s 5) ep 5 0 (c ++ [(⟨tp, v, d, t, decide ((i : Int) + 1 < (L.length : Int))⟩ : Wr)]).length false), (9, .int .i64 (k : Int)), (10, .optr (.s 1) eN 3 0 0), (12, .optr (.s 3) eT 3 0 0), (13, .lslc 3 (outR L) 0 L.length false), (15, .int .i64 ((i + 1 : Nat) : Int)), (66, .oslc (.s 2) eS 3 0 2 false), (67, .int .i64 2), (68, .int .i64 (j : Int))]; rw [e1]; (first | exact rfl | (simp (disch := omega) only [wrapI]; exact rfl)); done)
                        | skip
                      all_goals show maskH 0 _ _ = ⟨[.hole, .vec eN [tnR x], .vec eS (ts.map tnR), .vec eT [[.int .i64 tp, .int .i64 tf, .int .i64 tt]], .hole, .vec ep ((c ++ [(⟨tp, v, d, t, decide ((i : Int) + 1 < (L.length : Int))⟩ : Wr)]).map wrR)], []⟩
                      all_goals rw [e2']
                      all_goals (first | exact rfl | (simp (disch := omega) only [wrapI]; exact rfl))
                    · rw [show (decide (0 ≤ tp) && decide (i + 1 < L.length)) = false by simp [c1]] at hv
                      (repeat' (first | exact rfl | ((conv => whnf); first | refine optS hm2 ?_ | exact rfl | exact ⟨rfl, rfl⟩ | refine ⟨(by kernel_rfl : drawOk _ _ _ _ = true), ?_⟩ | refine ⟨(by kernel_rfl : planOk _ _ _ _ = true), ?_⟩ | refine ⟨rfl, ?_⟩ | refine ⟨by (first | omega | (simp (disch := omega) only [wrapI]; omega) | (simp (disch := omega) only [wrapI]; simp; omega) | (simp; omega)), ?_⟩ | (intro ep) | (refine ifB (fun hb => ?_) (fun hb => ?_) <;> (try simp only [decide_eq_true_eq, decide_eq_false_iff_not, beq_iff_eq, beq_eq_false_iff_ne, bne_iff_ne, bne_eq_false_iff_eq, ne_eq, not_false_eq_true, not_true_eq_false, Bool.not_eq_true, Bool.not_eq_true', Bool.not_eq_false', Int.not_lt, Int.not_le] at hb) <;> (try simp (disch := omega) only [wrapI] at hb) <;> (try (exfalso; omega))) | fail)))
                      all_goals (conv => whnf)
                      all_goals refine back_of ⟨(i + 1, ep, c ++ [⟨tp, v, d, t, false⟩]), by simp only; omega, by simp only; rw [← hv]; simp, by simp only [e1]; omega⟩ ⟨?_, ?_, by simp only; omega⟩
                      all_goals first
                        | (show maskF 0 _ _ = frOf 0 118 [(0, tnsA l), (1, .int .i64 en), (7, .oslc (.s 5) ep 5 0 (c ++ [(⟨tp, v, d, t, false⟩ : Wr)]).length false), (9, .int .i64 (k : Int)), (10, .optr (.s 1) eN 3 0 0), (12, .optr (.s 3) eT 3 0 0), (13, .lslc 3 (outR L) 0 L.length false), (15, .int .i64 ((i + 1 : Nat) : Int)), (66, .oslc (.s 2) eS 3 0 2 false), (67, .int .i64 2), (68, .int .i64 (j : Int))]; rw [e1]; (first | exact rfl | (simp (disch := omega) only [wrapI]; exact rfl)); done)
                        | skip
                      all_goals show maskH 0 _ _ = ⟨[.hole, .vec eN [tnR x], .vec eS (ts.map tnR), .vec eT [[.int .i64 tp, .int .i64 tf, .int .i64 tt]], .hole, .vec ep ((c ++ [(⟨tp, v, d, t, false⟩ : Wr)]).map wrR)], []⟩
                      all_goals rw [e2']
                      all_goals (first | exact rfl | (simp (disch := omega) only [wrapI]; exact rfl))
                  · simp only [decide_eq_false_iff_not] at g3
                    rw [List.drop_eq_nil_of_le (by omega), wrL, List.append_nil] at hv
                    subst hv
                    (repeat' (first | exact rfl | ((conv => whnf); first | exact rfl | exact ⟨rfl, rfl⟩ | refine ⟨(by kernel_rfl : drawOk _ _ _ _ = true), ?_⟩ | refine ⟨(by kernel_rfl : planOk _ _ _ _ = true), ?_⟩ | refine ⟨rfl, ?_⟩ | refine ⟨by (first | omega | (simp (disch := omega) only [wrapI]; omega) | (simp (disch := omega) only [wrapI]; simp; omega) | (simp; omega)), ?_⟩ | (intro ep) | fail)))
                    all_goals (conv => whnf)
                    all_goals exact back_of ei ⟨rfl, rfl, rfl⟩
                · rintro ⟨⟩
                · intro ei
                  have hBl : B.length ≤ b.length + 4608 := by rw [hB, List.length_append, wrL_len]; omega
                  (repeat' (first | exact rfl | ((conv => whnf); first | exact rfl | exact ⟨rfl, rfl⟩ | refine ⟨(by kernel_rfl : drawOk _ _ _ _ = true), ?_⟩ | refine ⟨(by kernel_rfl : planOk _ _ _ _ = true), ?_⟩ | refine ⟨rfl, ?_⟩ | refine ⟨by (first | omega | (simp (disch := omega) only [wrapI]; omega) | (simp (disch := omega) only [wrapI]; simp; omega) | (simp; omega)), ?_⟩ | (intro ep) | fail)))
                  all_goals (conv => whnf)
                  all_goals exact back_of ⟨(j + 1, ei, B), by simp only; omega, by simp only; omega, hw⟩ ⟨by (first | exact rfl | (simp (disch := omega) only [wrapI]; exact rfl)), rfl, by simp only; omega⟩
            · simp only [decide_eq_false_iff_not] at g2
              rw [List.drop_eq_nil_of_le (by omega), wts] at hw
              (repeat' (first | exact rfl | ((conv => whnf); first | exact rfl | exact ⟨rfl, rfl⟩ | refine ⟨(by kernel_rfl : drawOk _ _ _ _ = true), ?_⟩ | refine ⟨(by kernel_rfl : planOk _ _ _ _ = true), ?_⟩ | refine ⟨rfl, ?_⟩ | refine ⟨by (first | omega | (simp (disch := omega) only [wrapI]; omega) | (simp (disch := omega) only [wrapI]; simp; omega) | (simp; omega)), ?_⟩ | (intro ep) | fail)))
              all_goals (conv => whnf)
              all_goals exact back_of ⟨(e', b), by simp only; omega, hw⟩ ⟨rfl, rfl, rfl⟩
          · rintro ⟨⟨⟩, hw⟩
            rw [← hw] at hu
            exact back_of ⟨(), hu⟩ ⟨rfl, rfl⟩
          · rintro ⟨⟨e', b⟩, hb, hw⟩
            simp only at hb hw
            rw [← hw] at hu
            simp only at hu
            (repeat' (first | exact rfl | ((conv => whnf); first | refine optS hm ?_ | exact rfl | exact ⟨rfl, rfl⟩ | refine ⟨(by kernel_rfl : drawOk _ _ _ _ = true), ?_⟩ | refine ⟨(by kernel_rfl : planOk _ _ _ _ = true), ?_⟩ | refine ⟨rfl, ?_⟩ | refine ⟨by (first | omega | (simp (disch := omega) only [wrapI]; omega) | (simp (disch := omega) only [wrapI]; simp; omega) | (simp; omega)), ?_⟩ | (intro ep) | (refine ifB (fun hb => ?_) (fun hb => ?_) <;> (try simp only [decide_eq_true_eq, decide_eq_false_iff_not, beq_iff_eq, beq_eq_false_iff_ne, bne_iff_ne, bne_eq_false_iff_eq, ne_eq, not_false_eq_true, not_true_eq_false, Bool.not_eq_true, Bool.not_eq_true', Bool.not_eq_false', Int.not_lt, Int.not_le] at hb) <;> (try simp (disch := omega) only [wrapI] at hb) <;> (try (exfalso; omega))) | fail)))
            all_goals (conv => whnf)
            all_goals exact back_of ⟨(k + 1, e', b, x.t), by simp only; omega, by simp only; omega, by simp only; omega, hu⟩ ⟨by (first | exact rfl | (simp (disch := omega) only [wrapI]; exact rfl)), rfl, by simp only; omega⟩
      · simp only [decide_eq_false_iff_not] at g1
        have : k = l.length + 1 := by omega
        unfold outS at hu
        rw [if_neg (by omega)] at hu
        (repeat' (first | exact rfl | ((conv => whnf); first | exact rfl | exact ⟨rfl, rfl⟩ | refine ⟨(by kernel_rfl : drawOk _ _ _ _ = true), ?_⟩ | refine ⟨(by kernel_rfl : planOk _ _ _ _ = true), ?_⟩ | refine ⟨rfl, ?_⟩ | refine ⟨by (first | omega | (simp (disch := omega) only [wrapI]; omega) | (simp (disch := omega) only [wrapI]; simp; omega) | (simp; omega)), ?_⟩ | (intro ep) | fail)))
        all_goals (conv => whnf)
        all_goals exact back_of ⟨(e, a), hu⟩ ⟨rfl, rfl, rfl⟩
    · rintro ⟨⟨⟩, hx⟩
      (repeat' (first | exact rfl | ((conv => whnf); first | exact rfl | exact ⟨rfl, rfl⟩ | refine ⟨(by kernel_rfl : drawOk _ _ _ _ = true), ?_⟩ | refine ⟨(by kernel_rfl : planOk _ _ _ _ = true), ?_⟩ | refine ⟨rfl, ?_⟩ | refine ⟨by (first | omega | (simp (disch := omega) only [wrapI]; omega) | (simp (disch := omega) only [wrapI]; simp; omega) | (simp; omega)), ?_⟩ | (intro ep) | fail)))
      all_goals (conv => whnf)
      all_goals (rw [← hx]; rfl)
    · rintro ⟨⟨e, a⟩, hx⟩
      (repeat' (first | exact rfl | ((conv => whnf); first | exact rfl | exact ⟨rfl, rfl⟩ | refine ⟨(by kernel_rfl : drawOk _ _ _ _ = true), ?_⟩ | refine ⟨(by kernel_rfl : planOk _ _ _ _ = true), ?_⟩ | refine ⟨rfl, ?_⟩ | refine ⟨by (first | omega | (simp (disch := omega) only [wrapI]; omega) | (simp (disch := omega) only [wrapI]; simp; omega) | (simp; omega)), ?_⟩ | (intro ep) | fail)))
      all_goals (conv => whnf)
      simp only at hx
      subst hx
      exact ⟨pure_wrs a, rfl, by unfold setV; simp [wrsA]⟩
end Go.Ab.V

/-
  Reading what was written gives the part back, in plain terms. No condition but the lengths.
-/
namespace Go.Ab.V
open Go.Proofs

def sumK : List Nat → Int
  | [] => 0
  | k :: r => tkN k + sumK r
theorem sumK_sig : ∀ {n : Nat}, 0 ≤ fw n → sumK (sigK n) = n := by
  intro n
  induction n using Nat.strongRecOn with
  | _ n ih =>
    intro h
    by_cases h0 : n = 0
    · subst h0; rw [sigK_zero]; rfl
    · obtain ⟨a, b, c⟩ := fw_nxt h h0
      have p := (tkN_pos (nxt_spec h h0).1).1
      rw [sigK_step h h0, sumK, ih _ (by omega) c]
      omega
theorem sumK_pos : ∀ {l : List Nat}, (∀ k ∈ l, k < 21) → 0 ≤ sumK l
  | [], _ => by unfold sumK; omega
  | k :: r, h => by
    have := sumK_pos (l := r) fun x hx => h x (List.mem_cons_of_mem _ hx)
    unfold sumK
    omega
theorem sg_ex {k : Nat} (h : k < 21) (p : Int) (y : Bool) : ∃ v d t, sgW p y k = ⟨p, v, d, t, y⟩ ∧ ticks v d t = tkN k ∧ 4 ≤ tkN k := by
  obtain ⟨v, d, t, _, g, e⟩ := tkL_get h
  have := tkN_pos h
  exact ⟨v, d, t, sgW_of p y g, by rw [e, this.2.2], this.1⟩
theorem nxD_wr {k : Nat} {l : List Nat} {p : Int} (r : List Wr) (h : k < 21) : nxD (wrL p (k :: l) ++ r) p = false := by
  obtain ⟨v, d, t, g, _⟩ := sg_ex h p (decide (0 ≤ p) && !l.isEmpty)
  rw [wrL, g, List.cons_append, nxD]
  simp
theorem uns_tone {p : Int} (hp : 0 ≤ p ∧ p ≤ 127) (r : List Wr) (acc : List Tn) (ha : acc.length ≠ 400) (fr : Int) : ∀ (l : List Nat) (en : Int), l ≠ [] → (∀ k ∈ l, k < 21) → en + sumK l ≤ 262144 →
    uns (wrL p l ++ r) acc en fr = uns r (acc ++ [⟨p, fr, en + sumK l⟩]) (en + sumK l) (en + sumK l)
  | [], en, h, _, _ => absurd rfl h
  | [k], en, _, hk, hs => by
    obtain ⟨v, d, t, g, e, e4⟩ := sg_ex (hk k (by simp)) p false
    have hw : wrL p [k] = [⟨p, v, d, t, false⟩] := by rw [wrL, wrL]; simp [g]
    simp only [sumK] at hs ⊢
    rw [hw, List.singleton_append, uns]
    simp only [e]
    rw [if_neg (by omega), if_neg (by omega), if_neg (by simp), if_neg (by intro h; rcases h with h | ⟨_, _, h⟩ <;> omega), if_pos (by simp [hp.1]), if_neg (by simp)]
    simp
  | k :: k2 :: l, en, _, hk, hs => by
    obtain ⟨v, d, t, g, e, e4⟩ := sg_ex (hk k (by simp)) p true
    have hk2 : ∀ x ∈ k2 :: l, x < 21 := fun x hx => hk x (List.mem_cons_of_mem _ hx)
    have hp2 := sumK_pos hk2
    have hw : wrL p (k :: k2 :: l) = ⟨p, v, d, t, true⟩ :: wrL p (k2 :: l) := by rw [wrL]; simp [g, hp.1]
    have hn := nxD_wr (p := p) (l := l) r (hk2 k2 (by simp))
    rw [sumK] at hs ⊢
    rw [hw, List.cons_append, uns]
    simp only [e]
    rw [if_neg (by omega), if_neg (by omega), if_neg (by simp [hn]; omega), if_neg (by intro h; rcases h with h | ⟨_, h, _⟩ <;> simp_all <;> omega), if_neg (by simp), if_pos trivial]
    rw [uns_tone hp r acc ha fr (k2 :: l) (en + tkN k) (by simp) hk2 (by omega)]
    rw [Int.add_assoc]
theorem uns_rest (r : List Wr) (acc : List Tn) : ∀ (l : List Nat) (en : Int), (∀ k ∈ l, k < 21) → en + sumK l ≤ 262144 →
    uns (wrL (-1) l ++ r) acc en en = uns r acc (en + sumK l) (en + sumK l)
  | [], en, hk, hs => by simp [wrL, sumK]
  | k :: l, en, hk, hs => by
    obtain ⟨v, d, t, g, e, e4⟩ := sg_ex (hk k (by simp)) (-1) false
    have hk2 : ∀ x ∈ l, x < 21 := fun x hx => hk x (List.mem_cons_of_mem _ hx)
    have hp2 := sumK_pos hk2
    have hw : wrL (-1) (k :: l) = ⟨-1, v, d, t, false⟩ :: wrL (-1) l := by rw [wrL]; simp [g]
    rw [sumK] at hs ⊢
    rw [hw, List.cons_append, uns]
    simp only [e]
    rw [if_neg (by omega), if_neg (by omega), if_neg (by simp), if_neg (by intro h; rcases h with h | ⟨h, _, _⟩ <;> omega), if_neg (by omega), if_neg (by simp)]
    rw [uns_rest r acc l (en + tkN k) hk2 (by omega)]
    rw [Int.add_assoc]
theorem seg_some {p n : Int} {w : List Wr} (h : seg p n = some w) : 0 ≤ n ∧ w = wrL p (sigK n.toNat) ∧ sumK (sigK n.toNat) = n ∧ (∀ k ∈ sigK n.toNat, k < 21) ∧ (0 < n → sigK n.toNat ≠ []) := by
  unfold seg at h
  split at h
  · cases h
  · rename_i hc
    cases h
    refine ⟨by omega, rfl, ?_, sigK_lt (by omega), fun h0 e => ?_⟩
    · rw [sumK_sig (by omega)]; omega
    · rw [sigK_step (by omega) (by omega)] at e; cases e
theorem uns_set (en : Int) (he : en ≤ 262144) : ∀ (l : List Tn) (now : Int) (a W : List Wr) (B : List Tn), good now l → B.length + l.length ≤ 400 → setL en l now a = some W → ∃ W', W = a ++ W' ∧ uns W' B now now = (B ++ l, en, 0)
  | [], now, a, W, B, hg, hl, h => by
    rw [setL] at h
    cases hs : seg (-1) (en - now) with
    | none => rw [hs] at h; cases h
    | some w =>
      rw [hs] at h
      cases h
      obtain ⟨h0, rfl, h2, h3, _⟩ := seg_some hs
      refine ⟨_, rfl, ?_⟩
      have := uns_rest [] B (sigK (en - now).toNat) now h3 (by omega)
      rw [List.append_nil] at this
      rw [this, h2, uns]
      simp; omega
  | x :: r, now, a, W, B, hg, hl, h => by
    obtain ⟨g1, g2, g3, g4, g5, g6⟩ := hg
    rw [setL] at h
    cases hs : seg (-1) (x.f - now) with
    | none => rw [hs] at h; cases h
    | some w =>
      rw [hs] at h
      cases hs2 : seg x.p (x.t - x.f) with
      | none => rw [hs2] at h; cases h
      | some w2 =>
        rw [hs2] at h
        simp only at h
        obtain ⟨W', e1, e2⟩ := uns_set en he r x.t _ W (B ++ [x]) g6 (by simp at hl ⊢; omega) h
        obtain ⟨h0, rfl, h2, h3, _⟩ := seg_some hs
        obtain ⟨k0, rfl, k2, k3, k4⟩ := seg_some hs2
        refine ⟨_, by rw [e1, List.append_assoc, List.append_assoc], ?_⟩
        rw [uns_rest _ B _ now h3 (by omega), h2]
        rw [uns_tone ⟨g1, g2⟩ W' B (by simp at hl; omega) _ _ _ (k4 (by omega)) k3 (by omega), k2]
        rw [show now + (x.f - now) = x.f by omega, show x.f + (x.t - x.f) = x.t by omega]
        rw [e2]
        simp
set_option maxRecDepth 100000 in
theorem setL_len (en : Int) : ∀ (l : List Tn) (now : Int) (a W : List Wr), setL en l now a = some W → W.length ≤ a.length + 4608 * (2 * l.length + 1)
  | [], now, a, W, h => by
    rw [setL] at h
    cases hs : seg (-1) (en - now) with
    | none => rw [hs] at h; cases h
    | some w =>
      rw [hs] at h
      cases h
      have := seg_len hs
      simp; omega
  | x :: r, now, a, W, h => by
    rw [setL] at h
    cases hs : seg (-1) (x.f - now) with
    | none => rw [hs] at h; cases h
    | some w =>
      rw [hs] at h
      cases hs2 : seg x.p (x.t - x.f) with
      | none => rw [hs2] at h; cases h
      | some w2 =>
        rw [hs2] at h
        have := setL_len en r x.t _ W h
        have h1 := seg_len hs
        have h2 := seg_len hs2
        rw [List.length_append, List.length_append] at this
        rw [List.length_cons]
        clear h hs hs2
        generalize W.length = A, a.length = B, w.length = C, w2.length = D, r.length = E at *
        omega
end Go.Ab.V

/-
  The law of Set and Unset: Unset undoes Set. No condition but the lengths.
-/
namespace Go.Ab.V
open Go.Proofs

set_option maxRecDepth 100000 in
theorem setA_cases {l : List Tn} {en : Int} (hl : ¬ (40 < l.length ∧ l.length ≤ 400)) : (∃ e : Int, e ≠ 0 ∧ setA l en = .tup [.nils, .int .i64 e]) ∨
    (∃ w : List Wr, w.length ≤ 4608 * 81 ∧ setA l en = .tup [wrsA w, .int .i64 0] ∧ uns w [] 0 0 = (l, en, 0) ∧ l.length ≤ 40) := by
  unfold setA
  split
  · rename_i h; exact .inl ⟨_, h, rfl⟩
  · rename_i h
    obtain ⟨h1, h2⟩ := chk1 (p := l) (by omega)
    split
    · exact .inl ⟨1, by decide, rfl⟩
    · rename_i h3
      cases hs : setL en l 0 [] with
      | none => exact .inl ⟨25, by decide, rfl⟩
      | some w =>
        obtain ⟨W', e1, e2⟩ := uns_set en (by omega) l 0 [] w [] h2 (by simpa using h1) hs
        have h4 := setL_len en l 0 [] w hs
        rw [List.nil_append] at e1 e2
        subst e1
        refine .inr ⟨w, ?_, rfl, e2, by omega⟩
        rw [List.length_nil] at h4
        generalize w.length = A, l.length = B at *
        have : B ≤ 40 := by omega
        have h5 : 4608 * (2 * B + 1) ≤ 4608 * 81 := Nat.mul_le_mul_left _ (by omega)
        omega
def A13 : Ann := fun _ => {}
set_option maxHeartbeats 4000000 in
set_option maxRecDepth 100000 in
theorem law_setBack (l : List Tn) (en : Int) (nl : l.length ≤ 9223372036854775807) : ACalls C.P 13 [tnsA l, .int .i64 en] Heap.nil fun r _ => r = .bool true := by
  by_cases h : 40 < l.length
  · refine fn_of ok mixed (A := A13) 0 Try.func13 rfl ?_
    (repeat' (first | exact rfl | ((conv => whnf); first | refine ⟨_, works_spec, ?_⟩ | exact rfl | refine ⟨by kernel_rfl, ?_⟩ | exact ⟨rfl, rfl⟩ | refine ⟨rfl, ?_⟩ | refine ⟨by (first | omega | (simp (disch := omega) only [wrapI]; omega) | (simp (disch := omega) only [wrapI]; simp; omega) | (simp; omega)), ?_⟩ | (intro ep) | (refine ifB (fun hb => ?_) (fun hb => ?_) <;> (try simp only [decide_eq_true_eq, decide_eq_false_iff_not, beq_iff_eq, beq_eq_false_iff_ne, bne_iff_ne, bne_eq_false_iff_eq, ne_eq, not_false_eq_true, not_true_eq_false, Bool.not_eq_true, Bool.not_eq_true', Bool.not_eq_false', Int.not_lt, Int.not_le] at hb) <;> (try simp (disch := omega) only [wrapI] at hb) <;> (try (exfalso; omega))) | fail)))
  have h1 := set37 l en nl
  rcases setA_cases (en := en) (show ¬ (40 < l.length ∧ l.length ≤ 400) by omega) with ⟨e, he, hv⟩ | ⟨w, hw, hv, hu, _⟩
  · rw [hv] at h1
    refine fn_of ok mixed (A := A13) 0 Try.func13 rfl ?_
    (repeat' (first | exact rfl | ((conv => whnf); first | refine ⟨_, h1, ?_⟩ | refine ⟨_, works_spec, ?_⟩ | exact rfl | refine ⟨by kernel_rfl, ?_⟩ | exact ⟨rfl, rfl⟩ | refine ⟨rfl, ?_⟩ | refine ⟨by (first | omega | (simp (disch := omega) only [wrapI]; omega) | (simp (disch := omega) only [wrapI]; simp; omega) | (simp; omega)), ?_⟩ | (intro ep) | (refine ifB (fun hb => ?_) (fun hb => ?_) <;> (try simp only [decide_eq_true_eq, decide_eq_false_iff_not, beq_iff_eq, beq_eq_false_iff_ne, bne_iff_ne, bne_eq_false_iff_eq, ne_eq, not_false_eq_true, not_true_eq_false, Bool.not_eq_true, Bool.not_eq_true', Bool.not_eq_false', Int.not_lt, Int.not_le] at hb) <;> (try simp (disch := omega) only [wrapI] at hb) <;> (try (exfalso; omega))) | fail)))
  · rw [hv] at h1
    have h2 := unset_spec w (by omega)
    rw [hu] at h2
    unfold unsV at h2
    rw [if_pos rfl] at h2
    simp only at h2
    have h3 := same32 l (by omega)
    refine fn_of ok mixed (A := A13) 0 Try.func13 rfl ?_
    (repeat' (first | exact rfl | ((conv => whnf); first | refine ⟨_, h1, ?_⟩ | refine ⟨_, h2, ?_⟩ | refine ⟨_, h3, ?_⟩ | refine ⟨_, works_spec, ?_⟩ | exact rfl | refine ⟨by kernel_rfl, ?_⟩ | exact ⟨rfl, rfl⟩ | refine ⟨rfl, ?_⟩ | refine ⟨by (first | omega | (simp (disch := omega) only [wrapI]; omega) | (simp (disch := omega) only [wrapI]; simp; omega) | (simp; omega)), ?_⟩ | (intro ep) | (refine ifB (fun hb => ?_) (fun hb => ?_) <;> (try simp only [decide_eq_true_eq, decide_eq_false_iff_not, beq_iff_eq, beq_eq_false_iff_ne, bne_iff_ne, bne_eq_false_iff_eq, ne_eq, not_false_eq_true, not_true_eq_false, Bool.not_eq_true, Bool.not_eq_true', Bool.not_eq_false', Int.not_lt, Int.not_le] at hb) <;> (try simp (disch := omega) only [wrapI] at hb) <;> (try (exfalso; omega))) | fail)))
end Go.Ab.V

/-
  The law of Set: what the document says. No condition but the lengths.
-/
namespace Go.Ab.V
open Go.Proofs

def A39 : Ann := fun _ => {}
set_option maxHeartbeats 2000000 in
set_option maxRecDepth 100000 in
theorem same39 (l : List Wr) (hl : l.length ≤ 9223372036854775806) : PRet C.P 39 [wrsA l, wrsA l] (.bool true) := by
  refine pret_of ok mixed (A := A39) 0 Try.func39 rfl ?_
  (repeat' (first | exact rfl | ((conv => whnf); first | exact rfl | refine ⟨by kernel_rfl, ?_⟩ | exact ⟨rfl, rfl⟩ | refine ⟨rfl, ?_⟩ | refine ⟨by (first | omega | (simp (disch := omega) only [wrapI]; omega) | (simp (disch := omega) only [wrapI]; simp; omega) | (simp; omega)), ?_⟩ | (intro ep) | fail)))
  (conv => whnf)
  refine ifB (fun hb => ?_) (fun hb => ?_)
  · exfalso; simp at hb
  (repeat' (first | exact rfl | ((conv => whnf); first | exact rfl | refine ⟨by kernel_rfl, ?_⟩ | exact ⟨rfl, rfl⟩ | refine ⟨rfl, ?_⟩ | refine ⟨by (first | omega | (simp (disch := omega) only [wrapI]; omega) | (simp (disch := omega) only [wrapI]; simp; omega) | (simp; omega)), ?_⟩ | (intro ep) | fail)))
  (conv => whnf)
  refine loopM ok mixed (A := A39) [0, 1, 5] [] (S := { k : Nat // k ≤ l.length })
    (fr := fun s => frOf 0 26 [(0, wrsA l), (1, wrsA l), (5, .int .i64 (s.1 : Int))])
    (h := fun s => ⟨[], []⟩) (μ := fun s => l.length - s.1) ⟨0, by omega⟩ (by exact rfl) (by exact rfl) ?_
  rintro ⟨k, hk⟩
  show aexR _ _ _ (frOf 0 26 [(0, wrsA l), (1, wrsA l), (5, .int .i64 (k : Int))]) ⟨[], []⟩ _
  (conv => whnf)
  refine ifB (fun g1 => ?_) (fun g1 => ?_)
  · simp only [decide_eq_true_eq] at g1
    have hlt : k < l.length := by omega
    have hm := mapR (f := wrR) hlt
    generalize l[k] = w at hm
    obtain ⟨p, v, d, t, y⟩ := w
    replace hm : (l.map wrR)[0 + ((k : Nat) : Int).toNat]? = some [.int .i64 p, .int .i64 v, .bool d, .bool t, .bool y] := hm
    (repeat' (first | exact rfl | ((conv => whnf); first | refine optS hm ?_ | exact rfl | exact ⟨rfl, rfl⟩ | refine ⟨(by kernel_rfl : drawOk _ _ _ _ = true), ?_⟩ | refine ⟨(by kernel_rfl : planOk _ _ _ _ = true), ?_⟩ | refine ⟨rfl, ?_⟩ | refine ⟨by (first | omega | (simp (disch := omega) only [wrapI]; omega) | (simp (disch := omega) only [wrapI]; simp; omega) | (simp; omega)), ?_⟩ | (intro ep) | fail)))
    all_goals (conv => whnf)
    refine ifB (fun hb => ?_) (fun hb => ?_)
    · exfalso; simp at hb
    (repeat' (first | exact rfl | ((conv => whnf); first | exact rfl | refine ⟨by kernel_rfl, ?_⟩ | exact ⟨rfl, rfl⟩ | refine ⟨rfl, ?_⟩ | refine ⟨by (first | omega | (simp (disch := omega) only [wrapI]; omega) | (simp (disch := omega) only [wrapI]; simp; omega) | (simp; omega)), ?_⟩ | (intro ep) | fail)))
    all_goals (conv => whnf)
    refine back_of ⟨k + 1, by omega⟩ ⟨by (first | exact rfl | (simp (disch := omega) only [wrapI]; exact rfl)), rfl, by simp only; omega⟩
  · (repeat' (first | exact rfl | ((conv => whnf); first | exact rfl | refine ⟨by kernel_rfl, ?_⟩ | exact ⟨rfl, rfl⟩ | refine ⟨rfl, ?_⟩ | refine ⟨by (first | omega | (simp (disch := omega) only [wrapI]; omega) | (simp (disch := omega) only [wrapI]; simp; omega) | (simp; omega)), ?_⟩ | (intro ep) | fail)))
theorem same39_nil : PRet C.P 39 [.nils, .nils] (.bool true) := by
  refine pret_of ok mixed (A := A39) 0 Try.func39 rfl ?_
  (repeat ((conv => whnf); first | exact rfl | exact ⟨rfl, rfl⟩ | refine ⟨rfl, ?_⟩ | refine ⟨by decide, ?_⟩ | refine ⟨by kernel_rfl, ?_⟩ | (intro ep) | refine loopU ok mixed (A := fun _ => {}) 100 ?_))
def A10 : Ann := fun _ => {}
set_option maxHeartbeats 4000000 in
set_option maxRecDepth 100000 in
theorem law_sets (l : List Tn) (en : Int) (nl : l.length ≤ 9223372036854775807) : ACalls C.P 10 [tnsA l, .int .i64 en] Heap.nil fun r _ => r = .bool true := by
  by_cases h : 40 < l.length ∧ l.length ≤ 400
  · refine fn_of ok mixed (A := A10) 0 Try.func10 rfl ?_
    (repeat' (first | exact rfl | ((conv => whnf); first | refine ⟨_, works_spec, ?_⟩ | exact rfl | refine ⟨by kernel_rfl, ?_⟩ | exact ⟨rfl, rfl⟩ | refine ⟨rfl, ?_⟩ | refine ⟨by (first | omega | (simp (disch := omega) only [wrapI]; omega) | (simp (disch := omega) only [wrapI]; simp; omega) | (simp; omega)), ?_⟩ | (intro ep) | (refine ifB (fun hb => ?_) (fun hb => ?_) <;> (try simp only [decide_eq_true_eq, decide_eq_false_iff_not, beq_iff_eq, beq_eq_false_iff_ne, bne_iff_ne, bne_eq_false_iff_eq, ne_eq, not_false_eq_true, not_true_eq_false, Bool.not_eq_true, Bool.not_eq_true', Bool.not_eq_false', Int.not_lt, Int.not_le] at hb) <;> (try simp (disch := omega) only [wrapI] at hb) <;> (try (exfalso; omega))) | fail)))
  have h1 := set37 l en nl
  have h2 := refSet38 l en nl
  rcases setA_cases (en := en) h with ⟨e, he, hv⟩ | ⟨w, hw, hv, _⟩
  · rw [hv] at h1 h2
    refine fn_of ok mixed (A := A10) 0 Try.func10 rfl ?_
    (repeat' (first | exact rfl | ((conv => whnf); first | refine ⟨_, h1, ?_⟩ | refine ⟨_, h2, ?_⟩ | refine ⟨_, same39_nil, ?_⟩ | refine ⟨_, works_spec, ?_⟩ | exact rfl | refine ⟨by kernel_rfl, ?_⟩ | exact ⟨rfl, rfl⟩ | refine ⟨rfl, ?_⟩ | refine ⟨by (first | omega | (simp (disch := omega) only [wrapI]; omega) | (simp (disch := omega) only [wrapI]; simp; omega) | (simp; omega)), ?_⟩ | (intro ep) | (refine ifB (fun hb => ?_) (fun hb => ?_) <;> (try simp only [decide_eq_true_eq, decide_eq_false_iff_not, beq_iff_eq, beq_eq_false_iff_ne, bne_iff_ne, bne_eq_false_iff_eq, ne_eq, not_false_eq_true, not_true_eq_false, Bool.not_eq_true, Bool.not_eq_true', Bool.not_eq_false', Int.not_lt, Int.not_le] at hb) <;> (try simp (disch := omega) only [wrapI] at hb) <;> (try (exfalso; omega))) | fail)))
  · rw [hv] at h1 h2
    have h3 := same39 w (by omega)
    refine fn_of ok mixed (A := A10) 0 Try.func10 rfl ?_
    (repeat' (first | exact rfl | ((conv => whnf); first | refine ⟨_, h1, ?_⟩ | refine ⟨_, h2, ?_⟩ | refine ⟨_, h3, ?_⟩ | refine ⟨_, works_spec, ?_⟩ | exact rfl | refine ⟨by kernel_rfl, ?_⟩ | exact ⟨rfl, rfl⟩ | refine ⟨rfl, ?_⟩ | refine ⟨by (first | omega | (simp (disch := omega) only [wrapI]; omega) | (simp (disch := omega) only [wrapI]; simp; omega) | (simp; omega)), ?_⟩ | (intro ep) | (refine ifB (fun hb => ?_) (fun hb => ?_) <;> (try simp only [decide_eq_true_eq, decide_eq_false_iff_not, beq_iff_eq, beq_eq_false_iff_ne, bne_iff_ne, bne_eq_false_iff_eq, ne_eq, not_false_eq_true, not_true_eq_false, Bool.not_eq_true, Bool.not_eq_true', Bool.not_eq_false', Int.not_lt, Int.not_le] at hb) <;> (try simp (disch := omega) only [wrapI] at hb) <;> (try (exfalso; omega))) | fail)))
end Go.Ab.V
