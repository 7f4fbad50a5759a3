/-
  What is proved here serves the law's text: each part says its own claim and its conditions. No condition is left open.
-/
import Derived.Test.YtffdekbcpnklnaaKR
set_option linter.unusedSimpArgs false
set_option linter.unusedVariables false

/-
  One event, as the document says it. No condition but what valid limits and notes are.
-/
namespace Go.Ab.V
open Go.Proofs

def arr (s : List Int) : List AV := s.map (.int .i64)
theorem arr_at {s : List Int} {i : Nat} (h : i < s.length) : aPart false 1 (0 + (i : Int).toNat * 1) (arr s) = some (.int .i64 (s.getD i 0)) := by
  have e : 0 + (i : Int).toNat * 1 = i := by omega
  rw [e]
  unfold aPart
  rw [if_pos (by unfold arr; rw [List.length_map]; omega)]
  simp [arr, h]
theorem arr_wr {s : List Int} {v : Int} (h1 : 1 ≤ v) (h2 : v ≤ s.length) (h3 : s.length ≤ 5) : aPart false 1 (0 + (IntKind.i64.wrap (v - 1)).toNat * 1) (arr s) = some (.int .i64 (s.getD (v - 1).toNat 0)) := by
  have e : IntKind.i64.wrap (v - 1) = (((v - 1).toNat : Nat) : Int) := by rw [wrapI (by omega) (by omega)]; omega
  rw [e, arr_at (by omega)]
def A74 : Ann := fun _ => {}
theorem size74 (d : Int) (h : -100000 ≤ d ∧ d ≤ 100000) : PRet C.P 74 [.int .i64 d] (.int .i64 (if d < -d then -d else d)) := by
  refine pret_of ok mixed (A := A74) 0 Try.func74 rfl ?_
  (repeat' (first | exact rfl | ((conv => whnf); first | refine ⟨rfl, ?_⟩ | (intro ep))))
  all_goals (refine congrArg (AV.int .i64) ?_; simp (disch := omega) only [wrapI]; simp only [if_true, Int.zero_sub])
theorem dst_size (p q : Int) : (if p - q < -(p - q) then -(p - q) else p - q) = dst p q := by unfold dst; split <;> split <;> omega
theorem evt_nxt {x : Lm} {l : List Nt} {ks : List Int} (hx : LmOk x) (hc : chkN l = 0) {a n : Nat} (sg : SegOk l a n) (hkl : ks.length = l.length) {s : List Int} {d : St × Int} :
    ∀ (c k : Nat) (nx : List Int) (m : Int), NxOk x.lo.length s a k nx → a ≤ k → k + c = a + n → evt x (lookS l nx) m k c (l.drop k) (ks.drop k) = .inr d →
      lookS l (nxt nx k c (ks.drop k)) = d.1 ∧ NxOk x.lo.length s a (a + n) (nxt nx k c (ks.drop k))
  | 0, k, nx, m, h, h1, h2, he => by
    unfold evt at he
    cases he
    unfold nxt
    exact ⟨rfl, by rw [← h2]; exact h⟩
  | c + 1, k, nx, m, h, h1, h2, he => by
    have hkl' : k < l.length := by have := sg.le; omega
    rw [evt_cons hkl' (by omega), join_ref (ks := ks) hx hc sg h h1 (by omega) hkl'] at he
    rw [nxt_cons (by omega)]
    generalize hv : ks[k] = v at he
    have L5 := hx.lo5
    by_cases c1 : v < 1 ∨ (x.lo.length : Int) < v
    · rw [if_pos c1] at he; cases he
    rw [if_neg c1] at he
    have h3 := h.set h1 (j := (v - 1).toNat) (by omega) L5
    split at he
    · cases he
    rename_i d2 hd
    split at hd
    · cases hd
    split at hd
    · cases hd
    have key : d2.2 = lookS l (nx.set (v - 1).toNat ((k : Int) + 1)) := by
      split at hd
      · split at hd
        · cases hd
        · cases hd; rfl
      · cases hd; rfl
    rw [key] at he
    exact evt_nxt hx hc sg hkl c (k + 1) _ _ h3 (by omega) (by omega) he

def A58 : Ann := fun r => match r with
  | 0 => { slots := [(0, 0), (1, 1), (2, 2)] }
  | 1 => { slots := [(1, 3)] }
  | 6 => { slots := [(10, 4)] }
  | 10 => { slots := [(8, 5)] }
  | 25 => { slots := [(14, 6), (15, 7)], plan := some (.one 0 (.one 1 (.one 2 (.one 3 (.one 4 (.one 5 (.one 6 (.one 7 (.one 8 (.one 9 (.br3 10 14 15 (.one 11 (.one 12 (.br3 13 14 15 (.one 14 (.one 15 (.one 16 (.one 17 (.done))))) (.br 13 15 (.one 15 (.one 16 (.one 17 (.done)))) (.br 13 16 (.one 16 (.one 17 (.done))) (.one 13 (.one 17 (.done))))) (.br 13 14 (.one 14 (.one 16 (.one 17 (.done)))) (.br 13 16 (.one 16 (.one 17 (.done))) (.one 13 (.one 17 (.done)))))))) (.br 10 15 (.one 11 (.one 12 (.br 13 15 (.one 15 (.one 16 (.one 17 (.done)))) (.br 13 16 (.one 16 (.one 17 (.done))) (.one 13 (.one 17 (.done))))))) (.br 10 16 (.one 11 (.one 12 (.br 13 16 (.one 16 (.one 17 (.done))) (.one 13 (.one 17 (.done)))))) (.one 10 (.one 11 (.one 12 (.one 13 (.one 17 (.done)))))))) (.br 10 14 (.one 11 (.one 12 (.br 13 14 (.one 14 (.one 16 (.one 17 (.done)))) (.br 13 16 (.one 16 (.one 17 (.done))) (.one 13 (.one 17 (.done))))))) (.br 10 16 (.one 11 (.one 12 (.br 13 16 (.one 16 (.one 17 (.done))) (.one 13 (.one 17 (.done)))))) (.one 10 (.one 11 (.one 12 (.one 13 (.one 17 (.done))))))))))))))))))) }
  | _ => {}
def turnV (x : Lm) (n : List Nt) (ks : List Int) (s : List Int) (a cnt : Nat) : AV := match evt x (lookS n s) 0 a cnt (n.drop a) (ks.drop a) with
  | .inl j => .tup [.agg (arr s), .int .i64 0, .int .i64 0, .int .i64 (j : Int)]
  | .inr d => if x.cross < crs d.1 (frN n a) then .tup [.agg (arr s), .int .i64 0, .int .i64 0, .int .i64 ((a : Int) + cnt - 1)] else
    .tup [.agg (arr (nxt s a cnt (ks.drop a))), .int .i64 (crs d.1 (frN n a)), .int .i64 d.2, .int .i64 (-1)]
theorem l5 {l : List Int} (h : l.length = 5) : ∃ a b c d e, l = [a, b, c, d, e] := by
  match l, h with
  | [a, b, c, d, e], _ => exact ⟨a, b, c, d, e, rfl⟩
set_option maxHeartbeats 16000000 in
set_option maxRecDepth 100000 in
theorem turn58 (x : Lm) (n : List Nt) (ks s : List Int) (a cnt o' c' : Nat) (ho : a = o') (hc' : cnt = c') (X : LmOk x) (hN : chkN n = 0) (sg : SegOk n a cnt) (hkl : ks.length = n.length) (hs : NxOk x.lo.length s a a s) :
    PRet C.P 58 [lmA x, ntsA n, .int .i64 (a : Int), .int .i64 ((a + cnt : Nat) : Int), .agg (arr s), .lslc 1 (ints ks) o' c' false] (turnV x n ks s a cnt) := by
  obtain rfl : o' = a := ho.symm
  obtain rfl : c' = cnt := hc'.symm
  generalize o' = a at *
  generalize c' = cnt at *
  have NN := ntsOk_of hN
  have hlen := NN.len
  have hle := sg.le
  have hpos := sg.pos
  have L5 := X.lo5
  have L1 := X.lo1
  have hxh := X.hi
  have hsl := hs.len
  have ha : a < n.length := by omega
  unfold turnV
  obtain ⟨E, hE⟩ : ∃ E, E = evt x (lookS n s) 0 a cnt (n.drop a) (ks.drop a) := ⟨_, rfl⟩
  rw [← hE]
  rw [frN_at ha]
  obtain ⟨NX, hNX⟩ : ∃ NX, NX = nxt s a cnt (ks.drop a) := ⟨_, rfl⟩
  rw [← hNX]
  obtain ⟨V, hV⟩ : ∃ V, V = (match E with
    | .inl j => AV.tup [.agg (arr s), .int .i64 0, .int .i64 0, .int .i64 (j : Int)]
    | .inr d => if x.cross < crs d.1 n[a].f then AV.tup [.agg (arr s), .int .i64 0, .int .i64 0, .int .i64 ((a : Int) + cnt - 1)] else
      AV.tup [.agg (arr NX), .int .i64 (crs d.1 n[a].f), .int .i64 d.2, .int .i64 (-1)]) := ⟨_, rfl⟩
  refine Eq.mp (congrArg (fun v => PRet C.P 58 _ v) hV) ?_
  have hfin := fun d => evt_nxt (d := d) X hN sg hkl cnt a s 0 hs (Nat.le_refl _) rfl
  obtain ⟨s0, s1, s2, s3, s4, rfl⟩ := l5 hsl
  refine pret_of ok mixed (A := A58) 8 Try.func58 rfl ?_
  (conv => whnf)
  intro e0
  (conv => whnf)
  intro e1
  (conv => whnf)
  intro e2
  (repeat' (first | exact rfl | ((conv => whnf); first | (intro e3) | exact rfl | exact ⟨rfl, rfl⟩ | refine ⟨(by kernel_rfl : drawOk _ _ _ _ = true), ?_⟩ | refine ⟨(by kernel_rfl : planOk _ _ _ _ = true), ?_⟩ | refine ⟨rfl, ?_⟩ | refine ⟨by (first | omega | (simp (disch := omega) only [wrapI]; omega) | (simp (disch := omega) only [wrapI]; simp; omega) | (simp; omega)), ?_⟩ | (intro ep) | fail)))
  all_goals (conv => whnf)
  have hX0 : ∀ v : Int, 1 ≤ v → v ≤ x.lo.length → (v - 1).toNat < 5 := fun v _ _ => by omega
  refine loopY ok mixed (A := A58) [1, 2, 3, 5, 6, 10, 12, 16, 17, 18] [0, 1, 2, 3] (S := { z : Nat × List Int × Int // (a ≤ z.1 ∧ z.1 ≤ a + cnt) ∧ NxOk x.lo.length [s0, s1, s2, s3, s4] a z.1 z.2.1 ∧ (0 ≤ z.2.2 ∧ z.2.2 ≤ 127 * z.1) ∧ evt x (lookS n z.2.1) z.2.2 z.1 (a + cnt - z.1) (n.drop z.1) (ks.drop z.1) = E ∧ nxt z.2.1 z.1 (a + cnt - z.1) (ks.drop z.1) = NX })
    (fr := fun z => frOf 0 204 [(1, ntsA n), (2, .int .i64 (a : Int)), (3, .int .i64 ((a + cnt : Nat) : Int)), (5, .lslc 1 (ints ks) a cnt false), (6, .optr (.s 0) e0 5 0 0), (10, .optr (.s 1) e1 5 0 0), (12, .optr (.s 2) e2 5 0 0), (16, .optr (.s 3) e3 5 0 0), (17, .int .i64 z.1.2.2), (18, .int .i64 (z.1.1 : Int))])
    (h := fun z => ⟨[.vec e0 [lmR x], .vec e1 [arr [s0, s1, s2, s3, s4]], .vec e2 [arr [0, 0, 0, 0, 0]], .vec e3 [arr z.1.2.1], .hole, .hole, .hole, .hole], []⟩) (μ := fun z => a + cnt - z.1.1)
    ⟨(a, [s0, s1, s2, s3, s4], 0), by simp only; omega, hs, by simp only; omega, by simp only; rw [hE, show a + cnt - a = cnt by omega], by simp only; rw [hNX, show a + cnt - a = cnt by omega]⟩ ?_ ?_
    [1, 2, 3, 6, 10, 12, 16, 17] [0, 1, 2, 3] (S' := { z : List Int × Int // NxOk x.lo.length [s0, s1, s2, s3, s4] a (a + cnt) z.1 ∧ (0 ≤ z.2 ∧ z.2 ≤ 127 * (a + cnt)) ∧ Sum.inr (lookS n z.1, z.2) = E ∧ z.1 = NX }) (X := fun _ => 0)
    (frX := fun z => frOf 0 204 [(1, ntsA n), (2, .int .i64 (a : Int)), (3, .int .i64 ((a + cnt : Nat) : Int)), (6, .optr (.s 0) e0 5 0 0), (10, .optr (.s 1) e1 5 0 0), (12, .optr (.s 2) e2 5 0 0), (16, .optr (.s 3) e3 5 0 0), (17, .int .i64 z.1.2)])
    (hX := fun z => ⟨[.vec e0 [lmR x], .vec e1 [arr [s0, s1, s2, s3, s4]], .vec e2 [arr [0, 0, 0, 0, 0]], .vec e3 [arr z.1.1], .hole, .hole, .hole, .hole], []⟩)
    [12, 13, 14, 15] [2] (S2 := { j : Nat // Sum.inl j = E }) (frR := fun j => frOf 0 204 [(12, .optr (.s 2) e2 5 0 0), (13, .int .i64 0), (14, .int .i64 0), (15, .int .i64 (j.1 : Int))])
    (hR := fun j => ⟨[.hole, .hole, .vec e2 [arr [s0, s1, s2, s3, s4]], .hole, .hole, .hole, .hole, .hole], []⟩) ?_ ?_ ?_
  · exact rfl
  · exact rfl
  · rintro ⟨⟨k, nx, m⟩, hk, hnx, hm, hv, hw⟩
    simp only at hk hnx hm hv hw
    show aexR _ _ _ (frOf 0 204 [(1, ntsA n), (2, .int .i64 (a : Int)), (3, .int .i64 ((a + cnt : Nat) : Int)), (5, .lslc 1 (ints ks) a cnt false), (6, .optr (.s 0) e0 5 0 0), (10, .optr (.s 1) e1 5 0 0), (12, .optr (.s 2) e2 5 0 0), (16, .optr (.s 3) e3 5 0 0), (17, .int .i64 m), (18, .int .i64 (k : Int))])
      ⟨[.vec e0 [lmR x], .vec e1 [arr [s0, s1, s2, s3, s4]], .vec e2 [arr [0, 0, 0, 0, 0]], .vec e3 [arr nx], .hole, .hole, .hole, .hole], []⟩ _
    (conv => whnf)
    refine ifB (fun g1 => ?_) (fun g1 => ?_)
    · simp only [decide_eq_true_eq] at g1
      have h1 : k < n.length := by omega
      have h2 : k < ks.length := by omega
      have hk1 : (ints ks)[a + (IntKind.i64.wrap ((k : Int) - (a : Int))).toNat]? = some [.int .i64 ks[k]] := by
        rw [wrapI (by omega) (by omega), show a + ((k : Int) - (a : Int)).toNat = 0 + (k : Int).toNat by omega]
        exact intsR h2
      have hm1 := mapR (f := ntR) h1
      rw [show a + cnt - k = (a + cnt - (k + 1)) + 1 by omega] at hv hw
      rw [evt_cons h1 h2, join_ref (ks := ks) X hN sg hnx hk.1 (by omega) h1] at hv
      rw [nxt_cons h2] at hw
      have hfit := fit_of (NN.fit _ (List.getElem_mem h1))
      generalize n[k] = nn at hk1 hm1 hv hfit
      generalize ks[k] = v at hk1 hv hw
      obtain ⟨ne, nc, np, nf, nt⟩ := nn
      replace hm1 : (n.map ntR)[0 + (k : Int).toNat]? = some [.int .i64 ne, .int .i64 nc, .int .i64 np, .int .i64 nf, .int .i64 nt] := hm1
      unfold ntFit at hfit
      simp only at hfit hv
      by_cases c1 : v < 1 ∨ (x.lo.length : Int) < v
      · rw [if_pos c1] at hv
        simp only at hv
        (repeat' (first | exact rfl | ((conv => whnf); first | refine optS hk1 ?_ | refine optS hm1 ?_ | exact rfl | exact ⟨rfl, rfl⟩ | refine ⟨(by kernel_rfl : drawOk _ _ _ _ = true), ?_⟩ | refine ⟨(by kernel_rfl : planOk _ _ _ _ = true), ?_⟩ | refine ⟨rfl, ?_⟩ | refine ⟨by (first | omega | (simp (disch := omega) only [wrapI]; omega) | (simp (disch := omega) only [wrapI]; simp; omega) | (simp; omega)), ?_⟩ | (intro ep) | (refine ifB (fun hb => ?_) (fun hb => ?_) <;> (try simp only [decide_eq_true_eq, decide_eq_false_iff_not, beq_iff_eq, beq_eq_false_iff_ne, bne_iff_ne, bne_eq_false_iff_eq, ne_eq, not_false_eq_true, not_true_eq_false, Bool.not_eq_true, Bool.not_eq_true', Bool.not_eq_false', Int.not_lt, Int.not_le] at hb) <;> (try simp (disch := omega) only [wrapI] at hb) <;> (try (exfalso; omega))) | fail)))
        all_goals (conv => whnf)
        all_goals exact back_of ⟨k, hv⟩ ⟨by (first | exact rfl | (simp (disch := omega) only [wrapI]; exact rfl)), rfl⟩
      rw [if_neg c1] at hv
      have hj : (v - 1).toNat < x.lo.length := by omega
      have r1 := arr_wr (s := nx) (v := v) (by omega) (by rw [hnx.len]; omega) (by rw [hnx.len]; omega)
      have r2 := arr_wr (s := [s0, s1, s2, s3, s4]) (v := v) (by omega) (by simp only [List.length_cons, List.length_nil]; omega) (by simp only [List.length_cons, List.length_nil]; omega)
      have hw' : IntKind.i64.wrap (v - 1) = (((v - 1).toNat : Nat) : Int) := by rw [wrapI (by omega) (by omega)]; omega
      have hlo : (ints x.lo)[0 + (IntKind.i64.wrap (v - 1)).toNat]? = some [.int .i64 (x.lo.getD (v - 1).toNat 0)] := by
        rw [hw', intsR hj, List.getD_eq_getElem?_getD, List.getElem?_eq_getElem hj]; rfl
      have hhi : (ints x.hi)[0 + (IntKind.i64.wrap (v - 1)).toNat]? = some [.int .i64 (x.hi.getD (v - 1).toNat 0)] := by
        have hj2 : (v - 1).toNat < x.hi.length := by rw [X.hi]; exact hj
        rw [hw', intsR hj2, List.getD_eq_getElem?_getD, List.getElem?_eq_getElem hj2]; rfl
      have hset := hnx.set hk.1 hj L5
      have hbd := hnx.bd (v - 1).toNat (by omega)
      have hold := hnx.old (v - 1).toNat (by omega)
      have hnl := hnx.len
      generalize x.lo.getD (v - 1).toNat 0 = lk at hlo hv
      generalize x.hi.getD (v - 1).toNat 0 = hk' at hhi hv
      generalize nx.getD (v - 1).toNat 0 = z at r1 hbd hold hv
      generalize [s0, s1, s2, s3, s4].getD (v - 1).toNat 0 = zs at r2 hold
      have hv0 : 1 ≤ v ∧ v ≤ 5 := by omega
      by_cases c2 : np < lk ∨ hk' < np
      · rw [if_pos c2] at hv
        simp only at hv
        (repeat' (first | exact rfl | ((conv => whnf); first | refine optS hk1 ?_ | refine optS hm1 ?_ | refine optS hlo ?_ | refine optS hhi ?_ | exact rfl | exact ⟨rfl, rfl⟩ | refine ⟨(by kernel_rfl : drawOk _ _ _ _ = true), ?_⟩ | refine ⟨(by kernel_rfl : planOk _ _ _ _ = true), ?_⟩ | refine ⟨rfl, ?_⟩ | refine ⟨by (first | omega | (simp (disch := omega) only [wrapI]; omega) | (simp (disch := omega) only [wrapI]; simp; omega) | (simp; omega)), ?_⟩ | (intro ep) | (refine ifB (fun hb => ?_) (fun hb => ?_) <;> (try simp only [decide_eq_true_eq, decide_eq_false_iff_not, beq_iff_eq, beq_eq_false_iff_ne, bne_iff_ne, bne_eq_false_iff_eq, ne_eq, not_false_eq_true, not_true_eq_false, Bool.not_eq_true, Bool.not_eq_true', Bool.not_eq_false', Int.not_lt, Int.not_le] at hb) <;> (try simp (disch := omega) only [wrapI] at hb) <;> (try (exfalso; omega))) | fail)))
        all_goals (conv => whnf)
        all_goals exact back_of ⟨k, hv⟩ ⟨by (first | exact rfl | (simp (disch := omega) only [wrapI]; exact rfl)), rfl⟩
      rw [if_neg c2] at hv
      by_cases c3 : (a : Int) < z
      · rw [if_pos c3] at hv
        simp only at hv
        (repeat' (first | exact rfl | ((conv => whnf); first | refine optS hk1 ?_ | refine optS hm1 ?_ | refine optS hlo ?_ | refine optS hhi ?_ | refine optA r1 ?_ | exact rfl | exact ⟨rfl, rfl⟩ | refine ⟨(by kernel_rfl : drawOk _ _ _ _ = true), ?_⟩ | refine ⟨(by kernel_rfl : planOk _ _ _ _ = true), ?_⟩ | refine ⟨rfl, ?_⟩ | refine ⟨by (first | omega | (simp (disch := omega) only [wrapI]; omega) | (simp (disch := omega) only [wrapI]; simp; omega) | (simp; omega)), ?_⟩ | (intro ep) | (refine ifB (fun hb => ?_) (fun hb => ?_) <;> (try simp only [decide_eq_true_eq, decide_eq_false_iff_not, beq_iff_eq, beq_eq_false_iff_ne, bne_iff_ne, bne_eq_false_iff_eq, ne_eq, not_false_eq_true, not_true_eq_false, Bool.not_eq_true, Bool.not_eq_true', Bool.not_eq_false', Int.not_lt, Int.not_le] at hb) <;> (try simp (disch := omega) only [wrapI] at hb) <;> (try (exfalso; omega))) | fail)))
        all_goals (conv => whnf)
        all_goals exact back_of ⟨k, hv⟩ ⟨by (first | exact rfl | (simp (disch := omega) only [wrapI]; exact rfl)), rfl⟩
      rw [if_neg c3] at hv
      have ez : z = zs := hold (by omega)
      subst ez
      have hstep : ∀ (d : Int), 0 ≤ d ∧ d ≤ 127 → evt x (lookS n (nx.set (v - 1).toNat ((k : Int) + 1))) (m + d) (k + 1) (a + cnt - (k + 1)) (n.drop (k + 1)) (ks.drop (k + 1)) = E →
          (a ≤ k + 1 ∧ k + 1 ≤ a + cnt) ∧ NxOk x.lo.length [s0, s1, s2, s3, s4] a (k + 1) (nx.set (v - 1).toNat ((k : Int) + 1)) ∧ (0 ≤ m + d ∧ m + d ≤ 127 * ((k + 1 : Nat) : Int)) ∧ evt x (lookS n (nx.set (v - 1).toNat ((k : Int) + 1))) (m + d) (k + 1) (a + cnt - (k + 1)) (n.drop (k + 1)) (ks.drop (k + 1)) = E ∧ nxt (nx.set (v - 1).toNat ((k : Int) + 1)) (k + 1) (a + cnt - (k + 1)) (ks.drop (k + 1)) = NX :=
        fun d hd he => ⟨by omega, hset, by omega, he, hw⟩
      clear hset
      by_cases c4 : 0 < z
      · have hzl : (z - 1).toNat < n.length := by omega
        have hzw : IntKind.i64.wrap (z - 1) = (((z - 1).toNat : Nat) : Int) := by rw [wrapI (by omega) (by omega)]; omega
        have hm2 : (n.map ntR)[0 + (IntKind.i64.wrap (z - 1)).toNat]? = some (ntR n[(z - 1).toNat]) := by rw [hzw]; exact mapR hzl
        have hlk : look n z = n[(z - 1).toNat] := by unfold look; rw [if_neg (by omega), List.getElem?_eq_getElem hzl]; rfl
        rw [hlk] at hv
        have hf2 := fit_of (NN.fit _ (List.getElem_mem hzl))
        generalize n[(z - 1).toNat] = b at hm2 hv hf2
        obtain ⟨be, bc, bp, bf, bt⟩ := b
        replace hm2 : (n.map ntR)[0 + (IntKind.i64.wrap (z - 1)).toNat]? = some [.int .i64 be, .int .i64 bc, .int .i64 bp, .int .i64 bf, .int .i64 bt] := hm2
        unfold ntFit at hf2
        simp only at hf2 hv
        have hgap := X.gap
        by_cases c5 : nf ≤ bt + x.gap
        · rw [if_pos ⟨c4, c5⟩] at hv
          have hdb := dst_bd (p := np) (q := bp) (by omega) (by omega)
          have w74 : PRet C.P 74 [.int .i64 (IntKind.i64.wrap (np - bp))] (.int .i64 (dst np bp)) := by
            have := size74 (np - bp) (by omega)
            rw [dst_size] at this
            rw [wrapI (by omega) (by omega)]; exact this
          generalize dst np bp = d at w74 hv hdb
          by_cases c6 : x.leap < d
          · rw [if_pos c6] at hv
            simp only at hv
            (repeat' (first | exact rfl | ((conv => whnf); first | refine optS hk1 ?_ | refine optS hm1 ?_ | refine optA r1 ?_ | refine optA r2 ?_ | refine optS hlo ?_ | refine optS hhi ?_ | refine optS hm2 ?_ | refine ⟨_, w74, ?_⟩ | exact rfl | exact ⟨rfl, rfl⟩ | refine ⟨(by kernel_rfl : drawOk _ _ _ _ = true), ?_⟩ | refine ⟨(by kernel_rfl : planOk _ _ _ _ = true), ?_⟩ | refine ⟨rfl, ?_⟩ | refine ⟨by (first | omega | (simp (disch := omega) only [wrapI]; omega) | (simp (disch := omega) only [wrapI]; simp; omega) | (simp; omega)), ?_⟩ | (intro ep) | (refine ifB (fun hb => ?_) (fun hb => ?_) <;> (try simp only [decide_eq_true_eq, decide_eq_false_iff_not, beq_iff_eq, beq_eq_false_iff_ne, bne_iff_ne, bne_eq_false_iff_eq, ne_eq, not_false_eq_true, not_true_eq_false, Bool.not_eq_true, Bool.not_eq_true', Bool.not_eq_false', Int.not_lt, Int.not_le] at hb) <;> (try simp (disch := omega) only [wrapI] at hb) <;> (try (exfalso; omega))) | fail)))
            all_goals (conv => whnf)
            all_goals exact back_of ⟨k, hv⟩ ⟨by (first | exact rfl | (simp (disch := omega) only [wrapI]; exact rfl)), rfl⟩
          · rw [if_neg c6] at hv
            simp only at hv
            have hq := hstep d hdb hv
            clear hstep
            clear hold
            (repeat' (first | exact rfl | ((conv => whnf); first | refine optS hk1 ?_ | refine optS hm1 ?_ | refine optA r1 ?_ | refine optA r2 ?_ | refine optS hlo ?_ | refine optS hhi ?_ | refine optS hm2 ?_ | refine ⟨_, w74, ?_⟩ | exact rfl | exact ⟨rfl, rfl⟩ | refine ⟨(by kernel_rfl : drawOk _ _ _ _ = true), ?_⟩ | refine ⟨(by kernel_rfl : planOk _ _ _ _ = true), ?_⟩ | refine ⟨rfl, ?_⟩ | refine ⟨by (first | omega | (simp (disch := omega) only [wrapI]; omega) | (simp (disch := omega) only [wrapI]; simp; omega) | (simp; omega)), ?_⟩ | (intro ep) | (refine ifB (fun hb => ?_) (fun hb => ?_) <;> (try simp only [decide_eq_true_eq, decide_eq_false_iff_not, beq_iff_eq, beq_eq_false_iff_ne, bne_iff_ne, bne_eq_false_iff_eq, ne_eq, not_false_eq_true, not_true_eq_false, Bool.not_eq_true, Bool.not_eq_true', Bool.not_eq_false', Int.not_lt, Int.not_le] at hb) <;> (try simp (disch := omega) only [wrapI] at hb) <;> (try (exfalso; omega))) | fail)))
            all_goals
              clear hb
              obtain ⟨n0, n1, n2, n3, n4, rfl⟩ := l5 hnl
              have h5 : v = 1 ∨ v = 2 ∨ v = 3 ∨ v = 4 ∨ v = 5 := by omega
              rcases h5 with rfl | rfl | rfl | rfl | rfl
              all_goals
                (repeat' (first | exact rfl | ((conv => whnf); first | exact rfl | exact ⟨rfl, rfl⟩ | refine ⟨(by kernel_rfl : drawOk _ _ _ _ = true), ?_⟩ | refine ⟨(by kernel_rfl : planOk _ _ _ _ = true), ?_⟩ | refine ⟨rfl, ?_⟩ | refine ⟨by (first | omega | (simp (disch := omega) only [wrapI]; omega) | (simp (disch := omega) only [wrapI]; simp; omega) | (simp; omega)), ?_⟩ | (intro ep) | fail)))
                all_goals (conv => whnf)
                exact back_of ⟨(k + 1, _, m + d), hq⟩ ⟨by (first | exact rfl | (simp (disch := omega) only [wrapI]; exact rfl)), by (first | exact rfl | (simp (disch := omega) only [wrapI]; exact rfl)), by simp only; omega⟩
        · rw [if_neg (fun y => c5 y.2)] at hv
          simp only at hv
          have hq := hstep 0 (by omega) hv
          simp only [Int.add_zero] at hq
          clear hstep
          clear hold
          (repeat' (first | exact rfl | ((conv => whnf); first | refine optS hk1 ?_ | refine optS hm1 ?_ | refine optA r1 ?_ | refine optA r2 ?_ | refine optS hlo ?_ | refine optS hhi ?_ | refine optS hm2 ?_ | refine ⟨_, w74, ?_⟩ | exact rfl | exact ⟨rfl, rfl⟩ | refine ⟨(by kernel_rfl : drawOk _ _ _ _ = true), ?_⟩ | refine ⟨(by kernel_rfl : planOk _ _ _ _ = true), ?_⟩ | refine ⟨rfl, ?_⟩ | refine ⟨by (first | omega | (simp (disch := omega) only [wrapI]; omega) | (simp (disch := omega) only [wrapI]; simp; omega) | (simp; omega)), ?_⟩ | (intro ep) | (refine ifB (fun hb => ?_) (fun hb => ?_) <;> (try simp only [decide_eq_true_eq, decide_eq_false_iff_not, beq_iff_eq, beq_eq_false_iff_ne, bne_iff_ne, bne_eq_false_iff_eq, ne_eq, not_false_eq_true, not_true_eq_false, Bool.not_eq_true, Bool.not_eq_true', Bool.not_eq_false', Int.not_lt, Int.not_le] at hb) <;> (try simp (disch := omega) only [wrapI] at hb) <;> (try (exfalso; omega))) | fail)))
          all_goals
            obtain ⟨n0, n1, n2, n3, n4, rfl⟩ := l5 hnl
            have h5 : v = 1 ∨ v = 2 ∨ v = 3 ∨ v = 4 ∨ v = 5 := by omega
            rcases h5 with rfl | rfl | rfl | rfl | rfl
            all_goals
              (repeat' (first | exact rfl | ((conv => whnf); first | exact rfl | exact ⟨rfl, rfl⟩ | refine ⟨(by kernel_rfl : drawOk _ _ _ _ = true), ?_⟩ | refine ⟨(by kernel_rfl : planOk _ _ _ _ = true), ?_⟩ | refine ⟨rfl, ?_⟩ | refine ⟨by (first | omega | (simp (disch := omega) only [wrapI]; omega) | (simp (disch := omega) only [wrapI]; simp; omega) | (simp; omega)), ?_⟩ | (intro ep) | fail)))
              all_goals (conv => whnf)
              exact back_of ⟨(k + 1, _, m), hq⟩ ⟨by (first | exact rfl | (simp (disch := omega) only [wrapI]; exact rfl)), by (first | exact rfl | (simp (disch := omega) only [wrapI]; exact rfl)), by simp only; omega⟩
      · rw [if_neg (fun y => c4 y.1)] at hv
        simp only at hv
        have hq := hstep 0 (by omega) hv
        simp only [Int.add_zero] at hq
        clear hstep
        clear hold
        have hm2 := hm1
        have w74 := size74 0 (by omega)
        (repeat' (first | exact rfl | ((conv => whnf); first | refine optS hk1 ?_ | refine optS hm1 ?_ | refine optA r1 ?_ | refine optA r2 ?_ | refine optS hlo ?_ | refine optS hhi ?_ | refine optS hm2 ?_ | refine ⟨_, w74, ?_⟩ | exact rfl | exact ⟨rfl, rfl⟩ | refine ⟨(by kernel_rfl : drawOk _ _ _ _ = true), ?_⟩ | refine ⟨(by kernel_rfl : planOk _ _ _ _ = true), ?_⟩ | refine ⟨rfl, ?_⟩ | refine ⟨by (first | omega | (simp (disch := omega) only [wrapI]; omega) | (simp (disch := omega) only [wrapI]; simp; omega) | (simp; omega)), ?_⟩ | (intro ep) | (refine ifB (fun hb => ?_) (fun hb => ?_) <;> (try simp only [decide_eq_true_eq, decide_eq_false_iff_not, beq_iff_eq, beq_eq_false_iff_ne, bne_iff_ne, bne_eq_false_iff_eq, ne_eq, not_false_eq_true, not_true_eq_false, Bool.not_eq_true, Bool.not_eq_true', Bool.not_eq_false', Int.not_lt, Int.not_le] at hb) <;> (try simp (disch := omega) only [wrapI] at hb) <;> (try (exfalso; omega))) | fail)))
        all_goals
          obtain ⟨n0, n1, n2, n3, n4, rfl⟩ := l5 hnl
          have h5 : v = 1 ∨ v = 2 ∨ v = 3 ∨ v = 4 ∨ v = 5 := by omega
          rcases h5 with rfl | rfl | rfl | rfl | rfl
          all_goals
            (repeat' (first | exact rfl | ((conv => whnf); first | exact rfl | exact ⟨rfl, rfl⟩ | refine ⟨(by kernel_rfl : drawOk _ _ _ _ = true), ?_⟩ | refine ⟨(by kernel_rfl : planOk _ _ _ _ = true), ?_⟩ | refine ⟨rfl, ?_⟩ | refine ⟨by (first | omega | (simp (disch := omega) only [wrapI]; omega) | (simp (disch := omega) only [wrapI]; simp; omega) | (simp; omega)), ?_⟩ | (intro ep) | fail)))
            all_goals (conv => whnf)
            exact back_of ⟨(k + 1, _, m), hq⟩ ⟨by (first | exact rfl | (simp (disch := omega) only [wrapI]; exact rfl)), by (first | exact rfl | (simp (disch := omega) only [wrapI]; exact rfl)), by simp only; omega⟩
    · simp only [decide_eq_false_iff_not] at g1
      have hk2 : k = a + cnt := by omega
      subst hk2
      rw [Nat.sub_self, evt] at hv
      rw [Nat.sub_self, nxt] at hw
      (repeat' (first | exact rfl | ((conv => whnf); first | exact rfl | exact ⟨rfl, rfl⟩ | refine ⟨(by kernel_rfl : drawOk _ _ _ _ = true), ?_⟩ | refine ⟨(by kernel_rfl : planOk _ _ _ _ = true), ?_⟩ | refine ⟨rfl, ?_⟩ | refine ⟨by (first | omega | (simp (disch := omega) only [wrapI]; omega) | (simp (disch := omega) only [wrapI]; simp; omega) | (simp; omega)), ?_⟩ | (intro ep) | fail)))
      all_goals (conv => whnf)
      exact back_of ⟨(nx, m), hnx, by simp only; omega, hv, hw⟩ ⟨rfl, rfl, rfl⟩
  · rintro ⟨j, hj⟩
    (repeat' (first | ((conv => whnf); first | exact rfl | exact ⟨rfl, rfl⟩ | refine ⟨(by kernel_rfl : drawOk _ _ _ _ = true), ?_⟩ | refine ⟨(by kernel_rfl : planOk _ _ _ _ = true), ?_⟩ | refine ⟨rfl, ?_⟩ | refine ⟨by (first | omega | (simp (disch := omega) only [wrapI]; omega) | (simp (disch := omega) only [wrapI]; simp; omega) | (simp; omega)), ?_⟩ | (intro ep) | fail)))
    all_goals (rw [hV]; subst hj; exact rfl)
  · rintro ⟨⟨nx, m⟩, hnx, hm, hv, hw⟩
    simp only at hnx hm hv hw
    subst hw
    have hnl := hnx.len
    have hm0 := mapR (f := ntR) ha
    have hnb0 := NN.fit _ (List.getElem_mem ha)
    generalize hna : n[a] = na at hm0 hnb0
    obtain ⟨ae, ac, ap, t, at'⟩ := na
    replace hm0 : (n.map ntR)[0 + (a : Int).toNat]? = some [.int .i64 ae, .int .i64 ac, .int .i64 ap, .int .i64 t, .int .i64 at'] := hm0
    have ht0 : 0 ≤ t := by unfold ntBad at hnb0; simp only at hnb0; omega
    clear hnb0
    subst hv
    simp only at hV
    obtain ⟨st, hst⟩ : ∃ st, st = lookS n nx := ⟨_, rfl⟩
    have hcr : rA st t x.lo.length x.lo.length = crs st t := rA_crs ht0 L1 L5 (fun k h5 hk => by
      rw [hst, lookS_get n nx h5, hnx.out k h5 hk]; rfl)
    have hcb := crs_bd st t
    have hget : ∀ (i : Nat), i < 5 → (nx.getD i 0 = 0 ∧ st.get i = nt0) ∨ (1 ≤ nx.getD i 0 ∧ ∃ h : (nx.getD i 0 - 1).toNat < n.length, st.get i = n[(nx.getD i 0 - 1).toNat]) := fun i hi => by
      have hb := hnx.bd i hi
      rw [hst, lookS_get n nx hi]
      by_cases hz : nx.getD i 0 = 0
      · exact .inl ⟨hz, by rw [hz]; rfl⟩
      · have hzl : (nx.getD i 0 - 1).toNat < n.length := by omega
        exact .inr ⟨by omega, hzl, by unfold look; rw [if_neg hz, List.getElem?_eq_getElem hzl]; rfl⟩
    have hbd := hnx.bd
    (repeat' (first | ((conv => whnf); first | exact rfl | exact ⟨rfl, rfl⟩ | refine ⟨(by kernel_rfl : drawOk _ _ _ _ = true), ?_⟩ | refine ⟨(by kernel_rfl : planOk _ _ _ _ = true), ?_⟩ | refine ⟨rfl, ?_⟩ | refine ⟨by (first | omega | (simp (disch := omega) only [wrapI]; omega) | (simp (disch := omega) only [wrapI]; simp; omega) | (simp; omega)), ?_⟩ | (intro ep) | fail)))
    all_goals (conv => whnf)
    refine loopX ok mixed (A := A58) [1, 2, 3, 6, 10, 12, 16, 17, 23, 24] [0, 1, 2, 3] (S := { i : Nat // i ≤ x.lo.length })
      (fr := fun i => frOf 0 204 [(1, ntsA n), (2, .int .i64 (a : Int)), (3, .int .i64 ((a + cnt : Nat) : Int)), (6, .optr (.s 0) e0 5 0 0), (10, .optr (.s 1) e1 5 0 0), (12, .optr (.s 2) e2 5 0 0), (16, .optr (.s 3) e3 5 0 0), (17, .int .i64 m), (23, .int .i64 (rA st t x.lo.length i.1)), (24, .int .i64 (i.1 : Int))])
      (h := fun i => ⟨[.vec e0 [lmR x], .vec e1 [arr [s0, s1, s2, s3, s4]], .vec e2 [arr [0, 0, 0, 0, 0]], .vec e3 [arr nx], .hole, .hole, .hole, .hole], []⟩) (μ := fun i => x.lo.length - i.1) ⟨0, by omega⟩ ?_ ?_
      [3, 6, 10, 12, 16, 17, 23] [0, 1, 2, 3] (S' := Unit) (X := fun _ => 2)
      (frX := fun i => frOf 0 204 [(3, .int .i64 ((a + cnt : Nat) : Int)), (6, .optr (.s 0) e0 5 0 0), (10, .optr (.s 1) e1 5 0 0), (12, .optr (.s 2) e2 5 0 0), (16, .optr (.s 3) e3 5 0 0), (17, .int .i64 m), (23, .int .i64 (crs st t))])
      (hX := fun i => ⟨[.vec e0 [lmR x], .vec e1 [arr [s0, s1, s2, s3, s4]], .vec e2 [arr [0, 0, 0, 0, 0]], .vec e3 [arr nx], .hole, .hole, .hole, .hole], []⟩) (R := fun _ _ => False) ?_ (fun _ _ h => h.elim) ?_
    · exact rfl
    · exact rfl
    · rintro ⟨i, hi⟩
      have hA := rA_bd st t x.lo.length L5 i
      show aexR _ _ _ (frOf 0 204 [(1, ntsA n), (2, .int .i64 (a : Int)), (3, .int .i64 ((a + cnt : Nat) : Int)), (6, .optr (.s 0) e0 5 0 0), (10, .optr (.s 1) e1 5 0 0), (12, .optr (.s 2) e2 5 0 0), (16, .optr (.s 3) e3 5 0 0), (17, .int .i64 m), (23, .int .i64 (rA st t x.lo.length i)), (24, .int .i64 (i : Int))]) ⟨[.vec e0 [lmR x], .vec e1 [arr [s0, s1, s2, s3, s4]], .vec e2 [arr [0, 0, 0, 0, 0]], .vec e3 [arr nx], .hole, .hole, .hole, .hole], []⟩ _
      (repeat' (first | exact rfl | ((conv => whnf); first | exact rfl | exact ⟨rfl, rfl⟩ | refine ⟨(by kernel_rfl : drawOk _ _ _ _ = true), ?_⟩ | refine ⟨(by kernel_rfl : planOk _ _ _ _ = true), ?_⟩ | refine ⟨rfl, ?_⟩ | refine ⟨by (first | omega | (simp (disch := omega) only [wrapI]; omega) | (simp (disch := omega) only [wrapI]; simp; omega) | (simp; omega)), ?_⟩ | (intro ep) | fail)))
      all_goals (conv => whnf)
      refine ifB (fun g1 => ?_) (fun g1 => ?_)
      · simp only [decide_eq_true_eq] at g1
        have hi2 : i < x.lo.length := by omega
        (repeat' (first | exact rfl | ((conv => whnf); first | exact rfl | exact ⟨rfl, rfl⟩ | refine ⟨(by kernel_rfl : drawOk _ _ _ _ = true), ?_⟩ | refine ⟨(by kernel_rfl : planOk _ _ _ _ = true), ?_⟩ | refine ⟨rfl, ?_⟩ | refine ⟨by (first | omega | (simp (disch := omega) only [wrapI]; omega) | (simp (disch := omega) only [wrapI]; simp; omega) | (simp; omega)), ?_⟩ | (intro ep) | fail)))
        all_goals (conv => whnf)
        refine loopX ok mixed (A := A58) [1, 2, 3, 6, 10, 12, 16, 17, 23, 24, 25] [0, 1, 2, 3] (S := { d : Nat // i + 1 + d ≤ x.lo.length })
          (fr := fun d => frOf 0 204 [(1, ntsA n), (2, .int .i64 (a : Int)), (3, .int .i64 ((a + cnt : Nat) : Int)), (6, .optr (.s 0) e0 5 0 0), (10, .optr (.s 1) e1 5 0 0), (12, .optr (.s 2) e2 5 0 0), (16, .optr (.s 3) e3 5 0 0), (17, .int .i64 m), (23, .int .i64 (rA st t x.lo.length i + rB st t i d.1)), (24, .int .i64 (i : Int)), (25, .int .i64 ((i + 1 + d.1 : Nat) : Int))])
          (h := fun d => ⟨[.vec e0 [lmR x], .vec e1 [arr [s0, s1, s2, s3, s4]], .vec e2 [arr [0, 0, 0, 0, 0]], .vec e3 [arr nx], .hole, .hole, .hole, .hole], []⟩) (μ := fun d => x.lo.length - (i + 1 + d.1)) ⟨0, by omega⟩ ?_ ?_
          [1, 2, 3, 6, 10, 12, 16, 17, 23, 24] [0, 1, 2, 3] (S' := Unit) (X := fun _ => 4)
          (frX := fun d => frOf 0 204 [(1, ntsA n), (2, .int .i64 (a : Int)), (3, .int .i64 ((a + cnt : Nat) : Int)), (6, .optr (.s 0) e0 5 0 0), (10, .optr (.s 1) e1 5 0 0), (12, .optr (.s 2) e2 5 0 0), (16, .optr (.s 3) e3 5 0 0), (17, .int .i64 m), (23, .int .i64 (rA st t x.lo.length i + rB st t i (x.lo.length - (i + 1)))), (24, .int .i64 (i : Int))])
          (hX := fun d => ⟨[.vec e0 [lmR x], .vec e1 [arr [s0, s1, s2, s3, s4]], .vec e2 [arr [0, 0, 0, 0, 0]], .vec e3 [arr nx], .hole, .hole, .hole, .hole], []⟩) (R := fun _ _ => False) ?_ (fun _ _ h => h.elim) ?_
        · show maskF 0 _ _ = frOf 0 204 [(1, ntsA n), (2, .int .i64 (a : Int)), (3, .int .i64 ((a + cnt : Nat) : Int)), (6, .optr (.s 0) e0 5 0 0), (10, .optr (.s 1) e1 5 0 0), (12, .optr (.s 2) e2 5 0 0), (16, .optr (.s 3) e3 5 0 0), (17, .int .i64 m), (23, .int .i64 (rA st t x.lo.length i + 0)), (24, .int .i64 (i : Int)), (25, .int .i64 ((i + 1 : Nat) : Int))]
          rw [Int.add_zero]
          (first | exact rfl | (simp (disch := omega) only [wrapI]; exact rfl))
        · exact rfl
        · rintro ⟨d, hd⟩
          have hB := rB_bd st t i d
          obtain ⟨j, hj⟩ : ∃ j, j = i + 1 + d := ⟨_, rfl⟩
          have hT : ∀ z : Int, z = rA st t x.lo.length i + rB st t i d + ind t (st.get i) (st.get j) → z = rA st t x.lo.length i + rB st t i (d + 1) := fun z hz => by
            rw [hz, rB, ← hj]; omega
          show aexR _ _ _ (frOf 0 204 [(1, ntsA n), (2, .int .i64 (a : Int)), (3, .int .i64 ((a + cnt : Nat) : Int)), (6, .optr (.s 0) e0 5 0 0), (10, .optr (.s 1) e1 5 0 0), (12, .optr (.s 2) e2 5 0 0), (16, .optr (.s 3) e3 5 0 0), (17, .int .i64 m), (23, .int .i64 (rA st t x.lo.length i + rB st t i d)), (24, .int .i64 (i : Int)), (25, .int .i64 ((i + 1 + d : Nat) : Int))]) ⟨[.vec e0 [lmR x], .vec e1 [arr [s0, s1, s2, s3, s4]], .vec e2 [arr [0, 0, 0, 0, 0]], .vec e3 [arr nx], .hole, .hole, .hole, .hole], []⟩ _
          rw [← hj]
          rw [← hj] at hd
          generalize hQ : rA st t x.lo.length i + rB st t i d = q at hT
          have hq : 0 ≤ q ∧ q ≤ 30 := by omega
          (repeat' (first | exact rfl | ((conv => whnf); first | exact rfl | exact ⟨rfl, rfl⟩ | refine ⟨(by kernel_rfl : drawOk _ _ _ _ = true), ?_⟩ | refine ⟨(by kernel_rfl : planOk _ _ _ _ = true), ?_⟩ | refine ⟨rfl, ?_⟩ | refine ⟨by (first | omega | (simp (disch := omega) only [wrapI]; omega) | (simp (disch := omega) only [wrapI]; simp; omega) | (simp; omega)), ?_⟩ | (intro ep) | fail)))
          all_goals (conv => whnf)
          refine ifB (fun g2 => ?_) (fun g2 => ?_)
          · simp only [decide_eq_true_eq] at g2
            have hj2 : j < x.lo.length := by omega
            have r1 := arr_at (s := nx) (i := i) (by omega)
            have r2 := arr_at (s := nx) (i := j) (by omega)
            have b1 := hbd i (by omega)
            have b2 := hbd j (by omega)
            have g3 := hget i (by omega)
            have g4 := hget j (by omega)
            clear hA
            clear hB
            clear hQ
            have fin : ∀ z : Int, z = q + ind t (st.get i) (st.get j) → frOf 0 204 [(1, ntsA n), (2, .int .i64 (a : Int)), (3, .int .i64 ((a + cnt : Nat) : Int)), (6, .optr (.s 0) e0 5 0 0), (10, .optr (.s 1) e1 5 0 0), (12, .optr (.s 2) e2 5 0 0), (16, .optr (.s 3) e3 5 0 0), (17, .int .i64 m), (23, .int .i64 z), (24, .int .i64 (i : Int)), (25, .int .i64 ((j + 1 : Nat) : Int))] =
              frOf 0 204 [(1, ntsA n), (2, .int .i64 (a : Int)), (3, .int .i64 ((a + cnt : Nat) : Int)), (6, .optr (.s 0) e0 5 0 0), (10, .optr (.s 1) e1 5 0 0), (12, .optr (.s 2) e2 5 0 0), (16, .optr (.s 3) e3 5 0 0), (17, .int .i64 m), (23, .int .i64 (rA st t x.lo.length i + rB st t i (d + 1))), (24, .int .i64 (i : Int)), (25, .int .i64 ((i + 1 + (d + 1) : Nat) : Int))] := fun z hz => by
              rw [← hT z hz, show i + 1 + (d + 1) = j + 1 by omega]
            clear hT
            generalize nx.getD i 0 = z1 at r1 b1 g3
            generalize nx.getD j 0 = z2 at r2 b2 g4
            rcases g3 with ⟨g3, e3⟩ | ⟨g3, l3, e3⟩
            · rw [e3] at fin
              rw [ind0' ht0, Int.add_zero] at fin
              (repeat' (first | exact rfl | ((conv => whnf); first | refine optA r1 ?_ | refine optA r2 ?_ | refine optS hm1 ?_ | refine optS hm2 ?_ | refine optS hm0 ?_ | exact rfl | refine ⟨(by kernel_rfl : drawOk _ _ _ _ = true), ?_⟩ | (refine ⟨(by kernel_rfl : planOk _ _ _ _ = true), ?_⟩; apply planR_meet; focus (repeat' (first | (rename_i ep1; first | exact ⟨ep1, ep, rfl, rfl⟩ | exact ⟨ep, ep1, rfl, rfl⟩) | ((conv => whnf); first | refine optA r1 ?_ | refine optA r2 ?_ | refine optS hm1 ?_ | refine optS hm2 ?_ | refine optS hm0 ?_ | refine ⟨rfl, ?_⟩ | refine ⟨by (first | omega | (simp (disch := omega) only [wrapI]; omega) | (simp (disch := omega) only [wrapI]; simp; omega) | (simp; omega)), ?_⟩ | (intro ep) | refine ⟨?_, ?_⟩ | refine ⟨?_, ?_, ?_⟩ | fail)))) | refine ⟨rfl, ?_⟩ | refine ⟨by (first | omega | (simp (disch := omega) only [wrapI]; omega) | (simp (disch := omega) only [wrapI]; simp; omega) | (simp; omega)), ?_⟩ | (intro ep) | (refine ifB (fun hb => ?_) (fun hb => ?_) <;> (try simp only [decide_eq_true_eq, decide_eq_false_iff_not, beq_iff_eq, beq_eq_false_iff_ne, bne_iff_ne, bne_eq_false_iff_eq, ne_eq, not_false_eq_true, not_true_eq_false, Bool.not_eq_true, Bool.not_eq_true', Bool.not_eq_false', Int.not_lt, Int.not_le] at hb) <;> (try simp (disch := omega) only [wrapI] at hb) <;> (try (exfalso; omega))) | fail)))
              all_goals (conv => whnf)
              all_goals refine back_of ⟨d + 1, by omega⟩ ⟨?_, rfl, by simp only; omega⟩
              all_goals refine Eq.trans ?_ (fin q rfl)
              all_goals (first | exact rfl | (simp (disch := omega) only [wrapI]; exact rfl))
            rcases g4 with ⟨g4, e4⟩ | ⟨g4, l4, e4⟩
            · rw [e4] at fin
              rw [ind0 ht0, Int.add_zero] at fin
              (repeat' (first | exact rfl | ((conv => whnf); first | refine optA r1 ?_ | refine optA r2 ?_ | refine optS hm1 ?_ | refine optS hm2 ?_ | refine optS hm0 ?_ | exact rfl | refine ⟨(by kernel_rfl : drawOk _ _ _ _ = true), ?_⟩ | (refine ⟨(by kernel_rfl : planOk _ _ _ _ = true), ?_⟩; apply planR_meet; focus (repeat' (first | (rename_i ep1; first | exact ⟨ep1, ep, rfl, rfl⟩ | exact ⟨ep, ep1, rfl, rfl⟩) | ((conv => whnf); first | refine optA r1 ?_ | refine optA r2 ?_ | refine optS hm1 ?_ | refine optS hm2 ?_ | refine optS hm0 ?_ | refine ⟨rfl, ?_⟩ | refine ⟨by (first | omega | (simp (disch := omega) only [wrapI]; omega) | (simp (disch := omega) only [wrapI]; simp; omega) | (simp; omega)), ?_⟩ | (intro ep) | refine ⟨?_, ?_⟩ | refine ⟨?_, ?_, ?_⟩ | fail)))) | refine ⟨rfl, ?_⟩ | refine ⟨by (first | omega | (simp (disch := omega) only [wrapI]; omega) | (simp (disch := omega) only [wrapI]; simp; omega) | (simp; omega)), ?_⟩ | (intro ep) | (refine ifB (fun hb => ?_) (fun hb => ?_) <;> (try simp only [decide_eq_true_eq, decide_eq_false_iff_not, beq_iff_eq, beq_eq_false_iff_ne, bne_iff_ne, bne_eq_false_iff_eq, ne_eq, not_false_eq_true, not_true_eq_false, Bool.not_eq_true, Bool.not_eq_true', Bool.not_eq_false', Int.not_lt, Int.not_le] at hb) <;> (try simp (disch := omega) only [wrapI] at hb) <;> (try (exfalso; omega))) | fail)))
              all_goals (conv => whnf)
              all_goals refine back_of ⟨d + 1, by omega⟩ ⟨?_, rfl, by simp only; omega⟩
              all_goals refine Eq.trans ?_ (fin q rfl)
              all_goals (first | exact rfl | (simp (disch := omega) only [wrapI]; exact rfl))
            rw [e3, e4] at fin
            have hm1 := mapR (f := ntR) l3
            have hm2 := mapR (f := ntR) l4
            have w1 : IntKind.i64.wrap (z1 - 1) = (((z1 - 1).toNat : Nat) : Int) := by rw [wrapI (by omega) (by omega)]; omega
            have w2 : IntKind.i64.wrap (z2 - 1) = (((z2 - 1).toNat : Nat) : Int) := by rw [wrapI (by omega) (by omega)]; omega
            rw [← w1] at hm1
            rw [← w2] at hm2
            generalize n[(z1 - 1).toNat] = u at hm1 fin
            generalize n[(z2 - 1).toNat] = y at hm2 fin
            obtain ⟨ue, uc, up, uf, ut⟩ := u
            obtain ⟨ye, yc, yp, yf, yt⟩ := y
            replace hm1 : (n.map ntR)[0 + (IntKind.i64.wrap (z1 - 1)).toNat]? = some [.int .i64 ue, .int .i64 uc, .int .i64 up, .int .i64 uf, .int .i64 ut] := hm1
            replace hm2 : (n.map ntR)[0 + (IntKind.i64.wrap (z2 - 1)).toNat]? = some [.int .i64 ye, .int .i64 yc, .int .i64 yp, .int .i64 yf, .int .i64 yt] := hm2
            unfold ind at fin
            simp only at fin
            by_cases c1 : t < ut ∧ t < yt ∧ up < yp
            · rw [if_pos c1] at fin
              (repeat' (first | exact rfl | ((conv => whnf); first | refine optA r1 ?_ | refine optA r2 ?_ | refine optS hm1 ?_ | refine optS hm2 ?_ | refine optS hm0 ?_ | exact rfl | refine ⟨(by kernel_rfl : drawOk _ _ _ _ = true), ?_⟩ | (refine ⟨(by kernel_rfl : planOk _ _ _ _ = true), ?_⟩; apply planR_meet; focus (repeat' (first | (rename_i ep1; first | exact ⟨ep1, ep, rfl, rfl⟩ | exact ⟨ep, ep1, rfl, rfl⟩) | ((conv => whnf); first | refine optA r1 ?_ | refine optA r2 ?_ | refine optS hm1 ?_ | refine optS hm2 ?_ | refine optS hm0 ?_ | refine ⟨rfl, ?_⟩ | refine ⟨by (first | omega | (simp (disch := omega) only [wrapI]; omega) | (simp (disch := omega) only [wrapI]; simp; omega) | (simp; omega)), ?_⟩ | (intro ep) | refine ⟨?_, ?_⟩ | refine ⟨?_, ?_, ?_⟩ | fail)))) | refine ⟨rfl, ?_⟩ | refine ⟨by (first | omega | (simp (disch := omega) only [wrapI]; omega) | (simp (disch := omega) only [wrapI]; simp; omega) | (simp; omega)), ?_⟩ | (intro ep) | (refine ifB (fun hb => ?_) (fun hb => ?_) <;> (try simp only [decide_eq_true_eq, decide_eq_false_iff_not, beq_iff_eq, beq_eq_false_iff_ne, bne_iff_ne, bne_eq_false_iff_eq, ne_eq, not_false_eq_true, not_true_eq_false, Bool.not_eq_true, Bool.not_eq_true', Bool.not_eq_false', Int.not_lt, Int.not_le] at hb) <;> (try simp (disch := omega) only [wrapI] at hb) <;> (try (exfalso; omega))) | fail)))
              all_goals (conv => whnf)
              all_goals refine back_of ⟨d + 1, by omega⟩ ⟨?_, rfl, by simp only; omega⟩
              all_goals refine Eq.trans ?_ (fin (q + 1) rfl)
              all_goals (first | exact rfl | (simp (disch := omega) only [wrapI]; exact rfl))
            · rw [if_neg c1, Int.add_zero] at fin
              (repeat' (first | exact rfl | ((conv => whnf); first | refine optA r1 ?_ | refine optA r2 ?_ | refine optS hm1 ?_ | refine optS hm2 ?_ | refine optS hm0 ?_ | exact rfl | refine ⟨(by kernel_rfl : drawOk _ _ _ _ = true), ?_⟩ | (refine ⟨(by kernel_rfl : planOk _ _ _ _ = true), ?_⟩; apply planR_meet; focus (repeat' (first | (rename_i ep1; first | exact ⟨ep1, ep, rfl, rfl⟩ | exact ⟨ep, ep1, rfl, rfl⟩) | ((conv => whnf); first | refine optA r1 ?_ | refine optA r2 ?_ | refine optS hm1 ?_ | refine optS hm2 ?_ | refine optS hm0 ?_ | refine ⟨rfl, ?_⟩ | refine ⟨by (first | omega | (simp (disch := omega) only [wrapI]; omega) | (simp (disch := omega) only [wrapI]; simp; omega) | (simp; omega)), ?_⟩ | (intro ep) | refine ⟨?_, ?_⟩ | refine ⟨?_, ?_, ?_⟩ | fail)))) | refine ⟨rfl, ?_⟩ | refine ⟨by (first | omega | (simp (disch := omega) only [wrapI]; omega) | (simp (disch := omega) only [wrapI]; simp; omega) | (simp; omega)), ?_⟩ | (intro ep) | (refine ifB (fun hb => ?_) (fun hb => ?_) <;> (try simp only [decide_eq_true_eq, decide_eq_false_iff_not, beq_iff_eq, beq_eq_false_iff_ne, bne_iff_ne, bne_eq_false_iff_eq, ne_eq, not_false_eq_true, not_true_eq_false, Bool.not_eq_true, Bool.not_eq_true', Bool.not_eq_false', Int.not_lt, Int.not_le] at hb) <;> (try simp (disch := omega) only [wrapI] at hb) <;> (try (exfalso; omega))) | fail)))
              all_goals (conv => whnf)
              all_goals refine back_of ⟨d + 1, by omega⟩ ⟨?_, rfl, by simp only; omega⟩
              all_goals refine Eq.trans ?_ (fin q rfl)
              all_goals (first | exact rfl | (simp (disch := omega) only [wrapI]; exact rfl))
          · simp only [decide_eq_false_iff_not] at g2
            have ed : d = x.lo.length - (i + 1) := by omega
            clear hT
            (repeat' (first | exact rfl | ((conv => whnf); first | exact rfl | exact ⟨rfl, rfl⟩ | refine ⟨(by kernel_rfl : drawOk _ _ _ _ = true), ?_⟩ | refine ⟨(by kernel_rfl : planOk _ _ _ _ = true), ?_⟩ | refine ⟨rfl, ?_⟩ | refine ⟨by (first | omega | (simp (disch := omega) only [wrapI]; omega) | (simp (disch := omega) only [wrapI]; simp; omega) | (simp; omega)), ?_⟩ | (intro ep) | fail)))
            all_goals (conv => whnf)
            refine back_of () ⟨rfl, ?_, rfl⟩
            rw [← ed, hQ]
            exact rfl
        · rintro ⟨⟩
          (repeat' (first | exact rfl | ((conv => whnf); first | exact rfl | exact ⟨rfl, rfl⟩ | refine ⟨(by kernel_rfl : drawOk _ _ _ _ = true), ?_⟩ | refine ⟨(by kernel_rfl : planOk _ _ _ _ = true), ?_⟩ | refine ⟨rfl, ?_⟩ | refine ⟨by (first | omega | (simp (disch := omega) only [wrapI]; omega) | (simp (disch := omega) only [wrapI]; simp; omega) | (simp; omega)), ?_⟩ | (intro ep) | fail)))
          all_goals (conv => whnf)
          refine back_of ⟨i + 1, by omega⟩ ⟨?_, rfl, by simp only; omega⟩
          (first | exact rfl | (simp (disch := omega) only [wrapI]; exact rfl))
      · simp only [decide_eq_false_iff_not] at g1
        have ei : i = x.lo.length := by omega
        subst ei
        (repeat' (first | exact rfl | ((conv => whnf); first | exact rfl | exact ⟨rfl, rfl⟩ | refine ⟨(by kernel_rfl : drawOk _ _ _ _ = true), ?_⟩ | refine ⟨(by kernel_rfl : planOk _ _ _ _ = true), ?_⟩ | refine ⟨rfl, ?_⟩ | refine ⟨by (first | omega | (simp (disch := omega) only [wrapI]; omega) | (simp (disch := omega) only [wrapI]; simp; omega) | (simp; omega)), ?_⟩ | (intro ep) | fail)))
        all_goals (conv => whnf)
        refine back_of () ⟨rfl, ?_, rfl⟩
        rw [← hcr]
        exact rfl
    · rintro ⟨⟩
      have hcx := X.cross
      rw [← hst, hna] at hV
      simp only at hV
      obtain ⟨n0, n1, n2, n3, n4, rfl⟩ := l5 hnl
      by_cases c6 : x.cross < crs st t
      · rw [if_pos c6] at hV
        (repeat' (first | ((conv => whnf); first | exact rfl | exact ⟨rfl, rfl⟩ | refine ⟨(by kernel_rfl : drawOk _ _ _ _ = true), ?_⟩ | refine ⟨(by kernel_rfl : planOk _ _ _ _ = true), ?_⟩ | refine ⟨rfl, ?_⟩ | refine ⟨by (first | omega | (simp (disch := omega) only [wrapI]; omega) | (simp (disch := omega) only [wrapI]; simp; omega) | (simp; omega)), ?_⟩ | (intro ep) | (refine ifB (fun hb => ?_) (fun hb => ?_) <;> (try simp only [decide_eq_true_eq, decide_eq_false_iff_not, beq_iff_eq, beq_eq_false_iff_ne, bne_iff_ne, bne_eq_false_iff_eq, ne_eq, not_false_eq_true, not_true_eq_false, Bool.not_eq_true, Bool.not_eq_true', Bool.not_eq_false', Int.not_lt, Int.not_le] at hb) <;> (try simp (disch := omega) only [wrapI] at hb) <;> (try (exfalso; omega))) | fail)))
        all_goals (conv => whnf)
        all_goals (rw [hV])
        all_goals (refine congrArg (fun z => AV.tup [.agg (arr [s0, s1, s2, s3, s4]), .int .i64 0, .int .i64 0, .int .i64 z]) (?_ : _ = (a : Int) + cnt - 1))
        all_goals (rw [wrapI (by omega) (by omega)]; omega)
      · rw [if_neg c6] at hV
        (repeat' (first | ((conv => whnf); first | exact rfl | exact ⟨rfl, rfl⟩ | refine ⟨(by kernel_rfl : drawOk _ _ _ _ = true), ?_⟩ | refine ⟨(by kernel_rfl : planOk _ _ _ _ = true), ?_⟩ | refine ⟨rfl, ?_⟩ | refine ⟨by (first | omega | (simp (disch := omega) only [wrapI]; omega) | (simp (disch := omega) only [wrapI]; simp; omega) | (simp; omega)), ?_⟩ | (intro ep) | (refine ifB (fun hb => ?_) (fun hb => ?_) <;> (try simp only [decide_eq_true_eq, decide_eq_false_iff_not, beq_iff_eq, beq_eq_false_iff_ne, bne_iff_ne, bne_eq_false_iff_eq, ne_eq, not_false_eq_true, not_true_eq_false, Bool.not_eq_true, Bool.not_eq_true', Bool.not_eq_false', Int.not_lt, Int.not_le] at hb) <;> (try simp (disch := omega) only [wrapI] at hb) <;> (try (exfalso; omega))) | fail)))
        all_goals (rw [hV]; exact rfl)
end Go.Ab.V
