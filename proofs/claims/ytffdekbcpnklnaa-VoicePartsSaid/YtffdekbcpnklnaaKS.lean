/-
  What is proved here serves the law's text: each part says its own claim and its conditions. No condition is left open.
-/
import Derived.Test.YtffdekbcpnklnaaKR
import Derived.Test.YtffdekbcpnklnaaKM
set_option linter.unusedSimpArgs false
set_option linter.unusedVariables false

/-
  One event, as the document says it. No condition but what valid limits and notes are.
-/
namespace Go.Ab.V
open Go.Proofs

def arr (s : List Int) : List AV := s.map (.int .i64)
theorem arr_at {s : List Int} {i : Nat} (h : i < s.length) : aPart false 1 (0 + (i : Int).toNat * 1) (arr s) = some (.int .i64 (s.getD i 0)) := by
  have e : 0 + (i : Int).toNat * 1 = i := by omega
  rw [e]
  unfold aPart
  rw [if_pos (by unfold arr; rw [List.length_map]; omega)]
  simp [arr, h]
theorem arr_wr {s : List Int} {v : Int} (h1 : 1 ≤ v) (h2 : v ≤ s.length) (h3 : s.length ≤ 5) : aPart false 1 (0 + (IntKind.i64.wrap (v - 1)).toNat * 1) (arr s) = some (.int .i64 (s.getD (v - 1).toNat 0)) := by
  have e : IntKind.i64.wrap (v - 1) = (((v - 1).toNat : Nat) : Int) := by rw [wrapI (by omega) (by omega)]; omega
  rw [e, arr_at (by omega)]
def A74 : Ann := fun _ => {}
theorem size74 (d : Int) (h : -100000 ≤ d ∧ d ≤ 100000) : PRet C.P 74 [.int .i64 d] (.int .i64 (if d < -d then -d else d)) := by
  refine pret_of ok mixed (A := A74) 0 Try.func74 rfl ?_
  (repeat' (first | exact rfl | ((conv => whnf); first | refine ⟨rfl, ?_⟩ | (intro ep))))
  all_goals (refine congrArg (AV.int .i64) ?_; simp (disch := omega) only [wrapI]; simp only [if_true, Int.zero_sub])
theorem dst_size (p q : Int) : (if p - q < -(p - q) then -(p - q) else p - q) = dst p q := by unfold dst; split <;> split <;> omega
theorem evt_nxt {x : Lm} {l : List Nt} {ks : List Int} (hx : LmOk x) (hc : chkN l = 0) {a n : Nat} (sg : SegOk l a n) (hkl : ks.length = l.length) {s : List Int} {d : St × Int} :
    ∀ (c k : Nat) (nx : List Int) (m : Int), NxOk x.lo.length s a k nx → a ≤ k → k + c = a + n → evt x (lookS l nx) m k c (l.drop k) (ks.drop k) = .inr d →
      lookS l (nxt nx k c (ks.drop k)) = d.1 ∧ NxOk x.lo.length s a (a + n) (nxt nx k c (ks.drop k))
  | 0, k, nx, m, h, h1, h2, he => by
    unfold evt at he
    cases he
    unfold nxt
    exact ⟨rfl, by rw [← h2]; exact h⟩
  | c + 1, k, nx, m, h, h1, h2, he => by
    have hkl' : k < l.length := by have := sg.le; omega
    rw [evt_cons hkl' (by omega), join_ref (ks := ks) hx hc sg h h1 (by omega) hkl'] at he
    rw [nxt_cons (by omega)]
    generalize hv : ks[k] = v at he
    have L5 := hx.lo5
    by_cases c1 : v < 1 ∨ (x.lo.length : Int) < v
    · rw [if_pos c1] at he; cases he
    rw [if_neg c1] at he
    have h3 := h.set h1 (j := (v - 1).toNat) (by omega) L5
    split at he
    · cases he
    rename_i d2 hd
    split at hd
    · cases hd
    split at hd
    · cases hd
    have key : d2.2 = lookS l (nx.set (v - 1).toNat ((k : Int) + 1)) := by
      split at hd
      · split at hd
        · cases hd
        · cases hd; rfl
      · cases hd; rfl
    rw [key] at he
    exact evt_nxt hx hc sg hkl c (k + 1) _ _ h3 (by omega) (by omega) he

def A58 : Ann := fun r => match r with
  | 0 => { slots := [(0, 0), (1, 1), (2, 2)] }
  | 1 => { slots := [(1, 3)] }
  | 6 => { slots := [(10, 4)] }
  | 10 => { slots := [(8, 5)] }
  | 25 => { slots := [(14, 6), (15, 7)], plan := some (.one 0 (.one 1 (.one 2 (.one 3 (.one 4 (.one 5 (.one 6 (.one 7 (.one 8 (.one 9 (.br3 10 14 15 (.one 11 (.one 12 (.br3 13 14 15 (.one 14 (.one 15 (.one 16 (.one 17 (.done))))) (.br 13 15 (.one 15 (.one 16 (.one 17 (.done)))) (.br 13 16 (.one 16 (.one 17 (.done))) (.one 13 (.one 17 (.done))))) (.br 13 14 (.one 14 (.one 16 (.one 17 (.done)))) (.br 13 16 (.one 16 (.one 17 (.done))) (.one 13 (.one 17 (.done)))))))) (.br 10 15 (.one 11 (.one 12 (.br 13 15 (.one 15 (.one 16 (.one 17 (.done)))) (.br 13 16 (.one 16 (.one 17 (.done))) (.one 13 (.one 17 (.done))))))) (.br 10 16 (.one 11 (.one 12 (.br 13 16 (.one 16 (.one 17 (.done))) (.one 13 (.one 17 (.done)))))) (.one 10 (.one 11 (.one 12 (.one 13 (.one 17 (.done)))))))) (.br 10 14 (.one 11 (.one 12 (.br 13 14 (.one 14 (.one 16 (.one 17 (.done)))) (.br 13 16 (.one 16 (.one 17 (.done))) (.one 13 (.one 17 (.done))))))) (.br 10 16 (.one 11 (.one 12 (.br 13 16 (.one 16 (.one 17 (.done))) (.one 13 (.one 17 (.done)))))) (.one 10 (.one 11 (.one 12 (.one 13 (.one 17 (.done))))))))))))))))))) }
  | _ => {}
def turnV (x : Lm) (n : List Nt) (ks : List Int) (s : List Int) (a cnt : Nat) : AV := match evt x (lookS n s) 0 a cnt (n.drop a) (ks.drop a) with
  | .inl j => .tup [.agg (arr s), .int .i64 0, .int .i64 0, .int .i64 (j : Int)]
  | .inr d => if x.cross < crs d.1 (frN n a) then .tup [.agg (arr s), .int .i64 0, .int .i64 0, .int .i64 ((a : Int) + cnt - 1)] else
    .tup [.agg (arr (nxt s a cnt (ks.drop a))), .int .i64 (crs d.1 (frN n a)), .int .i64 d.2, .int .i64 (-1)]
theorem l5 {l : List Int} (h : l.length = 5) : ∃ a b c d e, l = [a, b, c, d, e] := by
  match l, h with
  | [a, b, c, d, e], _ => exact ⟨a, b, c, d, e, rfl⟩
set_option maxHeartbeats 16000000 in
set_option maxRecDepth 100000 in
theorem turn58 (x : Lm) (n : List Nt) (ks s : List Int) (a cnt o' c' : Nat) (ho : a = o') (hc' : cnt = c') (X : LmOk x) (hN : chkN n = 0) (sg : SegOk n a cnt) (hkl : ks.length = n.length) (hs : NxOk x.lo.length s a a s) :
    PRet C.P 58 [lmA x, ntsA n, .int .i64 (a : Int), .int .i64 ((a + cnt : Nat) : Int), .agg (arr s), .lslc 1 (ints ks) o' c' false] (turnV x n ks s a cnt) := by
  obtain rfl : o' = a := ho.symm
  obtain rfl : c' = cnt := hc'.symm
  generalize o' = a at *
  generalize c' = cnt at *
  have NN := ntsOk_of hN
  have hlen := NN.len
  have hle := sg.le
  have hpos := sg.pos
  have L5 := X.lo5
  have L1 := X.lo1
  have hxh := X.hi
  have hsl := hs.len
  have ha : a < n.length := by omega
  unfold turnV
  obtain ⟨E, hE⟩ : ∃ E, E = evt x (lookS n s) 0 a cnt (n.drop a) (ks.drop a) := ⟨_, rfl⟩
  rw [← hE]
  rw [frN_at ha]
  obtain ⟨NX, hNX⟩ : ∃ NX, NX = nxt s a cnt (ks.drop a) := ⟨_, rfl⟩
  rw [← hNX]
  obtain ⟨V, hV⟩ : ∃ V, V = (match E with
    | .inl j => AV.tup [.agg (arr s), .int .i64 0, .int .i64 0, .int .i64 (j : Int)]
    | .inr d => if x.cross < crs d.1 n[a].f then AV.tup [.agg (arr s), .int .i64 0, .int .i64 0, .int .i64 ((a : Int) + cnt - 1)] else
      AV.tup [.agg (arr NX), .int .i64 (crs d.1 n[a].f), .int .i64 d.2, .int .i64 (-1)]) := ⟨_, rfl⟩
  refine Eq.mp (congrArg (fun v => PRet C.P 58 _ v) hV) ?_
  have hfin := fun d => evt_nxt (d := d) X hN sg hkl cnt a s 0 hs (Nat.le_refl _) rfl
  obtain ⟨s0, s1, s2, s3, s4, rfl⟩ := l5 hsl
  refine pret_of ok mixed (A := A58) 8 Try.func58 rfl ?_
  (conv => whnf)
  intro e0
  (conv => whnf)
  intro e1
  (conv => whnf)
  intro e2
  (repeat' (first | exact rfl | ((conv => whnf); first | (intro e3) | exact rfl | exact ⟨rfl, rfl⟩ | refine ⟨(by kernel_rfl : drawOk _ _ _ _ = true), ?_⟩ | refine ⟨(by kernel_rfl : planOk _ _ _ _ = true), ?_⟩ | refine ⟨rfl, ?_⟩ | refine ⟨by (first | omega | (simp (disch := omega) only [wrapI]; omega) | (simp (disch := omega) only [wrapI]; simp; omega) | (simp; omega)), ?_⟩ | (intro ep) | fail)))
  all_goals (conv => whnf)
  have hX0 : ∀ v : Int, 1 ≤ v → v ≤ x.lo.length → (v - 1).toNat < 5 := fun v _ _ => by omega
  refine loopY ok mixed (A := A58) [1, 2, 3, 5, 6, 10, 12, 16, 17, 18] [0, 1, 2, 3] (S := { z : Nat × List Int × Int // (a ≤ z.1 ∧ z.1 ≤ a + cnt) ∧ NxOk x.lo.length [s0, s1, s2, s3, s4] a z.1 z.2.1 ∧ (0 ≤ z.2.2 ∧ z.2.2 ≤ 127 * z.1) ∧ evt x (lookS n z.2.1) z.2.2 z.1 (a + cnt - z.1) (n.drop z.1) (ks.drop z.1) = E ∧ nxt z.2.1 z.1 (a + cnt - z.1) (ks.drop z.1) = NX })
    (fr := fun z => frOf 0 204 [(1, ntsA n), (2, .int .i64 (a : Int)), (3, .int .i64 ((a + cnt : Nat) : Int)), (5, .lslc 1 (ints ks) a cnt false), (6, .optr (.s 0) e0 5 0 0), (10, .optr (.s 1) e1 5 0 0), (12, .optr (.s 2) e2 5 0 0), (16, .optr (.s 3) e3 5 0 0), (17, .int .i64 z.1.2.2), (18, .int .i64 (z.1.1 : Int))])
    (h := fun z => ⟨[.vec e0 [lmR x], .vec e1 [arr [s0, s1, s2, s3, s4]], .vec e2 [arr [0, 0, 0, 0, 0]], .vec e3 [arr z.1.2.1], .hole, .hole, .hole, .hole], []⟩) (μ := fun z => a + cnt - z.1.1)
    ⟨(a, [s0, s1, s2, s3, s4], 0), by simp only; omega, hs, by simp only; omega, by simp only; rw [hE, show a + cnt - a = cnt by omega], by simp only; rw [hNX, show a + cnt - a = cnt by omega]⟩ ?_ ?_
    [1, 2, 3, 6, 10, 12, 16, 17] [0, 1, 2, 3] (S' := { z : List Int × Int // NxOk x.lo.length [s0, s1, s2, s3, s4] a (a + cnt) z.1 ∧ (0 ≤ z.2 ∧ z.2 ≤ 127 * (a + cnt)) ∧ Sum.inr (lookS n z.1, z.2) = E ∧ z.1 = NX }) (X := fun _ => 0)
    (frX := fun z => frOf 0 204 [(1, ntsA n), (2, .int .i64 (a : Int)), (3, .int .i64 ((a + cnt : Nat) : Int)), (6, .optr (.s 0) e0 5 0 0), (10, .optr (.s 1) e1 5 0 0), (12, .optr (.s 2) e2 5 0 0), (16, .optr (.s 3) e3 5 0 0), (17, .int .i64 z.1.2)])
    (hX := fun z => ⟨[.vec e0 [lmR x], .vec e1 [arr [s0, s1, s2, s3, s4]], .vec e2 [arr [0, 0, 0, 0, 0]], .vec e3 [arr z.1.1], .hole, .hole, .hole, .hole], []⟩)
    [12, 13, 14, 15] [2] (S2 := { j : Nat // Sum.inl j = E }) (frR := fun j => frOf 0 204 [(12, .optr (.s 2) e2 5 0 0), (13, .int .i64 0), (14, .int .i64 0), (15, .int .i64 (j.1 : Int))])
    (hR := fun j => ⟨[.hole, .hole, .vec e2 [arr [s0, s1, s2, s3, s4]], .hole, .hole, .hole, .hole, .hole], []⟩) ?_ ?_ ?_
  · exact rfl
  · exact rfl
  · rintro ⟨⟨k, nx, m⟩, hk, hnx, hm, hv, hw⟩
    simp only at hk hnx hm hv hw
    show aexR _ _ _ (frOf 0 204 [(1, ntsA n), (2, .int .i64 (a : Int)), (3, .int .i64 ((a + cnt : Nat) : Int)), (5, .lslc 1 (ints ks) a cnt false), (6, .optr (.s 0) e0 5 0 0), (10, .optr (.s 1) e1 5 0 0), (12, .optr (.s 2) e2 5 0 0), (16, .optr (.s 3) e3 5 0 0), (17, .int .i64 m), (18, .int .i64 (k : Int))])
      ⟨[.vec e0 [lmR x], .vec e1 [arr [s0, s1, s2, s3, s4]], .vec e2 [arr [0, 0, 0, 0, 0]], .vec e3 [arr nx], .hole, .hole, .hole, .hole], []⟩ _
    (conv => whnf)
    refine ifB (fun g1 => ?_) (fun g1 => ?_)
    · simp only [decide_eq_true_eq] at g1
      have h1 : k < n.length := by omega
      have h2 : k < ks.length := by omega
      have hk1 : (ints ks)[a + (IntKind.i64.wrap ((k : Int) - (a : Int))).toNat]? = some [.int .i64 ks[k]] := by
        rw [wrapI (by omega) (by omega), show a + ((k : Int) - (a : Int)).toNat = 0 + (k : Int).toNat by omega]
        exact intsR h2
      have hm1 := mapR (f := ntR) h1
      rw [show a + cnt - k = (a + cnt - (k + 1)) + 1 by omega] at hv hw
      rw [evt_cons h1 h2, join_ref (ks := ks) X hN sg hnx hk.1 (by omega) h1] at hv
      rw [nxt_cons h2] at hw
      have hfit := fit_of (NN.fit _ (List.getElem_mem h1))
      generalize n[k] = nn at hk1 hm1 hv hfit
      generalize ks[k] = v at hk1 hv hw
      obtain ⟨ne, nc, np, nf, nt⟩ := nn
      replace hm1 : (n.map ntR)[0 + (k : Int).toNat]? = some [.int .i64 ne, .int .i64 nc, .int .i64 np, .int .i64 nf, .int .i64 nt] := hm1
      unfold ntFit at hfit
      simp only at hfit hv
      by_cases c1 : v < 1 ∨ (x.lo.length : Int) < v
      · rw [if_pos c1] at hv
        simp only at hv
        (repeat' (first | exact rfl | ((conv => whnf); first | refine optS hk1 ?_ | refine optS hm1 ?_ | exact rfl | exact ⟨rfl, rfl⟩ | refine ⟨(by kernel_rfl : drawOk _ _ _ _ = true), ?_⟩ | refine ⟨(by kernel_rfl : planOk _ _ _ _ = true), ?_⟩ | refine ⟨rfl, ?_⟩ | refine ⟨by (first | omega | (simp (disch := omega) only [wrapI]; omega) | (simp (disch := omega) only [wrapI]; simp; omega) | (simp; omega)), ?_⟩ | (intro ep) | (refine ifB (fun hb => ?_) (fun hb => ?_) <;> (try simp only [decide_eq_true_eq, decide_eq_false_iff_not, beq_iff_eq, beq_eq_false_iff_ne, bne_iff_ne, bne_eq_false_iff_eq, ne_eq, not_false_eq_true, not_true_eq_false, Bool.not_eq_true, Bool.not_eq_true', Bool.not_eq_false', Int.not_lt, Int.not_le] at hb) <;> (try simp (disch := omega) only [wrapI] at hb) <;> (try (exfalso; omega))) | fail)))
        all_goals (conv => whnf)
        all_goals exact back_of ⟨k, hv⟩ ⟨by (first | exact rfl | (simp (disch := omega) only [wrapI]; exact rfl)), rfl⟩
      rw [if_neg c1] at hv
      have hj : (v - 1).toNat < x.lo.length := by omega
      have r1 := arr_wr (s := nx) (v := v) (by omega) (by rw [hnx.len]; omega) (by rw [hnx.len]; omega)
      have r2 := arr_wr (s := [s0, s1, s2, s3, s4]) (v := v) (by omega) (by simp only [List.length_cons, List.length_nil]; omega) (by simp only [List.length_cons, List.length_nil]; omega)
      have hw' : IntKind.i64.wrap (v - 1) = (((v - 1).toNat : Nat) : Int) := by rw [wrapI (by omega) (by omega)]; omega
      have hlo : (ints x.lo)[0 + (IntKind.i64.wrap (v - 1)).toNat]? = some [.int .i64 (x.lo.getD (v - 1).toNat 0)] := by
        rw [hw', intsR hj, List.getD_eq_getElem?_getD, List.getElem?_eq_getElem hj]; rfl
      have hhi : (ints x.hi)[0 + (IntKind.i64.wrap (v - 1)).toNat]? = some [.int .i64 (x.hi.getD (v - 1).toNat 0)] := by
        have hj2 : (v - 1).toNat < x.hi.length := by rw [X.hi]; exact hj
        rw [hw', intsR hj2, List.getD_eq_getElem?_getD, List.getElem?_eq_getElem hj2]; rfl
      have hset := hnx.set hk.1 hj L5
      have hbd := hnx.bd (v - 1).toNat (by omega)
      have hold := hnx.old (v - 1).toNat (by omega)
      have hnl := hnx.len
      generalize x.lo.getD (v - 1).toNat 0 = lk at hlo hv
      generalize x.hi.getD (v - 1).toNat 0 = hk' at hhi hv
      generalize nx.getD (v - 1).toNat 0 = z at r1 hbd hold hv
      generalize [s0, s1, s2, s3, s4].getD (v - 1).toNat 0 = zs at r2 hold
      have hv0 : 1 ≤ v ∧ v ≤ 5 := by omega
      by_cases c2 : np < lk ∨ hk' < np
      · rw [if_pos c2] at hv
        simp only at hv
        (repeat' (first | exact rfl | ((conv => whnf); first | refine optS hk1 ?_ | refine optS hm1 ?_ | refine optS hlo ?_ | refine optS hhi ?_ | exact rfl | exact ⟨rfl, rfl⟩ | refine ⟨(by kernel_rfl : drawOk _ _ _ _ = true), ?_⟩ | refine ⟨(by kernel_rfl : planOk _ _ _ _ = true), ?_⟩ | refine ⟨rfl, ?_⟩ | refine ⟨by (first | omega | (simp (disch := omega) only [wrapI]; omega) | (simp (disch := omega) only [wrapI]; simp; omega) | (simp; omega)), ?_⟩ | (intro ep) | (refine ifB (fun hb => ?_) (fun hb => ?_) <;> (try simp only [decide_eq_true_eq, decide_eq_false_iff_not, beq_iff_eq, beq_eq_false_iff_ne, bne_iff_ne, bne_eq_false_iff_eq, ne_eq, not_false_eq_true, not_true_eq_false, Bool.not_eq_true, Bool.not_eq_true', Bool.not_eq_false', Int.not_lt, Int.not_le] at hb) <;> (try simp (disch := omega) only [wrapI] at hb) <;> (try (exfalso; omega))) | fail)))
        all_goals (conv => whnf)
        all_goals exact back_of ⟨k, hv⟩ ⟨by (first | exact rfl | (simp (disch := omega) only [wrapI]; exact rfl)), rfl⟩
      rw [if_neg c2] at hv
      by_cases c3 : (a : Int) < z
      · rw [if_pos c3] at hv
        simp only at hv
        (repeat' (first | exact rfl | ((conv => whnf); first | refine optS hk1 ?_ | refine optS hm1 ?_ | refine optS hlo ?_ | refine optS hhi ?_ | refine optA r1 ?_ | exact rfl | exact ⟨rfl, rfl⟩ | refine ⟨(by kernel_rfl : drawOk _ _ _ _ = true), ?_⟩ | refine ⟨(by kernel_rfl : planOk _ _ _ _ = true), ?_⟩ | refine ⟨rfl, ?_⟩ | refine ⟨by (first | omega | (simp (disch := omega) only [wrapI]; omega) | (simp (disch := omega) only [wrapI]; simp; omega) | (simp; omega)), ?_⟩ | (intro ep) | (refine ifB (fun hb => ?_) (fun hb => ?_) <;> (try simp only [decide_eq_true_eq, decide_eq_false_iff_not, beq_iff_eq, beq_eq_false_iff_ne, bne_iff_ne, bne_eq_false_iff_eq, ne_eq, not_false_eq_true, not_true_eq_false, Bool.not_eq_true, Bool.not_eq_true', Bool.not_eq_false', Int.not_lt, Int.not_le] at hb) <;> (try simp (disch := omega) only [wrapI] at hb) <;> (try (exfalso; omega))) | fail)))
        all_goals (conv => whnf)
        all_goals exact back_of ⟨k, hv⟩ ⟨by (first | exact rfl | (simp (disch := omega) only [wrapI]; exact rfl)), rfl⟩
      rw [if_neg c3] at hv
      have ez : z = zs := hold (by omega)
      subst ez
      have hstep : ∀ (d : Int), 0 ≤ d ∧ d ≤ 127 → evt x (lookS n (nx.set (v - 1).toNat ((k : Int) + 1))) (m + d) (k + 1) (a + cnt - (k + 1)) (n.drop (k + 1)) (ks.drop (k + 1)) = E →
          (a ≤ k + 1 ∧ k + 1 ≤ a + cnt) ∧ NxOk x.lo.length [s0, s1, s2, s3, s4] a (k + 1) (nx.set (v - 1).toNat ((k : Int) + 1)) ∧ (0 ≤ m + d ∧ m + d ≤ 127 * ((k + 1 : Nat) : Int)) ∧ evt x (lookS n (nx.set (v - 1).toNat ((k : Int) + 1))) (m + d) (k + 1) (a + cnt - (k + 1)) (n.drop (k + 1)) (ks.drop (k + 1)) = E ∧ nxt (nx.set (v - 1).toNat ((k : Int) + 1)) (k + 1) (a + cnt - (k + 1)) (ks.drop (k + 1)) = NX :=
        fun d hd he => ⟨by omega, hset, by omega, he, hw⟩
      clear hset
      by_cases c4 : 0 < z
      · have hzl : (z - 1).toNat < n.length := by omega
        have hzw : IntKind.i64.wrap (z - 1) = (((z - 1).toNat : Nat) : Int) := by rw [wrapI (by omega) (by omega)]; omega
        have hm2 : (n.map ntR)[0 + (IntKind.i64.wrap (z - 1)).toNat]? = some (ntR n[(z - 1).toNat]) := by rw [hzw]; exact mapR hzl
        have hlk : look n z = n[(z - 1).toNat] := by unfold look; rw [if_neg (by omega), List.getElem?_eq_getElem hzl]; rfl
        rw [hlk] at hv
        have hf2 := fit_of (NN.fit _ (List.getElem_mem hzl))
        generalize n[(z - 1).toNat] = b at hm2 hv hf2
        obtain ⟨be, bc, bp, bf, bt⟩ := b
        replace hm2 : (n.map ntR)[0 + (IntKind.i64.wrap (z - 1)).toNat]? = some [.int .i64 be, .int .i64 bc, .int .i64 bp, .int .i64 bf, .int .i64 bt] := hm2
        unfold ntFit at hf2
        simp only at hf2 hv
        have hgap := X.gap
        by_cases c5 : nf ≤ bt + x.gap
        · rw [if_pos ⟨c4, c5⟩] at hv
          have hdb := dst_bd (p := np) (q := bp) (by omega) (by omega)
          have w74 : PRet C.P 74 [.int .i64 (IntKind.i64.wrap (np - bp))] (.int .i64 (dst np bp)) := by
            have := size74 (np - bp) (by omega)
            rw [dst_size] at this
            rw [wrapI (by omega) (by omega)]; exact this
          generalize dst np bp = d at w74 hv hdb
          by_cases c6 : x.leap < d
          · rw [if_pos c6] at hv
            simp only at hv
            (repeat' (first | exact rfl | ((conv => whnf); first | refine optS hk1 ?_ | refine optS hm1 ?_ | refine optA r1 ?_ | refine optA r2 ?_ | refine optS hlo ?_ | refine optS hhi ?_ | refine optS hm2 ?_ | refine ⟨_, w74, ?_⟩ | exact rfl | exact ⟨rfl, rfl⟩ | refine ⟨(by kernel_rfl : drawOk _ _ _ _ = true), ?_⟩ | refine ⟨(by kernel_rfl : planOk _ _ _ _ = true), ?_⟩ | refine ⟨rfl, ?_⟩ | refine ⟨by (first | omega | (simp (disch := omega) only [wrapI]; omega) | (simp (disch := omega) only [wrapI]; simp; omega) | (simp; omega)), ?_⟩ | (intro ep) | (refine ifB (fun hb => ?_) (fun hb => ?_) <;> (try simp only [decide_eq_true_eq, decide_eq_false_iff_not, beq_iff_eq, beq_eq_false_iff_ne, bne_iff_ne, bne_eq_false_iff_eq, ne_eq, not_false_eq_true, not_true_eq_false, Bool.not_eq_true, Bool.not_eq_true', Bool.not_eq_false', Int.not_lt, Int.not_le] at hb) <;> (try simp (disch := omega) only [wrapI] at hb) <;> (try (exfalso; omega))) | fail)))
            all_goals (conv => whnf)
            all_goals exact back_of ⟨k, hv⟩ ⟨by (first | exact rfl | (simp (disch := omega) only [wrapI]; exact rfl)), rfl⟩
          · rw [if_neg c6] at hv
            simp only at hv
            have hq := hstep d hdb hv
            clear hstep
            clear hold
            (repeat' (first | exact rfl | ((conv => whnf); first | refine optS hk1 ?_ | refine optS hm1 ?_ | refine optA r1 ?_ | refine optA r2 ?_ | refine optS hlo ?_ | refine optS hhi ?_ | refine optS hm2 ?_ | refine ⟨_, w74, ?_⟩ | exact rfl | exact ⟨rfl, rfl⟩ | refine ⟨(by kernel_rfl : drawOk _ _ _ _ = true), ?_⟩ | refine ⟨(by kernel_rfl : planOk _ _ _ _ = true), ?_⟩ | refine ⟨rfl, ?_⟩ | refine ⟨by (first | omega | (simp (disch := omega) only [wrapI]; omega) | (simp (disch := omega) only [wrapI]; simp; omega) | (simp; omega)), ?_⟩ | (intro ep) | (refine ifB (fun hb => ?_) (fun hb => ?_) <;> (try simp only [decide_eq_true_eq, decide_eq_false_iff_not, beq_iff_eq, beq_eq_false_iff_ne, bne_iff_ne, bne_eq_false_iff_eq, ne_eq, not_false_eq_true, not_true_eq_false, Bool.not_eq_true, Bool.not_eq_true', Bool.not_eq_false', Int.not_lt, Int.not_le] at hb) <;> (try simp (disch := omega) only [wrapI] at hb) <;> (try (exfalso; omega))) | fail)))
            all_goals
              clear hb
              obtain ⟨n0, n1, n2, n3, n4, rfl⟩ := l5 hnl
              have h5 : v = 1 ∨ v = 2 ∨ v = 3 ∨ v = 4 ∨ v = 5 := by omega
              rcases h5 with rfl | rfl | rfl | rfl | rfl
              all_goals
                (repeat' (first | exact rfl | ((conv => whnf); first | exact rfl | exact ⟨rfl, rfl⟩ | refine ⟨(by kernel_rfl : drawOk _ _ _ _ = true), ?_⟩ | refine ⟨(by kernel_rfl : planOk _ _ _ _ = true), ?_⟩ | refine ⟨rfl, ?_⟩ | refine ⟨by (first | omega | (simp (disch := omega) only [wrapI]; omega) | (simp (disch := omega) only [wrapI]; simp; omega) | (simp; omega)), ?_⟩ | (intro ep) | fail)))
                all_goals (conv => whnf)
                exact back_of ⟨(k + 1, _, m + d), hq⟩ ⟨by (first | exact rfl | (simp (disch := omega) only [wrapI]; exact rfl)), by (first | exact rfl | (simp (disch := omega) only [wrapI]; exact rfl)), by simp only; omega⟩
        · rw [if_neg (fun y => c5 y.2)] at hv
          simp only at hv
          have hq := hstep 0 (by omega) hv
          simp only [Int.add_zero] at hq
          clear hstep
          clear hold
          (repeat' (first | exact rfl | ((conv => whnf); first | refine optS hk1 ?_ | refine optS hm1 ?_ | refine optA r1 ?_ | refine optA r2 ?_ | refine optS hlo ?_ | refine optS hhi ?_ | refine optS hm2 ?_ | refine ⟨_, w74, ?_⟩ | exact rfl | exact ⟨rfl, rfl⟩ | refine ⟨(by kernel_rfl : drawOk _ _ _ _ = true), ?_⟩ | refine ⟨(by kernel_rfl : planOk _ _ _ _ = true), ?_⟩ | refine ⟨rfl, ?_⟩ | refine ⟨by (first | omega | (simp (disch := omega) only [wrapI]; omega) | (simp (disch := omega) only [wrapI]; simp; omega) | (simp; omega)), ?_⟩ | (intro ep) | (refine ifB (fun hb => ?_) (fun hb => ?_) <;> (try simp only [decide_eq_true_eq, decide_eq_false_iff_not, beq_iff_eq, beq_eq_false_iff_ne, bne_iff_ne, bne_eq_false_iff_eq, ne_eq, not_false_eq_true, not_true_eq_false, Bool.not_eq_true, Bool.not_eq_true', Bool.not_eq_false', Int.not_lt, Int.not_le] at hb) <;> (try simp (disch := omega) only [wrapI] at hb) <;> (try (exfalso; omega))) | fail)))
          all_goals
            obtain ⟨n0, n1, n2, n3, n4, rfl⟩ := l5 hnl
            have h5 : v = 1 ∨ v = 2 ∨ v = 3 ∨ v = 4 ∨ v = 5 := by omega
            rcases h5 with rfl | rfl | rfl | rfl | rfl
            all_goals
              (repeat' (first | exact rfl | ((conv => whnf); first | exact rfl | exact ⟨rfl, rfl⟩ | refine ⟨(by kernel_rfl : drawOk _ _ _ _ = true), ?_⟩ | refine ⟨(by kernel_rfl : planOk _ _ _ _ = true), ?_⟩ | refine ⟨rfl, ?_⟩ | refine ⟨by (first | omega | (simp (disch := omega) only [wrapI]; omega) | (simp (disch := omega) only [wrapI]; simp; omega) | (simp; omega)), ?_⟩ | (intro ep) | fail)))
              all_goals (conv => whnf)
              exact back_of ⟨(k + 1, _, m), hq⟩ ⟨by (first | exact rfl | (simp (disch := omega) only [wrapI]; exact rfl)), by (first | exact rfl | (simp (disch := omega) only [wrapI]; exact rfl)), by simp only; omega⟩
      · rw [if_neg (fun y => c4 y.1)] at hv
        simp only at hv
        have hq := hstep 0 (by omega) hv
        simp only [Int.add_zero] at hq
        clear hstep
        clear hold
        have hm2 := hm1
        have w74 := size74 0 (by omega)
        (repeat' (first | exact rfl | ((conv => whnf); first | refine optS hk1 ?_ | refine optS hm1 ?_ | refine optA r1 ?_ | refine optA r2 ?_ | refine optS hlo ?_ | refine optS hhi ?_ | refine optS hm2 ?_ | refine ⟨_, w74, ?_⟩ | exact rfl | exact ⟨rfl, rfl⟩ | refine ⟨(by kernel_rfl : drawOk _ _ _ _ = true), ?_⟩ | refine ⟨(by kernel_rfl : planOk _ _ _ _ = true), ?_⟩ | refine ⟨rfl, ?_⟩ | refine ⟨by (first | omega | (simp (disch := omega) only [wrapI]; omega) | (simp (disch := omega) only [wrapI]; simp; omega) | (simp; omega)), ?_⟩ | (intro ep) | (refine ifB (fun hb => ?_) (fun hb => ?_) <;> (try simp only [decide_eq_true_eq, decide_eq_false_iff_not, beq_iff_eq, beq_eq_false_iff_ne, bne_iff_ne, bne_eq_false_iff_eq, ne_eq, not_false_eq_true, not_true_eq_false, Bool.not_eq_true, Bool.not_eq_true', Bool.not_eq_false', Int.not_lt, Int.not_le] at hb) <;> (try simp (disch := omega) only [wrapI] at hb) <;> (try (exfalso; omega))) | fail)))
        all_goals
          obtain ⟨n0, n1, n2, n3, n4, rfl⟩ := l5 hnl
          have h5 : v = 1 ∨ v = 2 ∨ v = 3 ∨ v = 4 ∨ v = 5 := by omega
          rcases h5 with rfl | rfl | rfl | rfl | rfl
          all_goals
            (repeat' (first | exact rfl | ((conv => whnf); first | exact rfl | exact ⟨rfl, rfl⟩ | refine ⟨(by kernel_rfl : drawOk _ _ _ _ = true), ?_⟩ | refine ⟨(by kernel_rfl : planOk _ _ _ _ = true), ?_⟩ | refine ⟨rfl, ?_⟩ | refine ⟨by (first | omega | (simp (disch := omega) only [wrapI]; omega) | (simp (disch := omega) only [wrapI]; simp; omega) | (simp; omega)), ?_⟩ | (intro ep) | fail)))
            all_goals (conv => whnf)
            exact back_of ⟨(k + 1, _, m), hq⟩ ⟨by (first | exact rfl | (simp (disch := omega) only [wrapI]; exact rfl)), by (first | exact rfl | (simp (disch := omega) only [wrapI]; exact rfl)), by simp only; omega⟩
    · simp only [decide_eq_false_iff_not] at g1
      have hk2 : k = a + cnt := by omega
      subst hk2
      rw [Nat.sub_self, evt] at hv
      rw [Nat.sub_self, nxt] at hw
      (repeat' (first | exact rfl | ((conv => whnf); first | exact rfl | exact ⟨rfl, rfl⟩ | refine ⟨(by kernel_rfl : drawOk _ _ _ _ = true), ?_⟩ | refine ⟨(by kernel_rfl : planOk _ _ _ _ = true), ?_⟩ | refine ⟨rfl, ?_⟩ | refine ⟨by (first | omega | (simp (disch := omega) only [wrapI]; omega) | (simp (disch := omega) only [wrapI]; simp; omega) | (simp; omega)), ?_⟩ | (intro ep) | fail)))
      all_goals (conv => whnf)
      exact back_of ⟨(nx, m), hnx, by simp only; omega, hv, hw⟩ ⟨rfl, rfl, rfl⟩
  · rintro ⟨j, hj⟩
    (repeat' (first | ((conv => whnf); first | exact rfl | exact ⟨rfl, rfl⟩ | refine ⟨(by kernel_rfl : drawOk _ _ _ _ = true), ?_⟩ | refine ⟨(by kernel_rfl : planOk _ _ _ _ = true), ?_⟩ | refine ⟨rfl, ?_⟩ | refine ⟨by (first | omega | (simp (disch := omega) only [wrapI]; omega) | (simp (disch := omega) only [wrapI]; simp; omega) | (simp; omega)), ?_⟩ | (intro ep) | fail)))
    all_goals (rw [hV]; subst hj; exact rfl)
  · rintro ⟨⟨nx, m⟩, hnx, hm, hv, hw⟩
    simp only at hnx hm hv hw
    subst hw
    have hnl := hnx.len
    have hm0 := mapR (f := ntR) ha
    have hnb0 := NN.fit _ (List.getElem_mem ha)
    generalize hna : n[a] = na at hm0 hnb0
    obtain ⟨ae, ac, ap, t, at'⟩ := na
    replace hm0 : (n.map ntR)[0 + (a : Int).toNat]? = some [.int .i64 ae, .int .i64 ac, .int .i64 ap, .int .i64 t, .int .i64 at'] := hm0
    have ht0 : 0 ≤ t := by unfold ntBad at hnb0; simp only at hnb0; omega
    clear hnb0
    subst hv
    simp only at hV
    obtain ⟨st, hst⟩ : ∃ st, st = lookS n nx := ⟨_, rfl⟩
    have hcr : rA st t x.lo.length x.lo.length = crs st t := rA_crs ht0 L1 L5 (fun k h5 hk => by
      rw [hst, lookS_get n nx h5, hnx.out k h5 hk]; rfl)
    have hcb := crs_bd st t
    have hget : ∀ (i : Nat), i < 5 → (nx.getD i 0 = 0 ∧ st.get i = nt0) ∨ (1 ≤ nx.getD i 0 ∧ ∃ h : (nx.getD i 0 - 1).toNat < n.length, st.get i = n[(nx.getD i 0 - 1).toNat]) := fun i hi => by
      have hb := hnx.bd i hi
      rw [hst, lookS_get n nx hi]
      by_cases hz : nx.getD i 0 = 0
      · exact .inl ⟨hz, by rw [hz]; rfl⟩
      · have hzl : (nx.getD i 0 - 1).toNat < n.length := by omega
        exact .inr ⟨by omega, hzl, by unfold look; rw [if_neg hz, List.getElem?_eq_getElem hzl]; rfl⟩
    have hbd := hnx.bd
    (repeat' (first | ((conv => whnf); first | exact rfl | exact ⟨rfl, rfl⟩ | refine ⟨(by kernel_rfl : drawOk _ _ _ _ = true), ?_⟩ | refine ⟨(by kernel_rfl : planOk _ _ _ _ = true), ?_⟩ | refine ⟨rfl, ?_⟩ | refine ⟨by (first | omega | (simp (disch := omega) only [wrapI]; omega) | (simp (disch := omega) only [wrapI]; simp; omega) | (simp; omega)), ?_⟩ | (intro ep) | fail)))
    all_goals (conv => whnf)
    refine loopX ok mixed (A := A58) [1, 2, 3, 6, 10, 12, 16, 17, 23, 24] [0, 1, 2, 3] (S := { i : Nat // i ≤ x.lo.length })
      (fr := fun i => frOf 0 204 [(1, ntsA n), (2, .int .i64 (a : Int)), (3, .int .i64 ((a + cnt : Nat) : Int)), (6, .optr (.s 0) e0 5 0 0), (10, .optr (.s 1) e1 5 0 0), (12, .optr (.s 2) e2 5 0 0), (16, .optr (.s 3) e3 5 0 0), (17, .int .i64 m), (23, .int .i64 (rA st t x.lo.length i.1)), (24, .int .i64 (i.1 : Int))])
      (h := fun i => ⟨[.vec e0 [lmR x], .vec e1 [arr [s0, s1, s2, s3, s4]], .vec e2 [arr [0, 0, 0, 0, 0]], .vec e3 [arr nx], .hole, .hole, .hole, .hole], []⟩) (μ := fun i => x.lo.length - i.1) ⟨0, by omega⟩ ?_ ?_
      [3, 6, 10, 12, 16, 17, 23] [0, 1, 2, 3] (S' := Unit) (X := fun _ => 2)
      (frX := fun i => frOf 0 204 [(3, .int .i64 ((a + cnt : Nat) : Int)), (6, .optr (.s 0) e0 5 0 0), (10, .optr (.s 1) e1 5 0 0), (12, .optr (.s 2) e2 5 0 0), (16, .optr (.s 3) e3 5 0 0), (17, .int .i64 m), (23, .int .i64 (crs st t))])
      (hX := fun i => ⟨[.vec e0 [lmR x], .vec e1 [arr [s0, s1, s2, s3, s4]], .vec e2 [arr [0, 0, 0, 0, 0]], .vec e3 [arr nx], .hole, .hole, .hole, .hole], []⟩) (R := fun _ _ => False) ?_ (fun _ _ h => h.elim) ?_
    · exact rfl
    · exact rfl
    · rintro ⟨i, hi⟩
      have hA := rA_bd st t x.lo.length L5 i
      show aexR _ _ _ (frOf 0 204 [(1, ntsA n), (2, .int .i64 (a : Int)), (3, .int .i64 ((a + cnt : Nat) : Int)), (6, .optr (.s 0) e0 5 0 0), (10, .optr (.s 1) e1 5 0 0), (12, .optr (.s 2) e2 5 0 0), (16, .optr (.s 3) e3 5 0 0), (17, .int .i64 m), (23, .int .i64 (rA st t x.lo.length i)), (24, .int .i64 (i : Int))]) ⟨[.vec e0 [lmR x], .vec e1 [arr [s0, s1, s2, s3, s4]], .vec e2 [arr [0, 0, 0, 0, 0]], .vec e3 [arr nx], .hole, .hole, .hole, .hole], []⟩ _
      (repeat' (first | exact rfl | ((conv => whnf); first | exact rfl | exact ⟨rfl, rfl⟩ | refine ⟨(by kernel_rfl : drawOk _ _ _ _ = true), ?_⟩ | refine ⟨(by kernel_rfl : planOk _ _ _ _ = true), ?_⟩ | refine ⟨rfl, ?_⟩ | refine ⟨by (first | omega | (simp (disch := omega) only [wrapI]; omega) | (simp (disch := omega) only [wrapI]; simp; omega) | (simp; omega)), ?_⟩ | (intro ep) | fail)))
      all_goals (conv => whnf)
      refine ifB (fun g1 => ?_) (fun g1 => ?_)
      · simp only [decide_eq_true_eq] at g1
        have hi2 : i < x.lo.length := by omega
        (repeat' (first | exact rfl | ((conv => whnf); first | exact rfl | exact ⟨rfl, rfl⟩ | refine ⟨(by kernel_rfl : drawOk _ _ _ _ = true), ?_⟩ | refine ⟨(by kernel_rfl : planOk _ _ _ _ = true), ?_⟩ | refine ⟨rfl, ?_⟩ | refine ⟨by (first | omega | (simp (disch := omega) only [wrapI]; omega) | (simp (disch := omega) only [wrapI]; simp; omega) | (simp; omega)), ?_⟩ | (intro ep) | fail)))
        all_goals (conv => whnf)
        refine loopX ok mixed (A := A58) [1, 2, 3, 6, 10, 12, 16, 17, 23, 24, 25] [0, 1, 2, 3] (S := { d : Nat // i + 1 + d ≤ x.lo.length })
          (fr := fun d => frOf 0 204 [(1, ntsA n), (2, .int .i64 (a : Int)), (3, .int .i64 ((a + cnt : Nat) : Int)), (6, .optr (.s 0) e0 5 0 0), (10, .optr (.s 1) e1 5 0 0), (12, .optr (.s 2) e2 5 0 0), (16, .optr (.s 3) e3 5 0 0), (17, .int .i64 m), (23, .int .i64 (rA st t x.lo.length i + rB st t i d.1)), (24, .int .i64 (i : Int)), (25, .int .i64 ((i + 1 + d.1 : Nat) : Int))])
          (h := fun d => ⟨[.vec e0 [lmR x], .vec e1 [arr [s0, s1, s2, s3, s4]], .vec e2 [arr [0, 0, 0, 0, 0]], .vec e3 [arr nx], .hole, .hole, .hole, .hole], []⟩) (μ := fun d => x.lo.length - (i + 1 + d.1)) ⟨0, by omega⟩ ?_ ?_
          [1, 2, 3, 6, 10, 12, 16, 17, 23, 24] [0, 1, 2, 3] (S' := Unit) (X := fun _ => 4)
          (frX := fun d => frOf 0 204 [(1, ntsA n), (2, .int .i64 (a : Int)), (3, .int .i64 ((a + cnt : Nat) : Int)), (6, .optr (.s 0) e0 5 0 0), (10, .optr (.s 1) e1 5 0 0), (12, .optr (.s 2) e2 5 0 0), (16, .optr (.s 3) e3 5 0 0), (17, .int .i64 m), (23, .int .i64 (rA st t x.lo.length i + rB st t i (x.lo.length - (i + 1)))), (24, .int .i64 (i : Int))])
          (hX := fun d => ⟨[.vec e0 [lmR x], .vec e1 [arr [s0, s1, s2, s3, s4]], .vec e2 [arr [0, 0, 0, 0, 0]], .vec e3 [arr nx], .hole, .hole, .hole, .hole], []⟩) (R := fun _ _ => False) ?_ (fun _ _ h => h.elim) ?_
        · show maskF 0 _ _ = frOf 0 204 [(1, ntsA n), (2, .int .i64 (a : Int)), (3, .int .i64 ((a + cnt : Nat) : Int)), (6, .optr (.s 0) e0 5 0 0), (10, .optr (.s 1) e1 5 0 0), (12, .optr (.s 2) e2 5 0 0), (16, .optr (.s 3) e3 5 0 0), (17, .int .i64 m), (23, .int .i64 (rA st t x.lo.length i + 0)), (24, .int .i64 (i : Int)), (25, .int .i64 ((i + 1 : Nat) : Int))]
          rw [Int.add_zero]
          (first | exact rfl | (simp (disch := omega) only [wrapI]; exact rfl))
        · exact rfl
        · rintro ⟨d, hd⟩
          have hB := rB_bd st t i d
          obtain ⟨j, hj⟩ : ∃ j, j = i + 1 + d := ⟨_, rfl⟩
          have hT : ∀ z : Int, z = rA st t x.lo.length i + rB st t i d + ind t (st.get i) (st.get j) → z = rA st t x.lo.length i + rB st t i (d + 1) := fun z hz => by
            rw [hz, rB, ← hj]; omega
          show aexR _ _ _ (frOf 0 204 [(1, ntsA n), (2, .int .i64 (a : Int)), (3, .int .i64 ((a + cnt : Nat) : Int)), (6, .optr (.s 0) e0 5 0 0), (10, .optr (.s 1) e1 5 0 0), (12, .optr (.s 2) e2 5 0 0), (16, .optr (.s 3) e3 5 0 0), (17, .int .i64 m), (23, .int .i64 (rA st t x.lo.length i + rB st t i d)), (24, .int .i64 (i : Int)), (25, .int .i64 ((i + 1 + d : Nat) : Int))]) ⟨[.vec e0 [lmR x], .vec e1 [arr [s0, s1, s2, s3, s4]], .vec e2 [arr [0, 0, 0, 0, 0]], .vec e3 [arr nx], .hole, .hole, .hole, .hole], []⟩ _
          rw [← hj]
          rw [← hj] at hd
          generalize hQ : rA st t x.lo.length i + rB st t i d = q at hT
          have hq : 0 ≤ q ∧ q ≤ 30 := by omega
          (repeat' (first | exact rfl | ((conv => whnf); first | exact rfl | exact ⟨rfl, rfl⟩ | refine ⟨(by kernel_rfl : drawOk _ _ _ _ = true), ?_⟩ | refine ⟨(by kernel_rfl : planOk _ _ _ _ = true), ?_⟩ | refine ⟨rfl, ?_⟩ | refine ⟨by (first | omega | (simp (disch := omega) only [wrapI]; omega) | (simp (disch := omega) only [wrapI]; simp; omega) | (simp; omega)), ?_⟩ | (intro ep) | fail)))
          all_goals (conv => whnf)
          refine ifB (fun g2 => ?_) (fun g2 => ?_)
          · simp only [decide_eq_true_eq] at g2
            have hj2 : j < x.lo.length := by omega
            have r1 := arr_at (s := nx) (i := i) (by omega)
            have r2 := arr_at (s := nx) (i := j) (by omega)
            have b1 := hbd i (by omega)
            have b2 := hbd j (by omega)
            have g3 := hget i (by omega)
            have g4 := hget j (by omega)
            clear hA
            clear hB
            clear hQ
            have fin : ∀ z : Int, z = q + ind t (st.get i) (st.get j) → frOf 0 204 [(1, ntsA n), (2, .int .i64 (a : Int)), (3, .int .i64 ((a + cnt : Nat) : Int)), (6, .optr (.s 0) e0 5 0 0), (10, .optr (.s 1) e1 5 0 0), (12, .optr (.s 2) e2 5 0 0), (16, .optr (.s 3) e3 5 0 0), (17, .int .i64 m), (23, .int .i64 z), (24, .int .i64 (i : Int)), (25, .int .i64 ((j + 1 : Nat) : Int))] =
              frOf 0 204 [(1, ntsA n), (2, .int .i64 (a : Int)), (3, .int .i64 ((a + cnt : Nat) : Int)), (6, .optr (.s 0) e0 5 0 0), (10, .optr (.s 1) e1 5 0 0), (12, .optr (.s 2) e2 5 0 0), (16, .optr (.s 3) e3 5 0 0), (17, .int .i64 m), (23, .int .i64 (rA st t x.lo.length i + rB st t i (d + 1))), (24, .int .i64 (i : Int)), (25, .int .i64 ((i + 1 + (d + 1) : Nat) : Int))] := fun z hz => by
              rw [← hT z hz, show i + 1 + (d + 1) = j + 1 by omega]
            clear hT
            generalize nx.getD i 0 = z1 at r1 b1 g3
            generalize nx.getD j 0 = z2 at r2 b2 g4
            rcases g3 with ⟨g3, e3⟩ | ⟨g3, l3, e3⟩
            · rw [e3] at fin
              rw [ind0' ht0, Int.add_zero] at fin
              (repeat' (first | exact rfl | ((conv => whnf); first | refine optA r1 ?_ | refine optA r2 ?_ | refine optS hm1 ?_ | refine optS hm2 ?_ | refine optS hm0 ?_ | exact rfl | refine ⟨(by kernel_rfl : drawOk _ _ _ _ = true), ?_⟩ | (refine ⟨(by kernel_rfl : planOk _ _ _ _ = true), ?_⟩; apply planR_meet; focus (repeat' (first | (rename_i ep1; first | exact ⟨ep1, ep, rfl, rfl⟩ | exact ⟨ep, ep1, rfl, rfl⟩) | ((conv => whnf); first | refine optA r1 ?_ | refine optA r2 ?_ | refine optS hm1 ?_ | refine optS hm2 ?_ | refine optS hm0 ?_ | refine ⟨rfl, ?_⟩ | refine ⟨by (first | omega | (simp (disch := omega) only [wrapI]; omega) | (simp (disch := omega) only [wrapI]; simp; omega) | (simp; omega)), ?_⟩ | (intro ep) | refine ⟨?_, ?_⟩ | refine ⟨?_, ?_, ?_⟩ | fail)))) | refine ⟨rfl, ?_⟩ | refine ⟨by (first | omega | (simp (disch := omega) only [wrapI]; omega) | (simp (disch := omega) only [wrapI]; simp; omega) | (simp; omega)), ?_⟩ | (intro ep) | (refine ifB (fun hb => ?_) (fun hb => ?_) <;> (try simp only [decide_eq_true_eq, decide_eq_false_iff_not, beq_iff_eq, beq_eq_false_iff_ne, bne_iff_ne, bne_eq_false_iff_eq, ne_eq, not_false_eq_true, not_true_eq_false, Bool.not_eq_true, Bool.not_eq_true', Bool.not_eq_false', Int.not_lt, Int.not_le] at hb) <;> (try simp (disch := omega) only [wrapI] at hb) <;> (try (exfalso; omega))) | fail)))
              all_goals (conv => whnf)
              all_goals refine back_of ⟨d + 1, by omega⟩ ⟨?_, rfl, by simp only; omega⟩
              all_goals refine Eq.trans ?_ (fin q rfl)
              all_goals (first | exact rfl | (simp (disch := omega) only [wrapI]; exact rfl))
            rcases g4 with ⟨g4, e4⟩ | ⟨g4, l4, e4⟩
            · rw [e4] at fin
              rw [ind0 ht0, Int.add_zero] at fin
              (repeat' (first | exact rfl | ((conv => whnf); first | refine optA r1 ?_ | refine optA r2 ?_ | refine optS hm1 ?_ | refine optS hm2 ?_ | refine optS hm0 ?_ | exact rfl | refine ⟨(by kernel_rfl : drawOk _ _ _ _ = true), ?_⟩ | (refine ⟨(by kernel_rfl : planOk _ _ _ _ = true), ?_⟩; apply planR_meet; focus (repeat' (first | (rename_i ep1; first | exact ⟨ep1, ep, rfl, rfl⟩ | exact ⟨ep, ep1, rfl, rfl⟩) | ((conv => whnf); first | refine optA r1 ?_ | refine optA r2 ?_ | refine optS hm1 ?_ | refine optS hm2 ?_ | refine optS hm0 ?_ | refine ⟨rfl, ?_⟩ | refine ⟨by (first | omega | (simp (disch := omega) only [wrapI]; omega) | (simp (disch := omega) only [wrapI]; simp; omega) | (simp; omega)), ?_⟩ | (intro ep) | refine ⟨?_, ?_⟩ | refine ⟨?_, ?_, ?_⟩ | fail)))) | refine ⟨rfl, ?_⟩ | refine ⟨by (first | omega | (simp (disch := omega) only [wrapI]; omega) | (simp (disch := omega) only [wrapI]; simp; omega) | (simp; omega)), ?_⟩ | (intro ep) | (refine ifB (fun hb => ?_) (fun hb => ?_) <;> (try simp only [decide_eq_true_eq, decide_eq_false_iff_not, beq_iff_eq, beq_eq_false_iff_ne, bne_iff_ne, bne_eq_false_iff_eq, ne_eq, not_false_eq_true, not_true_eq_false, Bool.not_eq_true, Bool.not_eq_true', Bool.not_eq_false', Int.not_lt, Int.not_le] at hb) <;> (try simp (disch := omega) only [wrapI] at hb) <;> (try (exfalso; omega))) | fail)))
              all_goals (conv => whnf)
              all_goals refine back_of ⟨d + 1, by omega⟩ ⟨?_, rfl, by simp only; omega⟩
              all_goals refine Eq.trans ?_ (fin q rfl)
              all_goals (first | exact rfl | (simp (disch := omega) only [wrapI]; exact rfl))
            rw [e3, e4] at fin
            have hm1 := mapR (f := ntR) l3
            have hm2 := mapR (f := ntR) l4
            have w1 : IntKind.i64.wrap (z1 - 1) = (((z1 - 1).toNat : Nat) : Int) := by rw [wrapI (by omega) (by omega)]; omega
            have w2 : IntKind.i64.wrap (z2 - 1) = (((z2 - 1).toNat : Nat) : Int) := by rw [wrapI (by omega) (by omega)]; omega
            rw [← w1] at hm1
            rw [← w2] at hm2
            generalize n[(z1 - 1).toNat] = u at hm1 fin
            generalize n[(z2 - 1).toNat] = y at hm2 fin
            obtain ⟨ue, uc, up, uf, ut⟩ := u
            obtain ⟨ye, yc, yp, yf, yt⟩ := y
            replace hm1 : (n.map ntR)[0 + (IntKind.i64.wrap (z1 - 1)).toNat]? = some [.int .i64 ue, .int .i64 uc, .int .i64 up, .int .i64 uf, .int .i64 ut] := hm1
            replace hm2 : (n.map ntR)[0 + (IntKind.i64.wrap (z2 - 1)).toNat]? = some [.int .i64 ye, .int .i64 yc, .int .i64 yp, .int .i64 yf, .int .i64 yt] := hm2
            unfold ind at fin
            simp only at fin
            by_cases c1 : t < ut ∧ t < yt ∧ up < yp
            · rw [if_pos c1] at fin
              (repeat' (first | exact rfl | ((conv => whnf); first | refine optA r1 ?_ | refine optA r2 ?_ | refine optS hm1 ?_ | refine optS hm2 ?_ | refine optS hm0 ?_ | exact rfl | refine ⟨(by kernel_rfl : drawOk _ _ _ _ = true), ?_⟩ | (refine ⟨(by kernel_rfl : planOk _ _ _ _ = true), ?_⟩; apply planR_meet; focus (repeat' (first | (rename_i ep1; first | exact ⟨ep1, ep, rfl, rfl⟩ | exact ⟨ep, ep1, rfl, rfl⟩) | ((conv => whnf); first | refine optA r1 ?_ | refine optA r2 ?_ | refine optS hm1 ?_ | refine optS hm2 ?_ | refine optS hm0 ?_ | refine ⟨rfl, ?_⟩ | refine ⟨by (first | omega | (simp (disch := omega) only [wrapI]; omega) | (simp (disch := omega) only [wrapI]; simp; omega) | (simp; omega)), ?_⟩ | (intro ep) | refine ⟨?_, ?_⟩ | refine ⟨?_, ?_, ?_⟩ | fail)))) | refine ⟨rfl, ?_⟩ | refine ⟨by (first | omega | (simp (disch := omega) only [wrapI]; omega) | (simp (disch := omega) only [wrapI]; simp; omega) | (simp; omega)), ?_⟩ | (intro ep) | (refine ifB (fun hb => ?_) (fun hb => ?_) <;> (try simp only [decide_eq_true_eq, decide_eq_false_iff_not, beq_iff_eq, beq_eq_false_iff_ne, bne_iff_ne, bne_eq_false_iff_eq, ne_eq, not_false_eq_true, not_true_eq_false, Bool.not_eq_true, Bool.not_eq_true', Bool.not_eq_false', Int.not_lt, Int.not_le] at hb) <;> (try simp (disch := omega) only [wrapI] at hb) <;> (try (exfalso; omega))) | fail)))
              all_goals (conv => whnf)
              all_goals refine back_of ⟨d + 1, by omega⟩ ⟨?_, rfl, by simp only; omega⟩
              all_goals refine Eq.trans ?_ (fin (q + 1) rfl)
              all_goals (first | exact rfl | (simp (disch := omega) only [wrapI]; exact rfl))
            · rw [if_neg c1, Int.add_zero] at fin
              (repeat' (first | exact rfl | ((conv => whnf); first | refine optA r1 ?_ | refine optA r2 ?_ | refine optS hm1 ?_ | refine optS hm2 ?_ | refine optS hm0 ?_ | exact rfl | refine ⟨(by kernel_rfl : drawOk _ _ _ _ = true), ?_⟩ | (refine ⟨(by kernel_rfl : planOk _ _ _ _ = true), ?_⟩; apply planR_meet; focus (repeat' (first | (rename_i ep1; first | exact ⟨ep1, ep, rfl, rfl⟩ | exact ⟨ep, ep1, rfl, rfl⟩) | ((conv => whnf); first | refine optA r1 ?_ | refine optA r2 ?_ | refine optS hm1 ?_ | refine optS hm2 ?_ | refine optS hm0 ?_ | refine ⟨rfl, ?_⟩ | refine ⟨by (first | omega | (simp (disch := omega) only [wrapI]; omega) | (simp (disch := omega) only [wrapI]; simp; omega) | (simp; omega)), ?_⟩ | (intro ep) | refine ⟨?_, ?_⟩ | refine ⟨?_, ?_, ?_⟩ | fail)))) | refine ⟨rfl, ?_⟩ | refine ⟨by (first | omega | (simp (disch := omega) only [wrapI]; omega) | (simp (disch := omega) only [wrapI]; simp; omega) | (simp; omega)), ?_⟩ | (intro ep) | (refine ifB (fun hb => ?_) (fun hb => ?_) <;> (try simp only [decide_eq_true_eq, decide_eq_false_iff_not, beq_iff_eq, beq_eq_false_iff_ne, bne_iff_ne, bne_eq_false_iff_eq, ne_eq, not_false_eq_true, not_true_eq_false, Bool.not_eq_true, Bool.not_eq_true', Bool.not_eq_false', Int.not_lt, Int.not_le] at hb) <;> (try simp (disch := omega) only [wrapI] at hb) <;> (try (exfalso; omega))) | fail)))
              all_goals (conv => whnf)
              all_goals refine back_of ⟨d + 1, by omega⟩ ⟨?_, rfl, by simp only; omega⟩
              all_goals refine Eq.trans ?_ (fin q rfl)
              all_goals (first | exact rfl | (simp (disch := omega) only [wrapI]; exact rfl))
          · simp only [decide_eq_false_iff_not] at g2
            have ed : d = x.lo.length - (i + 1) := by omega
            clear hT
            (repeat' (first | exact rfl | ((conv => whnf); first | exact rfl | exact ⟨rfl, rfl⟩ | refine ⟨(by kernel_rfl : drawOk _ _ _ _ = true), ?_⟩ | refine ⟨(by kernel_rfl : planOk _ _ _ _ = true), ?_⟩ | refine ⟨rfl, ?_⟩ | refine ⟨by (first | omega | (simp (disch := omega) only [wrapI]; omega) | (simp (disch := omega) only [wrapI]; simp; omega) | (simp; omega)), ?_⟩ | (intro ep) | fail)))
            all_goals (conv => whnf)
            refine back_of () ⟨rfl, ?_, rfl⟩
            rw [← ed, hQ]
            exact rfl
        · rintro ⟨⟩
          (repeat' (first | exact rfl | ((conv => whnf); first | exact rfl | exact ⟨rfl, rfl⟩ | refine ⟨(by kernel_rfl : drawOk _ _ _ _ = true), ?_⟩ | refine ⟨(by kernel_rfl : planOk _ _ _ _ = true), ?_⟩ | refine ⟨rfl, ?_⟩ | refine ⟨by (first | omega | (simp (disch := omega) only [wrapI]; omega) | (simp (disch := omega) only [wrapI]; simp; omega) | (simp; omega)), ?_⟩ | (intro ep) | fail)))
          all_goals (conv => whnf)
          refine back_of ⟨i + 1, by omega⟩ ⟨?_, rfl, by simp only; omega⟩
          (first | exact rfl | (simp (disch := omega) only [wrapI]; exact rfl))
      · simp only [decide_eq_false_iff_not] at g1
        have ei : i = x.lo.length := by omega
        subst ei
        (repeat' (first | exact rfl | ((conv => whnf); first | exact rfl | exact ⟨rfl, rfl⟩ | refine ⟨(by kernel_rfl : drawOk _ _ _ _ = true), ?_⟩ | refine ⟨(by kernel_rfl : planOk _ _ _ _ = true), ?_⟩ | refine ⟨rfl, ?_⟩ | refine ⟨by (first | omega | (simp (disch := omega) only [wrapI]; omega) | (simp (disch := omega) only [wrapI]; simp; omega) | (simp; omega)), ?_⟩ | (intro ep) | fail)))
        all_goals (conv => whnf)
        refine back_of () ⟨rfl, ?_, rfl⟩
        rw [← hcr]
        exact rfl
    · rintro ⟨⟩
      have hcx := X.cross
      rw [← hst, hna] at hV
      simp only at hV
      obtain ⟨n0, n1, n2, n3, n4, rfl⟩ := l5 hnl
      by_cases c6 : x.cross < crs st t
      · rw [if_pos c6] at hV
        (repeat' (first | ((conv => whnf); first | exact rfl | exact ⟨rfl, rfl⟩ | refine ⟨(by kernel_rfl : drawOk _ _ _ _ = true), ?_⟩ | refine ⟨(by kernel_rfl : planOk _ _ _ _ = true), ?_⟩ | refine ⟨rfl, ?_⟩ | refine ⟨by (first | omega | (simp (disch := omega) only [wrapI]; omega) | (simp (disch := omega) only [wrapI]; simp; omega) | (simp; omega)), ?_⟩ | (intro ep) | (refine ifB (fun hb => ?_) (fun hb => ?_) <;> (try simp only [decide_eq_true_eq, decide_eq_false_iff_not, beq_iff_eq, beq_eq_false_iff_ne, bne_iff_ne, bne_eq_false_iff_eq, ne_eq, not_false_eq_true, not_true_eq_false, Bool.not_eq_true, Bool.not_eq_true', Bool.not_eq_false', Int.not_lt, Int.not_le] at hb) <;> (try simp (disch := omega) only [wrapI] at hb) <;> (try (exfalso; omega))) | fail)))
        all_goals (conv => whnf)
        all_goals (rw [hV])
        all_goals (refine congrArg (fun z => AV.tup [.agg (arr [s0, s1, s2, s3, s4]), .int .i64 0, .int .i64 0, .int .i64 z]) (?_ : _ = (a : Int) + cnt - 1))
        all_goals (rw [wrapI (by omega) (by omega)]; omega)
      · rw [if_neg c6] at hV
        (repeat' (first | ((conv => whnf); first | exact rfl | exact ⟨rfl, rfl⟩ | refine ⟨(by kernel_rfl : drawOk _ _ _ _ = true), ?_⟩ | refine ⟨(by kernel_rfl : planOk _ _ _ _ = true), ?_⟩ | refine ⟨rfl, ?_⟩ | refine ⟨by (first | omega | (simp (disch := omega) only [wrapI]; omega) | (simp (disch := omega) only [wrapI]; simp; omega) | (simp; omega)), ?_⟩ | (intro ep) | (refine ifB (fun hb => ?_) (fun hb => ?_) <;> (try simp only [decide_eq_true_eq, decide_eq_false_iff_not, beq_iff_eq, beq_eq_false_iff_ne, bne_iff_ne, bne_eq_false_iff_eq, ne_eq, not_false_eq_true, not_true_eq_false, Bool.not_eq_true, Bool.not_eq_true', Bool.not_eq_false', Int.not_lt, Int.not_le] at hb) <;> (try simp (disch := omega) only [wrapI] at hb) <;> (try (exfalso; omega))) | fail)))
        all_goals (rw [hV]; exact rfl)
end Go.Ab.V

/-
  An assignment that is looked at, as the document says it; the law Valid. No condition but the lengths.
-/
namespace Go.Ab.V
open Go.Proofs

theorem bnds_next {S : List (Nat × Nat)} {L b : Nat} {j : Nat} (h : Chain L b (S.drop j)) (hj : j ≤ S.length) : (S.map (fun x => (x.1 : Int)) ++ [(L : Int)])[j]? = some (b : Int) := by
  by_cases hl : j < S.length
  · rw [List.drop_eq_getElem_cons hl] at h
    rw [List.getElem?_append_left (by simpa using hl), List.getElem?_map, List.getElem?_eq_getElem hl]
    have h1 : S[j].1 = b := h.1
    simp [h1]
  · rw [List.drop_eq_nil_of_le (by omega)] at h
    have e : j = S.length := by omega
    subst e
    rw [List.getElem?_append_right (by simp)]
    simp
    rw [show b = L from h]
theorem evt_shift (x : Lm) : ∀ (c i : Nat) (s : St) (m m' : Int) (l : List Nt) (ks : List Int), evt x s (m + m') i c l ks = match evt x s m' i c l ks with
    | .inl j => .inl j
    | .inr d => .inr (d.1, m + d.2)
  | 0, i, s, m, m', l, ks => by simp [evt]
  | c + 1, i, s, m, m', [], ks => by simp [evt]
  | c + 1, i, s, m, m', n :: r, [] => by simp [evt]
  | c + 1, i, s, m, m', n :: r, k :: q => by
    unfold evt
    cases hj : join x s n k with
    | none => rfl
    | some d =>
      simp only
      rw [Int.add_assoc]
      exact evt_shift x c (i + 1) d.2 m (m' + d.1) r q
def A27 : Ann := fun r => match r with
  | 0 => { slots := [(0, 0), (1, 1)] }
  | 6 => { slots := [(1, 2), (3, 3)] }
  | 8 => { slots := [(1, 4)] }
  | 12 => { slots := [(29, 5)] }
  | _ => {}
theorem nx0 (L : Nat) : NxOk L [0, 0, 0, 0, 0] 0 0 [0, 0, 0, 0, 0] := by
  have h : ∀ i, i < 5 → [(0 : Int), 0, 0, 0, 0].getD i 0 = 0 := fun i hi => by
    obtain rfl | rfl | rfl | rfl | rfl : i = 0 ∨ i = 1 ∨ i = 2 ∨ i = 3 ∨ i = 4 := by omega
    all_goals rfl
  exact ⟨rfl, fun i hi => by rw [h i hi]; simp, fun i hi _ => rfl, fun i hi _ => h i hi⟩
theorem NxOk.self {L : Nat} {s : List Int} {a k : Nat} {nx : List Int} (h : NxOk L s a k nx) : NxOk L nx k k nx := ⟨h.len, h.bd, fun _ _ _ => rfl, h.out⟩
theorem evt_bd {x : Lm} (h5 : x.lo.length ≤ 5) : ∀ (c i : Nat) (s : St) (m : Int) (l : List Nt) (ks : List Int) (d : St × Int), s.ok → (∀ n ∈ l, ntFit n) → evt x s m i c l ks = .inr d → m ≤ d.2 ∧ d.2 ≤ m + 127 * c
  | 0, i, s, m, l, ks, d, hs, hl, h => by
    unfold evt at h; cases h; simp
  | c + 1, i, s, m, [], ks, d, hs, hl, h => by simp [evt] at h
  | c + 1, i, s, m, n :: r, [], d, hs, hl, h => by simp [evt] at h
  | c + 1, i, s, m, n :: r, k :: q, d, hs, hl, h => by
    unfold evt at h
    cases hj : join x s n k with
    | none => rw [hj] at h; simp at h
    | some d2 =>
      rw [hj] at h
      simp only at h
      obtain ⟨h1, h2, h3⟩ := join_ok hj h5 hs (hl n (by simp))
      have := evt_bd h5 c (i + 1) d2.2 (m + d2.1) r q d h1 (fun x hx => hl x (by simp [hx])) h
      omega
theorem lookS_ok {l : List Nt} (hl : ∀ n ∈ l, ntFit n) (s : List Int) : (lookS l s).ok := by
  have h : ∀ z, ntFit (look l z) := fun z => by
    unfold look
    split
    · unfold ntFit nt0; decide
    · cases hh : l[(z - 1).toNat]? with
      | none => unfold ntFit nt0; simp
      | some n => exact hl n (List.mem_of_getElem? hh)
  intro k
  unfold St.get lookS
  split <;> first | exact h _ | (unfold ntFit nt0; decide)
set_option maxHeartbeats 16000000 in
set_option maxRecDepth 100000 in
theorem refValid27 (x : Lm) (n : List Nt) (ks : List Int) (hl : x.lo.length ≤ 9223372036854775807) (hh : x.hi.length ≤ 9223372036854775807) (h3 : n.length ≤ 9223372036854775807) (h4 : ks.length ≤ 9223372036854775807) :
    PRet C.P 27 [lmA x, ntsA n, intsA ks] (valV ks (valid x n ks)) := by
  have hB := both56_spec x n hl hh h3
  unfold valid
  by_cases c1 : both x n ≠ 0
  · rw [if_pos c1]
    unfold valV
    simp only
    rw [if_neg c1]
    generalize both x n = b at hB c1
    refine pret_of ok mixed (A := A27) 6 Try.func27 rfl ?_
    (repeat' (first | exact rfl | ((conv => whnf); first | refine ⟨_, hB, ?_⟩ | exact rfl | refine ⟨by kernel_rfl, ?_⟩ | exact ⟨rfl, rfl⟩ | refine ⟨rfl, ?_⟩ | refine ⟨by (first | omega | (simp (disch := omega) only [wrapI]; omega) | (simp (disch := omega) only [wrapI]; simp; omega) | (simp; omega)), ?_⟩ | (intro ep) | (refine ifB (fun hb => ?_) (fun hb => ?_) <;> (try simp only [decide_eq_true_eq, decide_eq_false_iff_not, beq_iff_eq, beq_eq_false_iff_ne, bne_iff_ne, bne_eq_false_iff_eq, ne_eq, not_false_eq_true, not_true_eq_false, Bool.not_eq_true, Bool.not_eq_true', Bool.not_eq_false', Int.not_lt, Int.not_le] at hb) <;> (try simp (disch := omega) only [wrapI] at hb) <;> (try (exfalso; omega))) | fail)))
  rw [if_neg c1]
  have c1 : both x n = 0 := by omega
  rw [c1] at hB
  by_cases c2 : ks.length ≠ n.length
  · rw [if_pos c2]
    unfold valV
    simp only
    rw [if_neg (by decide)]
    refine pret_of ok mixed (A := A27) 6 Try.func27 rfl ?_
    (repeat' (first | exact rfl | ((conv => whnf); first | refine ⟨_, hB, ?_⟩ | exact rfl | refine ⟨by kernel_rfl, ?_⟩ | exact ⟨rfl, rfl⟩ | refine ⟨rfl, ?_⟩ | refine ⟨by (first | omega | (simp (disch := omega) only [wrapI]; omega) | (simp (disch := omega) only [wrapI]; simp; omega) | (simp; omega)), ?_⟩ | (intro ep) | (refine ifB (fun hb => ?_) (fun hb => ?_) <;> (try simp only [decide_eq_true_eq, decide_eq_false_iff_not, beq_iff_eq, beq_eq_false_iff_ne, bne_iff_ne, bne_eq_false_iff_eq, ne_eq, not_false_eq_true, not_true_eq_false, Bool.not_eq_true, Bool.not_eq_true', Bool.not_eq_false', Int.not_lt, Int.not_le] at hb) <;> (try simp (disch := omega) only [wrapI] at hb) <;> (try (exfalso; omega))) | fail)))
  rw [if_neg c2]
  have c2 : ks.length = n.length := by omega
  have hX : chkL x = 0 := by
    unfold both at c1; split at c1
    · rename_i h; exact absurd c1 h
    · rename_i h; simpa using h
  have hN : chkN n = 0 := by unfold both at c1; rw [hX] at c1; simpa using c1
  have X := lmOk_of hX
  have NN := ntsOk_of hN
  have hev := refEvents_spec n NN.len
  have hch : Chain n.length 0 (segR 0 n) := by have := chain_segR n.length 0 n (Nat.le_refl _); rwa [Nat.zero_add] at this
  have hsg : ∀ q ∈ segR 0 n, SegOk n q.1 q.2 := segR_ok n n.length 0 (by omega) (fun h => by omega)
  have hlen := NN.len
  have hL5 := X.lo5
  have hfits : ∀ m ∈ n, ntFit m := fun m hm => fit_of (NN.fit m hm)
  have t3 : List.take ks.length (List.drop 0 (ints ks)) = ints ks := by rw [List.drop_zero, List.take_of_length_le (by simp [ints])]
  obtain ⟨R, hR⟩ : ∃ R, R = vals x n ks st0 0 0 (segR 0 n) := ⟨_, rfl⟩
  rw [← hR]
  unfold bnds at hev
  generalize segR 0 n = S at hR hch hsg hev
  refine pret_of ok mixed (A := A27) 6 Try.func27 rfl ?_
  (conv => whnf)
  intro e0
  (conv => whnf)
  intro e1
  (repeat' (first | exact rfl | ((conv => whnf); first | refine ⟨_, hB, ?_⟩ | refine ⟨_, hev, ?_⟩ | (intro e2) | exact rfl | refine ⟨by kernel_rfl, ?_⟩ | exact ⟨rfl, rfl⟩ | refine ⟨rfl, ?_⟩ | refine ⟨by (first | omega | (simp (disch := omega) only [wrapI]; omega) | (simp (disch := omega) only [wrapI]; simp; omega) | (simp; omega)), ?_⟩ | (intro ep) | (refine ifB (fun hb => ?_) (fun hb => ?_) <;> (try simp only [decide_eq_true_eq, decide_eq_false_iff_not, beq_iff_eq, beq_eq_false_iff_ne, bne_iff_ne, bne_eq_false_iff_eq, ne_eq, not_false_eq_true, not_true_eq_false, Bool.not_eq_true, Bool.not_eq_true', Bool.not_eq_false', Int.not_lt, Int.not_le] at hb) <;> (try simp (disch := omega) only [wrapI] at hb) <;> (try (exfalso; omega))) | fail)))
  all_goals (conv => whnf)
  rename_i eA e3
  rename_i e4
  generalize e2 = e4
  refine loopY ok mixed (A := A27) [1, 2, 3, 6, 10, 11, 12, 13] [0, 1, 2, 3, 4] (S := { z : Nat × Nat × List Int × Int × Int // z.1 ≤ S.length ∧ Chain n.length z.2.1 (S.drop z.1) ∧ NxOk x.lo.length z.2.2.1 z.2.1 z.2.1 z.2.2.1 ∧ (0 ≤ z.2.2.2.1 ∧ z.2.2.2.1 ≤ 25 * z.1) ∧ (0 ≤ z.2.2.2.2 ∧ z.2.2.2.2 ≤ 127 * z.2.1) ∧ z.1 ≤ z.2.1 ∧ vals x n ks (lookS n z.2.2.1) z.2.2.2.1 z.2.2.2.2 (S.drop z.1) = R })
    (fr := fun z => frOf 0 89 [(1, ntsA n), (2, intsA ks), (3, .optr (.s 0) e0 5 0 0), (6, .optr (.s 1) e1 3 0 0), (10, .optr (.s 3) e3 3 0 0), (11, intsA (S.map (fun x => (x.1 : Int)) ++ [(n.length : Int)])), (12, .optr (.s 4) e4 5 0 0), (13, .int .i64 (z.1.1 : Int))])
    (h := fun z => ⟨[.vec e0 [lmR x], .vec e1 [[.nils, .int .i64 0, .int .i64 0]], .vec eA (ints ks), .vec e3 [[.oslc (.s 2) eA 1 0 ks.length false, .int .i64 z.1.2.2.2.1, .int .i64 z.1.2.2.2.2]], .vec e4 [arr z.1.2.2.1], .hole], []⟩) (μ := fun z => S.length - z.1.1)
    ⟨(0, 0, [0, 0, 0, 0, 0], 0, 0), Nat.zero_le _, by simpa using hch, nx0 _, by simp, by simp, Nat.le_refl _, hR.symm⟩ ?_ ?_
    [6, 10] [1, 2, 3] (S' := { z : Int × Int // (0, 0, z.1, z.2) = R }) (X := fun _ => 0) (frX := fun z => frOf 0 89 [(6, .optr (.s 1) e1 3 0 0), (10, .optr (.s 3) e3 3 0 0)]) (hX := fun z => ⟨[.hole, .vec e1 [[.nils, .int .i64 0, .int .i64 0]], .vec eA (ints ks), .vec e3 [[.oslc (.s 2) eA 1 0 ks.length false, .int .i64 z.1.1, .int .i64 z.1.2]], .hole, .hole], []⟩)
    [6, 7, 8] [1] (S2 := { j : Int // (j, 71, 0, 0) = R }) (frR := fun j => frOf 0 89 [(6, .optr (.s 1) e1 3 0 0), (7, .int .i64 j.1), (8, .int .i64 71)]) (hR := fun j => ⟨[.hole, .vec e1 [[.nils, .int .i64 0, .int .i64 0]], .hole, .hole, .hole, .hole], []⟩) ?_ ?_ ?_
  · exact rfl
  · show maskH 0 _ _ = ⟨[.vec e0 [lmR x], .vec e1 [[.nils, .int .i64 0, .int .i64 0]], .vec eA (ints ks), .vec e3 [[.oslc (.s 2) eA 1 0 ks.length false, .int .i64 0, .int .i64 0]], .vec e4 [arr [0, 0, 0, 0, 0]], .hole], []⟩
    have t4 : (ints ks).length = ks.length := by simp [ints]
    rw [t3, t4]
    exact rfl
  · rintro ⟨⟨j, o, s, c, m⟩, hj, hch, hs, hc, hm, hjo, hu⟩
    simp only at hj hch hs hc hm hjo hu
    obtain ⟨s0, s1, s2, s3, s4, rfl⟩ := l5 hs.len
    show aexR _ _ _ (frOf 0 89 [(1, ntsA n), (2, intsA ks), (3, .optr (.s 0) e0 5 0 0), (6, .optr (.s 1) e1 3 0 0), (10, .optr (.s 3) e3 3 0 0), (11, intsA (S.map (fun x => (x.1 : Int)) ++ [(n.length : Int)])), (12, .optr (.s 4) e4 5 0 0), (13, .int .i64 (j : Int))]) ⟨[.vec e0 [lmR x], .vec e1 [[.nils, .int .i64 0, .int .i64 0]], .vec eA (ints ks), .vec e3 [[.oslc (.s 2) eA 1 0 ks.length false, .int .i64 c, .int .i64 m]], .vec e4 [arr [s0, s1, s2, s3, s4]], .hole], []⟩ _
    have hBl : (S.map (fun x => (x.1 : Int)) ++ [(n.length : Int)]).length = S.length + 1 := by simp
    have hm1 := bnds_next hch hj
    have hol := chain_le hch
    (repeat' (first | ((conv => whnf); first | exact rfl | exact ⟨rfl, rfl⟩ | refine ⟨(by kernel_rfl : drawOk _ _ _ _ = true), ?_⟩ | refine ⟨(by kernel_rfl : planOk _ _ _ _ = true), ?_⟩ | refine ⟨rfl, ?_⟩ | refine ⟨by (first | omega | (simp (disch := omega) only [wrapI]; omega) | (simp (disch := omega) only [wrapI]; simp; omega) | (simp; omega)), ?_⟩ | (intro ep) | fail)))
    all_goals (conv => whnf)
    rw [hBl]
    refine ifB (fun g1 => ?_) (fun g1 => ?_)
    · rw [wrapI (by omega) (by omega)] at g1
      simp only [decide_eq_true_eq] at g1
      have h1 : j < S.length := by omega
      rw [List.drop_eq_getElem_cons h1] at hu hch
      have hsq := hsg _ (List.getElem_mem h1)
      generalize S[j] = q at hu hch hsq
      obtain ⟨a, cnt⟩ := q
      obtain ⟨rfl, hcnt, hch⟩ := hch
      have hm2 := bnds_next hch (by omega)
      simp only at hsq
      have hle := chain_le hch
      have ha : a < n.length := by omega
      have hwj : IntKind.i64.wrap ((j : Int) + 1) = ((j + 1 : Nat) : Int) := by rw [wrapI (by omega) (by omega)]; omega
      generalize hBB : (S.map (fun x => (x.1 : Int)) ++ [(n.length : Int)]) = B at hm1 hm2 hBl
      have k1 : (ints B)[0 + (j : Int).toNat]? = some [.int .i64 (a : Int)] := by simp [ints, hm1]
      have k2 : (ints B)[0 + (IntKind.i64.wrap ((j : Int) + 1)).toNat]? = some [.int .i64 ((a + cnt : Nat) : Int)] := by rw [hwj]; simp only [ints, List.getElem?_map, Nat.zero_add, Int.toNat_natCast, hm2]; rfl
      have hT := fun o' c' h1 h2 => turn58 x n ks [s0, s1, s2, s3, s4] a cnt o' c' h1 h2 X hN hsq c2 hs
      unfold turnV at hT
      rw [vals] at hu
      have hfr : frN n a = n[a].f := frN_at ha
      have hse := evt_shift x cnt a (lookS n [s0, s1, s2, s3, s4]) m 0 (n.drop a) (ks.drop a)
      rw [Int.add_zero] at hse
      rw [hse] at hu
      have hnx := fun d => evt_nxt (d := d) X hN hsq c2 cnt a [s0, s1, s2, s3, s4] 0 hs (Nat.le_refl _) rfl
      have hbd := fun d => evt_bd (d := d) hL5 cnt a (lookS n [s0, s1, s2, s3, s4]) 0 (n.drop a) (ks.drop a) (lookS_ok hfits _) (fun q hq => hfits q (List.mem_of_mem_drop hq))
      clear hse
      generalize evt x (lookS n [s0, s1, s2, s3, s4]) 0 a cnt (n.drop a) (ks.drop a) = E at hT hu hnx hbd
      cases E with
      | inl j' =>
        simp only at hT hu
        (repeat' (first | exact rfl | ((conv => whnf); first | refine optS k1 ?_ | refine optS k2 ?_ | refine ⟨_, hT _ _ (by omega) (by omega), ?_⟩ | exact rfl | exact ⟨rfl, rfl⟩ | refine ⟨(by kernel_rfl : drawOk _ _ _ _ = true), ?_⟩ | refine ⟨(by kernel_rfl : planOk _ _ _ _ = true), ?_⟩ | refine ⟨rfl, ?_⟩ | refine ⟨by (first | omega | (simp (disch := omega) only [wrapI]; omega) | (simp (disch := omega) only [wrapI]; simp; omega) | (simp; omega)), ?_⟩ | (intro ep) | (refine ifB (fun hb => ?_) (fun hb => ?_) <;> (try simp only [decide_eq_true_eq, decide_eq_false_iff_not, beq_iff_eq, beq_eq_false_iff_ne, bne_iff_ne, bne_eq_false_iff_eq, ne_eq, not_false_eq_true, not_true_eq_false, Bool.not_eq_true, Bool.not_eq_true', Bool.not_eq_false', Int.not_lt, Int.not_le] at hb) <;> (try simp (disch := omega) only [wrapI] at hb) <;> (try (exfalso; omega))) | fail)))
        all_goals (conv => whnf)
        all_goals exact back_of ⟨(j' : Int), hu⟩ ⟨by (first | exact rfl | (simp (disch := omega) only [wrapI]; exact rfl)), rfl⟩
      | inr d =>
        obtain ⟨st, dm⟩ := d
        obtain ⟨hn1, hn2⟩ := hnx _ rfl
        have hb := hbd _ rfl
        simp only at hT hu hn1 hb
        have hcb := crs_bd st (frN n a)
        rw [← hn1] at hu
        generalize hz : crs st (frN n a) = z at hT hcb
        rw [hn1, hz] at hu
        rw [← hn1] at hu
        generalize nxt [s0, s1, s2, s3, s4] a cnt (ks.drop a) = NX at hT hn2 hu
        have hn3 := hn2.self
        obtain ⟨n0, n1, n2, n3, n4, rfl⟩ := l5 hn2.len
        clear hnx
        clear hbd
        clear hn1
        by_cases c6 : x.cross < z
        · rw [if_pos c6] at hT hu
          (repeat' (first | exact rfl | ((conv => whnf); first | refine optS k1 ?_ | refine optS k2 ?_ | refine ⟨_, hT _ _ (by omega) (by omega), ?_⟩ | exact rfl | exact ⟨rfl, rfl⟩ | refine ⟨(by kernel_rfl : drawOk _ _ _ _ = true), ?_⟩ | refine ⟨(by kernel_rfl : planOk _ _ _ _ = true), ?_⟩ | refine ⟨rfl, ?_⟩ | refine ⟨by (first | omega | (simp (disch := omega) only [wrapI]; omega) | (simp (disch := omega) only [wrapI]; simp; omega) | (simp; omega)), ?_⟩ | (intro ep) | (refine ifB (fun hb => ?_) (fun hb => ?_) <;> (try simp only [decide_eq_true_eq, decide_eq_false_iff_not, beq_iff_eq, beq_eq_false_iff_ne, bne_iff_ne, bne_eq_false_iff_eq, ne_eq, not_false_eq_true, not_true_eq_false, Bool.not_eq_true, Bool.not_eq_true', Bool.not_eq_false', Int.not_lt, Int.not_le] at hb) <;> (try simp (disch := omega) only [wrapI] at hb) <;> (try (exfalso; omega))) | fail)))
          all_goals (conv => whnf)
          all_goals exact back_of ⟨(a : Int) + cnt - 1, hu⟩ ⟨by (first | exact rfl | (simp (disch := omega) only [wrapI]; exact rfl)), rfl⟩
        · rw [if_neg c6] at hT hu
          (repeat' (first | exact rfl | ((conv => whnf); first | refine optS k1 ?_ | refine optS k2 ?_ | refine ⟨_, hT _ _ (by omega) (by omega), ?_⟩ | exact rfl | exact ⟨rfl, rfl⟩ | refine ⟨(by kernel_rfl : drawOk _ _ _ _ = true), ?_⟩ | refine ⟨(by kernel_rfl : planOk _ _ _ _ = true), ?_⟩ | refine ⟨rfl, ?_⟩ | refine ⟨by (first | omega | (simp (disch := omega) only [wrapI]; omega) | (simp (disch := omega) only [wrapI]; simp; omega) | (simp; omega)), ?_⟩ | (intro ep) | (refine ifB (fun hb => ?_) (fun hb => ?_) <;> (try simp only [decide_eq_true_eq, decide_eq_false_iff_not, beq_iff_eq, beq_eq_false_iff_ne, bne_iff_ne, bne_eq_false_iff_eq, ne_eq, not_false_eq_true, not_true_eq_false, Bool.not_eq_true, Bool.not_eq_true', Bool.not_eq_false', Int.not_lt, Int.not_le] at hb) <;> (try simp (disch := omega) only [wrapI] at hb) <;> (try (exfalso; omega))) | fail)))
          all_goals (conv => whnf)
          refine back_of ⟨(j + 1, a + cnt, [n0, n1, n2, n3, n4], c + z, m + dm), by simp only; omega, hch, hn3, by simp only; omega, by simp only; omega, by simp only; omega, hu⟩ ⟨?_, ?_, by simp only; omega⟩
          · show maskF 0 _ _ = frOf 0 89 [(1, ntsA n), (2, intsA ks), (3, .optr (.s 0) e0 5 0 0), (6, .optr (.s 1) e1 3 0 0), (10, .optr (.s 3) e3 3 0 0), (11, intsA B), (12, .optr (.s 4) e4 5 0 0), (13, .int .i64 ((j + 1 : Nat) : Int))]
            (first | exact rfl | (simp (disch := omega) only [wrapI]; exact rfl))
          · (first | exact rfl | (simp (disch := omega) only [wrapI]; exact rfl))
    · rw [wrapI (by omega) (by omega)] at g1
      simp only [decide_eq_false_iff_not] at g1
      rw [List.drop_eq_nil_of_le (by omega), vals] at hu
      (repeat' (first | exact rfl | ((conv => whnf); first | exact rfl | exact ⟨rfl, rfl⟩ | refine ⟨(by kernel_rfl : drawOk _ _ _ _ = true), ?_⟩ | refine ⟨(by kernel_rfl : planOk _ _ _ _ = true), ?_⟩ | refine ⟨rfl, ?_⟩ | refine ⟨by (first | omega | (simp (disch := omega) only [wrapI]; omega) | (simp (disch := omega) only [wrapI]; simp; omega) | (simp; omega)), ?_⟩ | (intro ep) | fail)))
      all_goals (conv => whnf)
      exact back_of ⟨(c, m), hu⟩ ⟨rfl, rfl, rfl⟩
  · rintro ⟨z, hz⟩
    (repeat' (first | ((conv => whnf); first | exact rfl | exact ⟨rfl, rfl⟩ | refine ⟨(by kernel_rfl : drawOk _ _ _ _ = true), ?_⟩ | refine ⟨(by kernel_rfl : planOk _ _ _ _ = true), ?_⟩ | refine ⟨rfl, ?_⟩ | refine ⟨by (first | omega | (simp (disch := omega) only [wrapI]; omega) | (simp (disch := omega) only [wrapI]; simp; omega) | (simp; omega)), ?_⟩ | (intro ep) | fail)))
    all_goals (subst hz; exact rfl)
  · rintro ⟨⟨c, m⟩, hz⟩
    (repeat' (first | ((conv => whnf); first | exact rfl | exact ⟨rfl, rfl⟩ | refine ⟨(by kernel_rfl : drawOk _ _ _ _ = true), ?_⟩ | refine ⟨(by kernel_rfl : planOk _ _ _ _ = true), ?_⟩ | refine ⟨rfl, ?_⟩ | refine ⟨by (first | omega | (simp (disch := omega) only [wrapI]; omega) | (simp (disch := omega) only [wrapI]; simp; omega) | (simp; omega)), ?_⟩ | (intro ep) | fail)))
    all_goals (subst hz; refine ⟨pure_ints _, ?_⟩; (conv => whnf); exact ⟨rfl, rfl⟩)
end Go.Ab.V

/-
  The law Valid. No condition but the lengths.
-/
namespace Go.Ab.V
open Go.Proofs

def A50 : Ann := fun _ => {}
set_option maxHeartbeats 4000000 in
set_option maxRecDepth 100000 in
theorem same50 (l : List Int) (hl : l.length ≤ 9223372036854775806) : PRet C.P 50 [intsA l, intsA l] (.bool true) := by
  refine pret_of ok mixed (A := A50) 0 Try.func50 rfl ?_
  (repeat' (first | exact rfl | ((conv => whnf); first | exact rfl | exact ⟨rfl, rfl⟩ | refine ⟨(by kernel_rfl : drawOk _ _ _ _ = true), ?_⟩ | refine ⟨(by kernel_rfl : planOk _ _ _ _ = true), ?_⟩ | refine ⟨rfl, ?_⟩ | refine ⟨by (first | omega | (simp (disch := omega) only [wrapI]; omega) | (simp (disch := omega) only [wrapI]; simp; omega) | (simp; omega)), ?_⟩ | (intro ep) | (refine ifB (fun hb => ?_) (fun hb => ?_) <;> (try simp only [decide_eq_true_eq, decide_eq_false_iff_not, beq_iff_eq, beq_eq_false_iff_ne, bne_iff_ne, bne_eq_false_iff_eq, ne_eq, not_false_eq_true, not_true_eq_false, Bool.not_eq_true, Bool.not_eq_true', Bool.not_eq_false', Int.not_lt, Int.not_le] at hb) <;> (try simp (disch := omega) only [wrapI] at hb) <;> (try (exfalso; omega))) | fail)))
  all_goals (conv => whnf)
  refine loopX ok mixed (A := A50) [0, 1, 5] [] (S := { k : Nat // k ≤ l.length })
    (fr := fun s => frOf 0 26 [(0, intsA l), (1, intsA l), (5, .int .i64 (s.1 : Int))])
    (h := fun s => ⟨[], []⟩) (μ := fun s => l.length - s.1) ⟨0, by omega⟩ ?_ ?_
    [] [] (S' := Unit) (X := fun _ => 0) (frX := fun s => frOf 0 26 []) (hX := fun s => ⟨[], []⟩) (R := fun _ _ => False) ?_ (fun _ _ h => h.elim) ?_
  · exact rfl
  · exact rfl
  · rintro ⟨k, hk⟩
    show aexR _ _ _ (frOf 0 26 [(0, intsA l), (1, intsA l), (5, .int .i64 (k : Int))]) ⟨[], []⟩ _
    (conv => whnf)
    refine ifB (fun g1 => ?_) (fun g1 => ?_)
    · simp only [decide_eq_true_eq] at g1
      have h1 : k < l.length := by omega
      have hm := intsR h1
      (repeat' (first | exact rfl | ((conv => whnf); first | refine optS hm ?_ | exact rfl | exact ⟨rfl, rfl⟩ | refine ⟨(by kernel_rfl : drawOk _ _ _ _ = true), ?_⟩ | refine ⟨(by kernel_rfl : planOk _ _ _ _ = true), ?_⟩ | refine ⟨rfl, ?_⟩ | refine ⟨by (first | omega | (simp (disch := omega) only [wrapI]; omega) | (simp (disch := omega) only [wrapI]; simp; omega) | (simp; omega)), ?_⟩ | (intro ep) | (refine ifB (fun hb => ?_) (fun hb => ?_) <;> (try simp only [decide_eq_true_eq, decide_eq_false_iff_not, beq_iff_eq, beq_eq_false_iff_ne, bne_iff_ne, bne_eq_false_iff_eq, ne_eq, not_false_eq_true, not_true_eq_false, Bool.not_eq_true, Bool.not_eq_true', Bool.not_eq_false', Int.not_lt, Int.not_le] at hb) <;> (try simp (disch := omega) only [wrapI] at hb) <;> (try (exfalso; omega))) | fail)))
      all_goals (conv => whnf)
      exact back_of ⟨k + 1, by omega⟩ ⟨by (first | exact rfl | (simp (disch := omega) only [wrapI]; exact rfl)), rfl, by simp only; omega⟩
    · (repeat' (first | exact rfl | ((conv => whnf); first | exact rfl | exact ⟨rfl, rfl⟩ | refine ⟨(by kernel_rfl : drawOk _ _ _ _ = true), ?_⟩ | refine ⟨(by kernel_rfl : planOk _ _ _ _ = true), ?_⟩ | refine ⟨rfl, ?_⟩ | refine ⟨by (first | omega | (simp (disch := omega) only [wrapI]; omega) | (simp (disch := omega) only [wrapI]; simp; omega) | (simp; omega)), ?_⟩ | (intro ep) | fail)))
      all_goals (conv => whnf)
      exact back_of () ⟨rfl, rfl, rfl⟩
  · rintro ⟨⟩
    (repeat' (first | exact rfl | ((conv => whnf); first | exact rfl | exact ⟨rfl, rfl⟩ | refine ⟨(by kernel_rfl : drawOk _ _ _ _ = true), ?_⟩ | refine ⟨(by kernel_rfl : planOk _ _ _ _ = true), ?_⟩ | refine ⟨rfl, ?_⟩ | refine ⟨by (first | omega | (simp (disch := omega) only [wrapI]; omega) | (simp (disch := omega) only [wrapI]; simp; omega) | (simp; omega)), ?_⟩ | (intro ep) | fail)))
set_option maxHeartbeats 4000000 in
theorem same50_nil : PRet C.P 50 [.nils, .nils] (.bool true) := by
  refine pret_of ok mixed (A := A50) 0 Try.func50 rfl ?_
  (repeat ((conv => whnf); first | exact rfl | exact ⟨rfl, rfl⟩ | refine ⟨rfl, ?_⟩ | refine ⟨by decide, ?_⟩ | refine ⟨by kernel_rfl, ?_⟩ | (intro ep) | refine loopU ok mixed (A := fun _ => {}) 100 ?_))
def A28 : Ann := fun r => match r with
  | 0 => { slots := [(0, 0), (1, 1)] }
  | _ => {}
set_option maxHeartbeats 4000000 in
set_option maxRecDepth 100000 in
theorem same28 {a : AV} (c m : Int) (h : PRet C.P 50 [a, a] (.bool true)) (ha : (∃ l, a = intsA l) ∨ a = .nils) : PRet C.P 28 [.agg [a, .int .i64 c, .int .i64 m], .agg [a, .int .i64 c, .int .i64 m]] (.bool true) := by
  rcases ha with ⟨l, rfl⟩ | rfl
  all_goals
    refine pret_of ok mixed (A := A28) 2 Try.func28 rfl ?_
    (repeat' (first | exact rfl | ((conv => whnf); first | refine ⟨_, h, ?_⟩ | exact rfl | exact ⟨rfl, rfl⟩ | refine ⟨(by kernel_rfl : drawOk _ _ _ _ = true), ?_⟩ | refine ⟨(by kernel_rfl : planOk _ _ _ _ = true), ?_⟩ | refine ⟨rfl, ?_⟩ | refine ⟨by (first | omega | (simp (disch := omega) only [wrapI]; omega) | (simp (disch := omega) only [wrapI]; simp; omega) | (simp; omega)), ?_⟩ | (intro ep) | (refine ifB (fun hb => ?_) (fun hb => ?_) <;> (try simp only [decide_eq_true_eq, decide_eq_false_iff_not, beq_iff_eq, beq_eq_false_iff_ne, bne_iff_ne, bne_eq_false_iff_eq, ne_eq, not_false_eq_true, not_true_eq_false, Bool.not_eq_true, Bool.not_eq_true', Bool.not_eq_false', Int.not_lt, Int.not_le] at hb) <;> (try simp (disch := omega) only [wrapI] at hb) <;> (try (exfalso; omega))) | fail)))
def A5 : Ann := fun r => match r with
  | 0 => { slots := [(0, 0)] }
  | 1 => { slots := [(10, 1)] }
  | 2 => { slots := [(10, 2)] }
  | _ => {}
theorem valid_len {x : Lm} {n : List Nt} {ks : List Int} (h : (valid x n ks).2.1 = 0) : ks.length ≤ 5600 ∧ ks.length = n.length ∧ both x n = 0 := by
  unfold valid at h
  split at h
  · rename_i hh; exact absurd h hh
  · split at h
    · simp at h
    · rename_i h1 h2
      have hb : both x n = 0 := by omega
      have hN : chkN n = 0 := by
        have hX : chkL x = 0 := by
          unfold both at hb; split at hb
          · rename_i h; exact absurd hb h
          · rename_i h; simpa using h
        unfold both at hb; rw [hX] at hb; simpa using hb
      have := (ntsOk_of hN).len
      exact ⟨by omega, by omega, hb⟩
set_option maxHeartbeats 4000000 in
set_option maxRecDepth 100000 in
theorem law_valid (x : Lm) (n : List Nt) (ks : List Int) (h1 : x.lo.length ≤ 9223372036854775807) (h2 : x.hi.length ≤ 9223372036854775807) (h3 : n.length ≤ 9223372036854775807)
    (h4 : ks.length ≤ 9223372036854775807) : ACalls C.P 5 [caseA x n, intsA ks] Heap.nil fun r _ => r = .bool true := by
  have a1 := valid26 x n ks h1 h2 h3 h4
  have a2 := refValid27 x n ks h1 h2 h3 h4
  have hL := valid_len (x := x) (n := n) (ks := ks)
  generalize valid x n ks = V at a1 a2 hL
  obtain ⟨at', e, c, m⟩ := V
  unfold valV at a1 a2
  simp only at a1 a2 hL
  by_cases he : e = 0
  · rw [if_pos he] at a1 a2
    have hs := same28 c m (same50 ks (by have := hL he; omega)) (.inl ⟨ks, rfl⟩)
    refine fn_of ok mixed (A := A5) 3 Try.func5 rfl ?_
    (repeat' (first | exact rfl | ((conv => whnf); first | refine ⟨_, a1, ?_⟩ | refine ⟨_, a2, ?_⟩ | refine ⟨_, hs, ?_⟩ | refine ⟨_, works_spec, ?_⟩ | exact rfl | exact ⟨rfl, rfl⟩ | refine ⟨(by kernel_rfl : drawOk _ _ _ _ = true), ?_⟩ | refine ⟨(by kernel_rfl : planOk _ _ _ _ = true), ?_⟩ | refine ⟨rfl, ?_⟩ | refine ⟨by (first | omega | (simp (disch := omega) only [wrapI]; omega) | (simp (disch := omega) only [wrapI]; simp; omega) | (simp; omega)), ?_⟩ | (intro ep) | (refine ifB (fun hb => ?_) (fun hb => ?_) <;> (try simp only [decide_eq_true_eq, decide_eq_false_iff_not, beq_iff_eq, beq_eq_false_iff_ne, bne_iff_ne, bne_eq_false_iff_eq, ne_eq, not_false_eq_true, not_true_eq_false, Bool.not_eq_true, Bool.not_eq_true', Bool.not_eq_false', Int.not_lt, Int.not_le] at hb) <;> (try simp (disch := omega) only [wrapI] at hb) <;> (try (exfalso; omega))) | fail)))
  · rw [if_neg he] at a1 a2
    have hs := same28 c m same50_nil (.inr rfl)
    refine fn_of ok mixed (A := A5) 3 Try.func5 rfl ?_
    (repeat' (first | exact rfl | ((conv => whnf); first | refine ⟨_, a1, ?_⟩ | refine ⟨_, a2, ?_⟩ | refine ⟨_, hs, ?_⟩ | refine ⟨_, works_spec, ?_⟩ | exact rfl | exact ⟨rfl, rfl⟩ | refine ⟨(by kernel_rfl : drawOk _ _ _ _ = true), ?_⟩ | refine ⟨(by kernel_rfl : planOk _ _ _ _ = true), ?_⟩ | refine ⟨rfl, ?_⟩ | refine ⟨by (first | omega | (simp (disch := omega) only [wrapI]; omega) | (simp (disch := omega) only [wrapI]; simp; omega) | (simp; omega)), ?_⟩ | (intro ep) | (refine ifB (fun hb => ?_) (fun hb => ?_) <;> (try simp only [decide_eq_true_eq, decide_eq_false_iff_not, beq_iff_eq, beq_eq_false_iff_ne, bne_iff_ne, bne_eq_false_iff_eq, ne_eq, not_false_eq_true, not_true_eq_false, Bool.not_eq_true, Bool.not_eq_true', Bool.not_eq_false', Int.not_lt, Int.not_le] at hb) <;> (try simp (disch := omega) only [wrapI] at hb) <;> (try (exfalso; omega))) | fail)))
end Go.Ab.V

/-
  Wider limits; a rest. No condition but the lengths.
-/
namespace Go.Ab.V
open Go.Proofs

def A29 : Ann := fun _ => {}
set_option maxHeartbeats 4000000 in
set_option maxRecDepth 100000 in
theorem rest29 (a n : Int) (h : 0 < n) (hn : n ≤ 100000) : ∃ r : Int, 0 ≤ r ∧ r < n ∧ PRet C.P 29 [.int .i64 a, .int .i64 n] (.int .i64 r) := by
  have h1 := Int.tmod_lt_of_pos a h
  have h2 := Int.lt_tmod_of_pos a h
  obtain ⟨t, ht⟩ : ∃ t, t = a.tmod n := ⟨_, rfl⟩
  have h3 := Int.tmod_lt_of_pos (t + n) h
  have h4 := Int.tmod_nonneg (a := t + n) n (by omega)
  refine ⟨(t + n).tmod n, h4, h3, ?_⟩
  refine pret_of ok mixed (A := A29) 0 Try.func29 rfl ?_
  (repeat' (first | ((conv => whnf); first | refine ⟨rfl, ?_⟩ | refine ⟨by omega, ?_⟩ | (intro ep))))
  all_goals (refine congrArg (AV.int .i64) ?_; rw [← ht, wrapI (x := t + n) (by omega) (by omega)])
def A22 : Ann := fun _ => {}
def manyB (l m : Nat) : Bool := decide (m < l) && decide (l ≤ 5600)
set_option maxHeartbeats 4000000 in
set_option maxRecDepth 100000 in
theorem many22 (n : List Nt) (m : Nat) (hm : m ≤ 5600) (h3 : n.length ≤ 9223372036854775807) : PRet C.P 22 [ntsA n, .int .i64 (m : Int)] (.bool (manyB n.length m)) := by
  unfold manyB
  by_cases c1 : m < n.length
  · rw [decide_eq_true c1]
    by_cases c2 : n.length ≤ 5600
    · rw [decide_eq_true c2]
      refine pret_of ok mixed (A := A22) 0 Try.func22 rfl ?_
      (repeat' (first | exact rfl | ((conv => whnf); first | exact rfl | exact ⟨rfl, rfl⟩ | refine ⟨(by kernel_rfl : drawOk _ _ _ _ = true), ?_⟩ | refine ⟨(by kernel_rfl : planOk _ _ _ _ = true), ?_⟩ | refine ⟨rfl, ?_⟩ | refine ⟨by (first | omega | (simp (disch := omega) only [wrapI]; omega) | (simp (disch := omega) only [wrapI]; simp; omega) | (simp; omega)), ?_⟩ | (intro ep) | (refine ifB (fun hb => ?_) (fun hb => ?_) <;> (try simp only [decide_eq_true_eq, decide_eq_false_iff_not, beq_iff_eq, beq_eq_false_iff_ne, bne_iff_ne, bne_eq_false_iff_eq, ne_eq, not_false_eq_true, not_true_eq_false, Bool.not_eq_true, Bool.not_eq_true', Bool.not_eq_false', Int.not_lt, Int.not_le] at hb) <;> (try simp (disch := omega) only [wrapI] at hb) <;> (try (exfalso; omega))) | fail)))
      all_goals (refine congrArg AV.bool ?_; simp; omega)
    · rw [decide_eq_false c2]
      refine pret_of ok mixed (A := A22) 0 Try.func22 rfl ?_
      (repeat' (first | exact rfl | ((conv => whnf); first | exact rfl | exact ⟨rfl, rfl⟩ | refine ⟨(by kernel_rfl : drawOk _ _ _ _ = true), ?_⟩ | refine ⟨(by kernel_rfl : planOk _ _ _ _ = true), ?_⟩ | refine ⟨rfl, ?_⟩ | refine ⟨by (first | omega | (simp (disch := omega) only [wrapI]; omega) | (simp (disch := omega) only [wrapI]; simp; omega) | (simp; omega)), ?_⟩ | (intro ep) | (refine ifB (fun hb => ?_) (fun hb => ?_) <;> (try simp only [decide_eq_true_eq, decide_eq_false_iff_not, beq_iff_eq, beq_eq_false_iff_ne, bne_iff_ne, bne_eq_false_iff_eq, ne_eq, not_false_eq_true, not_true_eq_false, Bool.not_eq_true, Bool.not_eq_true', Bool.not_eq_false', Int.not_lt, Int.not_le] at hb) <;> (try simp (disch := omega) only [wrapI] at hb) <;> (try (exfalso; omega))) | fail)))
      all_goals (refine congrArg AV.bool ?_; simp; omega)
  · rw [decide_eq_false c1]
    refine pret_of ok mixed (A := A22) 0 Try.func22 rfl ?_
    (repeat' (first | exact rfl | ((conv => whnf); first | exact rfl | exact ⟨rfl, rfl⟩ | refine ⟨(by kernel_rfl : drawOk _ _ _ _ = true), ?_⟩ | refine ⟨(by kernel_rfl : planOk _ _ _ _ = true), ?_⟩ | refine ⟨rfl, ?_⟩ | refine ⟨by (first | omega | (simp (disch := omega) only [wrapI]; omega) | (simp (disch := omega) only [wrapI]; simp; omega) | (simp; omega)), ?_⟩ | (intro ep) | (refine ifB (fun hb => ?_) (fun hb => ?_) <;> (try simp only [decide_eq_true_eq, decide_eq_false_iff_not, beq_iff_eq, beq_eq_false_iff_ne, bne_iff_ne, bne_eq_false_iff_eq, ne_eq, not_false_eq_true, not_true_eq_false, Bool.not_eq_true, Bool.not_eq_true', Bool.not_eq_false', Int.not_lt, Int.not_le] at hb) <;> (try simp (disch := omega) only [wrapI] at hb) <;> (try (exfalso; omega))) | fail)))

def mx0 (t : Int) : Int := if 0 < t then t else 0
def mnK (k t : Int) : Int := if t < k then t else k
def wide (x : Lm) (r1 r2 r3 r4 : Int) : Lm := ⟨x.lo.map fun v => mx0 (v - r3), x.hi.map fun v => mnK 127 (v + r4), mnK 127 (x.leap + r1), x.gap, mnK 10 (x.cross + r2)⟩
theorem prs_wide {r3 r4 : Int} (h3 : 0 ≤ r3) (h4 : 0 ≤ r4) : ∀ (lo hi : List Int), prs lo hi = 0 → prs (lo.map fun v => mx0 (v - r3)) (hi.map fun v => mnK 127 (v + r4)) = 0
  | [], _, _ => by simp [prs]
  | _ :: _, [], _ => by simp [prs]
  | a :: r, b :: s, h => by
    unfold prs at h
    split at h
    · simp at h
    · rename_i hh
      rw [List.map_cons, List.map_cons, prs, if_neg (by unfold mx0 mnK; split <;> split <;> omega)]
      exact prs_wide h3 h4 r s h
theorem wide_ok {x : Lm} {r1 r2 r3 r4 : Int} (h : chkL x = 0) (h1 : 0 ≤ r1) (h2 : 0 ≤ r2) (h3 : 0 ≤ r3) (h4 : 0 ≤ r4) : chkL (wide x r1 r2 r3 r4) = 0 := by
  have X := lmOk_of h
  obtain ⟨a1, a2, a3, a4, a5, a6, a7⟩ := X
  unfold chkL wide
  simp only [List.length_map]
  rw [if_neg (by omega), if_neg (by omega), if_neg (by unfold mnK; split <;> omega), if_neg (by omega), if_neg (by unfold mnK; split <;> omega)]
  exact prs_wide h3 h4 _ _ a7
theorem getD_map0 (l : List Int) (f : Int → Int) {i : Nat} (h : i < l.length) : (l.map f).getD i 0 = f (l.getD i 0) := by
  rw [List.getD_eq_getElem?_getD, List.getD_eq_getElem?_getD, List.getElem?_map, List.getElem?_eq_getElem h]; rfl
theorem prs_get : ∀ {lo hi : List Int}, prs lo hi = 0 → ∀ i, i < lo.length → i < hi.length → 0 ≤ lo.getD i 0 ∧ lo.getD i 0 ≤ hi.getD i 0 ∧ hi.getD i 0 ≤ 127
  | [], _, _, i, h, _ => by simp at h
  | _ :: _, [], _, i, _, h => by simp at h
  | a :: r, b :: s, h, i, h1, h2 => by
    unfold prs at h
    split at h
    · simp at h
    · cases i with
      | zero => simp; omega
      | succ i => simpa using prs_get h i (by simpa using h1) (by simpa using h2)
theorem join_wide {x : Lm} (X : LmOk x) {r1 r2 r3 r4 : Int} (h1 : 0 ≤ r1) (h3 : 0 ≤ r3) (h4 : 0 ≤ r4) {s : St} {n : Nt} {v : Int} {d : Int × St} (hn : 0 ≤ n.p ∧ n.p ≤ 127) (h : join x s n v = some d) : join (wide x r1 r2 r3 r4) s n v = some d := by
  unfold join at h ⊢
  have e1 : (wide x r1 r2 r3 r4).lo.length = x.lo.length := by simp [wide]
  rw [e1]
  split at h
  · cases h
  rename_i c1
  rw [if_neg c1]
  have hj : (v - 1).toNat < x.lo.length := by omega
  have hj2 : (v - 1).toNat < x.hi.length := by rw [X.hi]; exact hj
  have e2 : (wide x r1 r2 r3 r4).lo.getD (v - 1).toNat 0 = mx0 (x.lo.getD (v - 1).toNat 0 - r3) := getD_map0 _ _ hj
  have e3 : (wide x r1 r2 r3 r4).hi.getD (v - 1).toNat 0 = mnK 127 (x.hi.getD (v - 1).toNat 0 + r4) := getD_map0 _ _ hj2
  rw [e2, e3]
  split at h
  · cases h
  rename_i c2
  rw [if_neg (by unfold mx0 mnK; split <;> split <;> omega)]
  split at h
  · cases h
  rename_i c3
  rw [if_neg c3]
  have e4 : (wide x r1 r2 r3 r4).gap = x.gap := rfl
  have e5 : (wide x r1 r2 r3 r4).leap = mnK 127 (x.leap + r1) := rfl
  rw [e4, e5]
  have hl := X.leap
  split at h
  · rename_i c4
    rw [if_pos c4]
    split at h
    · cases h
    · rename_i c5
      rw [if_neg (by unfold mnK; split <;> omega)]
      exact h
  · rename_i c4
    rw [if_neg c4]
    exact h
theorem evt_wide {x : Lm} (X : LmOk x) {r1 r2 r3 r4 : Int} (h1 : 0 ≤ r1) (h3 : 0 ≤ r3) (h4 : 0 ≤ r4) : ∀ (c i : Nat) (s : St) (m : Int) (l : List Nt) (ks : List Int) (d : St × Int), (∀ n ∈ l, 0 ≤ n.p ∧ n.p ≤ 127) → evt x s m i c l ks = .inr d → evt (wide x r1 r2 r3 r4) s m i c l ks = .inr d
  | 0, i, s, m, l, ks, d, hl, h => by unfold evt at h ⊢; exact h
  | c + 1, i, s, m, [], ks, d, hl, h => by simp [evt] at h
  | c + 1, i, s, m, n :: r, [], d, hl, h => by simp [evt] at h
  | c + 1, i, s, m, n :: r, k :: q, d, hl, h => by
    unfold evt at h ⊢
    cases hj : join x s n k with
    | none => rw [hj] at h; simp at h
    | some d2 =>
      rw [hj] at h
      simp only at h
      rw [join_wide X h1 h3 h4 (hl n (by simp)) hj]
      exact evt_wide X h1 h3 h4 c (i + 1) d2.2 (m + d2.1) r q d (fun x hx => hl x (by simp [hx])) h
theorem vals_wide {x : Lm} (X : LmOk x) {r1 r2 r3 r4 : Int} (h1 : 0 ≤ r1) (h2 : 0 ≤ r2) (h3 : 0 ≤ r3) (h4 : 0 ≤ r4) {l : List Nt} {ks : List Int} (hl : ∀ n ∈ l, 0 ≤ n.p ∧ n.p ≤ 127) :
    ∀ (S : List (Nat × Nat)) (s : St) (c m : Int) (z : Int × Int × Int × Int), vals x l ks s c m S = z → z.2.1 = 0 → (∀ s t, crs s t ≤ 25) → vals (wide x r1 r2 r3 r4) l ks s c m S = z
  | [], s, c, m, z, h, hz, hc => by unfold vals at h ⊢; exact h
  | (a, n) :: r, s, c, m, z, h, hz, hc => by
    unfold vals at h ⊢
    cases he : evt x s m a n (l.drop a) (ks.drop a) with
    | inl j => rw [he] at h; simp only at h; subst h; simp at hz
    | inr d =>
      rw [he] at h
      simp only at h
      rw [evt_wide X h1 h3 h4 n a s m (l.drop a) (ks.drop a) d (fun q hq => hl q (List.mem_of_mem_drop hq)) he]
      simp only
      split at h
      · subst h; simp at hz
      · rename_i c1
        have hx := X.cross
        by_cases c2 : (wide x r1 r2 r3 r4).cross < crs d.1 (frN l a)
        · have e : (wide x r1 r2 r3 r4).cross = mnK 10 (x.cross + r2) := rfl
          rw [e] at c2
          unfold mnK at c2
          split at c2 <;> omega
        · rw [if_neg c2]
          exact vals_wide X h1 h2 h3 h4 hl r d.1 _ _ z h hz hc
theorem valid_wide {x : Lm} {n : List Nt} {ks : List Int} {r1 r2 r3 r4 : Int} (hx : chkL x = 0) (h1 : 0 ≤ r1) (h2 : 0 ≤ r2) (h3 : 0 ≤ r3) (h4 : 0 ≤ r4) (h : (valid x n ks).2.1 = 0) : valid (wide x r1 r2 r3 r4) n ks = valid x n ks := by
  obtain ⟨-, hk, hb⟩ := valid_len h
  have hN : chkN n = 0 := by unfold both at hb; rw [hx] at hb; simpa using hb
  have hb' : both (wide x r1 r2 r3 r4) n = 0 := by unfold both; rw [wide_ok hx h1 h2 h3 h4, hN]; rfl
  unfold valid at h ⊢
  rw [if_neg (by omega), if_neg (by omega)] at h
  rw [if_neg (by omega), if_neg (by omega), if_neg (by omega), if_neg (by omega)]
  exact vals_wide (lmOk_of hx) h1 h2 h3 h4 (fun q hq => by have := fit_of ((ntsOk_of hN).fit q hq); unfold ntFit at this; omega) _ _ _ _ _ rfl h (fun s t => (crs_bd s t).2)
end Go.Ab.V
