/-
  What is proved here serves the law's text: each part says its own claim and its conditions. No condition is left open.
-/
import Derived.Test.YthdhhhgjdegafaaKU
import Derived.Test.YthdhhhgjdegafaaKV
set_option linter.unusedSimpArgs false
set_option linter.unusedVariables false

namespace Go.Ab.V
open Go.Proofs
def layO (ε : Nat → Nat) (j : Nat) (y : Lay) : List AObj := [.map (ε (2 * j + 2)) (mapS 0 y.1), .vec (ε (2 * j + 3)) [[.lslc 25 (rowsS y.1) 0 y.1.length false, .mp (.d (2 * j + 2)) (ε (2 * j + 2)), .nils, .nils, .lslc 1 (ints y.2) 0 y.1.length false]]]
def laysO (ε : Nat → Nat) : Nat → List Lay → List AObj
 | _, [] => []
 | j, y :: r => layO ε j y ++ laysO ε (j + 1) r
def ptrsO (ε : Nat → Nat) : Nat → List Lay → List (List AV)
 | _, [] => []
 | j, _ :: r => [.optr (.d (2 * j + 3)) (ε (2 * j + 3)) 5 0 0] :: ptrsO ε (j + 1) r
theorem lays_len {ε : Nat → Nat} : ∀ {L : List Lay} {j : Nat}, (laysO ε j L).length = 2 * L.length
 | [], _ => rfl
 | y :: r, j => by simp only [laysO, layO, List.length_append, lays_len (L := r), List.length_cons, List.length_nil]; omega
theorem lays_at {ε : Nat → Nat} : ∀ {L : List Lay} {j k : Nat} (h : k < L.length), (laysO ε j L)[2 * k + 1]? = some (.vec (ε (2 * (j + k) + 3)) [[.lslc 25 (rowsS L[k].1) 0 L[k].1.length false, .mp (.d (2 * (j + k) + 2)) (ε (2 * (j + k) + 2)), .nils, .nils, .lslc 1 (ints L[k].2) 0 L[k].1.length false]])
 | y :: r, j, 0, _ => rfl
 | y :: r, j, k + 1, h => by
  have := lays_at (ε := ε) (L := r) (j := j + 1) (k := k) (by simpa using h)
  rw [show j + 1 + k = j + (k + 1) by omega] at this
  rw [show 2 * (k + 1) + 1 = 2 * k + 1 + 1 + 1 by omega]
  exact this
theorem ptrs_at {ε : Nat → Nat} : ∀ {L : List Lay} {j k : Nat} (h : k < L.length), (ptrsO ε j L)[k]? = some [.optr (.d (2 * (j + k) + 3)) (ε (2 * (j + k) + 3)) 5 0 0]
 | y :: r, j, 0, _ => rfl
 | y :: r, j, k + 1, h => by
  have := ptrs_at (ε := ε) (L := r) (j := j + 1) (k := k) (by simpa using h)
  rw [show j + 1 + k = j + (k + 1) by omega] at this
  simpa [ptrsO] using this
theorem lays_app {ε : Nat → Nat} : ∀ {L M : List Lay} {j : Nat}, laysO ε j (L ++ M) = laysO ε j L ++ laysO ε (j + L.length) M
 | [], M, j => by simp [laysO]
 | y :: r, M, j => by simp only [List.cons_append, laysO, lays_app (L := r), List.length_cons, List.append_assoc]; rw [show j + 1 + r.length = j + (r.length + 1) by omega]
theorem ptrs_app {ε : Nat → Nat} : ∀ {L M : List Lay} {j : Nat}, ptrsO ε j (L ++ M) = ptrsO ε j L ++ ptrsO ε (j + L.length) M
 | [], M, j => by simp [ptrsO]
 | y :: r, M, j => by simp only [List.cons_append, ptrsO, ptrs_app (L := r), List.length_cons]; rw [show j + 1 + r.length = j + (r.length + 1) by omega]
def runD (x : Lm) (n : List Nt) (es e1 : Nat) (ε : Nat → Nat) (Ls : List Lay) (t : Nat) : List AObj := .vec es [srR x n (.oslc (.d 1) e1 1 0 Ls.length false) (.int .i64 (t : Int))] :: .vec e1 (ptrsO ε 0 Ls) :: laysO ε 0 Ls
def runQ (x : Lm) (n : List Nt) (R : Int × List Lay × Nat) : AV → Heap → Prop := fun r h' => ∃ es e1 ε, r = .tup [.optr (.d 0) es 8 0 0, .int .i64 R.1] ∧ h'.dy = runD x n es e1 ε R.2.1 R.2.2
theorem lay0_ok : LayOk ([st0], [1]) := ⟨by simp, fun s hs => by rw [List.mem_singleton.1 hs]; exact ⟨bd_st0, St.ok0⟩, rfl, fun z hz => by rw [List.mem_singleton.1 hz]; omega⟩
theorem row_noS (r : List AV) (h : r.all noSt = true) : ∀ a ∈ r, noSt a = true := List.all_eq_true.1 h
theorem noO_vec {e : Nat} {rows : List (List AV)} (h : ∀ r ∈ rows, ∀ a ∈ r, noSt a = true) : noO (.vec e rows) := fun a ha => by
 obtain ⟨r, hr, ha⟩ := List.mem_flatten.1 ha
 exact h r hr a ha
theorem noO_mapS {e : Nat} : ∀ {f : List St} {k : Nat}, noO (.map e (mapS k f))
 | [], k => fun a ha => by simp [mapS, celO] at ha
 | s :: r, k => fun a ha => by
  simp only [mapS, celO, List.flatMap_cons, List.mem_append] at ha
  rcases ha with ha | ha
  ·simp only [List.mem_cons, List.not_mem_nil, or_false] at ha
   rcases ha with rfl | rfl <;> rfl
  ·exact noO_mapS (e := e) (f := r) (k := k + 1) a ha
theorem laysO_no {ε : Nat → Nat} : ∀ {L : List Lay} {j : Nat}, ∀ o ∈ laysO ε j L, noO o
 | [], j, o, h => by simp [laysO] at h
 | y :: r, j, o, h => by
  simp only [laysO, layO, List.cons_append, List.nil_append, List.mem_cons] at h
  rcases h with rfl | rfl | h
  ·exact noO_mapS
  ·refine noO_vec fun r hr => ?_
   rw [List.mem_singleton] at hr
   subst hr
   exact row_noS _ rfl
  ·exact laysO_no o h
theorem ptrsO_no {ε : Nat → Nat} {e : Nat} : ∀ {L : List Lay} {j : Nat}, noO (.vec e (ptrsO ε j L)) := by
 intro L j
 refine noO_vec ?_
 induction L generalizing j with
 | nil => intro r hr; simp [ptrsO] at hr
 | cons y l ih =>
  intro r hr
  simp only [ptrsO, List.mem_cons] at hr
  rcases hr with rfl | hr
  ·exact row_noS _ rfl
  ·exact ih r hr
theorem runD_no {x : Lm} {n : List Nt} {es e1 : Nat} {ε : Nat → Nat} {Ls : List Lay} {t : Nat} : ∀ o ∈ runD x n es e1 ε Ls t, noO o := by
 intro o h
 simp only [runD, List.mem_cons] at h
 rcases h with rfl | rfl | h
 ·refine noO_vec fun r hr => ?_
  rw [List.mem_singleton] at hr
  subst hr
  exact row_noS _ rfl
 ·exact ptrsO_no
 ·exact laysO_no o h
theorem laysO_eps {ε ε' : Nat → Nat} : ∀ {L : List Lay} {j : Nat}, (∀ k, k < 2 * (j + L.length) + 2 → ε k = ε' k) → laysO ε j L = laysO ε' j L
 | [], j, h => rfl
 | y :: r, j, h => by
  simp only [laysO, layO, List.length_cons] at h ⊢
  rw [h (2 * j + 2) (by omega), h (2 * j + 3) (by omega), laysO_eps (L := r) (j := j + 1) fun k hk => h k (by omega)]
theorem ptrsO_eps {ε ε' : Nat → Nat} : ∀ {L : List Lay} {j : Nat}, (∀ k, k < 2 * (j + L.length) + 2 → ε k = ε' k) → ptrsO ε j L = ptrsO ε' j L
 | [], j, h => rfl
 | y :: r, j, h => by
  simp only [ptrsO, List.length_cons] at h ⊢
  rw [h (2 * j + 3) (by omega), ptrsO_eps (L := r) (j := j + 1) fun k hk => h k (by omega)]
theorem pure_rowsS (f : List St) : pureRows (rowsS f) := pure_map f fun x => rfl
theorem noO_ints {e : Nat} (l : List Int) : noO (.vec e (ints l)) := noO_vec fun r hr a ha => by
 obtain ⟨z, _, rfl⟩ := List.mem_map.1 hr
 rw [List.mem_singleton.1 ha]; rfl
theorem ptrs_len {ε : Nat → Nat} : ∀ {L : List Lay} {j : Nat}, (ptrsO ε j L).length = L.length
 | [], _ => rfl
 | y :: r, j => by simp only [ptrsO, List.length_cons, ptrs_len (L := r)]
theorem runD_len {x : Lm} {n : List Nt} {es e1 : Nat} {ε : Nat → Nat} {Ls : List Lay} {t : Nat} : (runD x n es e1 ε Ls t).length = 2 * Ls.length + 2 := by
 simp only [runD, List.length_cons, lays_len]
theorem runD_more {x : Lm} {n : List Nt} {es e1 : Nat} {ε ε' : Nat → Nat} {L : List Lay} {Y : Lay} {t g1 g2 : Nat} (h : ∀ k, k < 2 * L.length + 2 → ε k = ε' k) (h1 : ε' (2 * L.length + 2) = g1) (h2 : ε' (2 * L.length + 3) = g2) :
  runD x n es e1 ε' (L ++ [Y]) t = .vec es [srR x n (.oslc (.d 1) e1 1 0 (L.length + 1) false) (.int .i64 (t : Int))] :: .vec e1 (ptrsO ε 0 L ++ [[.optr (.d (2 * L.length + 3)) g2 5 0 0]]) ::
   (laysO ε 0 L ++ [.map g1 (mapS 0 Y.1), .vec g2 [[.lslc 25 (rowsS Y.1) 0 Y.1.length false, .mp (.d (2 * L.length + 2)) g1, .nils, .nils, .lslc 1 (ints Y.2) 0 Y.1.length false]]]) := by
 subst h1 h2
 unfold runD
 rw [lays_app, ptrs_app, laysO_eps (ε := ε) (ε' := ε') (L := L) (j := 0) fun k hk => h k (by omega), ptrsO_eps (ε := ε) (ε' := ε') (L := L) (j := 0) fun k hk => h k (by omega)]
 simp only [Nat.zero_add, ptrsO, laysO, layO, List.append_nil, List.length_append, List.length_cons, List.length_nil]
end Go.Ab.V

namespace Go.Ab.V
open Go.Proofs
def A35 : Ann := fun r => match r with
 | 0 => { slots := [(0, 0)] }
 | 1 => { slots := [(4, 1)] }
 | 2 => { slots := [(0, 6), (2, 7)] }
 | 5 => { slots := [(2, 4)], frz := [1011, 1012] }
 | 10 => { slots := [(7, 5)] }
 | 11 => { slots := [(0, 6), (2, 7), (3, 8)] }
 | 14 => { slots := [(3, 9), (4, 10)] }
 | 21 => { slots := [(6, 1), (7, 2)] }
 | _ => {}
set_option maxHeartbeats 16000000 in
set_option maxRecDepth 100000 in
theorem run35 (x : Lm) (n : List Nt) (X : LmOk x) (hN : chkN n = 0) :
  ACalls C.P 35 [lmA x, ntsA n] Heap.nil (Wq (runQ x n (runL x n (segR 0 n).length 0 ([st0], [1]) []))) := by
 obtain ⟨RR, hRR⟩ : ∃ RR, RR = runL x n (segR 0 n).length 0 ([st0], [1]) [] := ⟨_, rfl⟩
 rw [← hRR]
 have hlen := (ntsOk_of hN).len
 have hev := events_spec n hlen
 refine fn_of (okz [] [55, 56] []) mixed (A := A35) 13 Try.func35 rfl ?_
 (repeat' (first | ((conv => whnf); first | refine ⟨_, hev, ?_⟩ | exact rfl | exact ⟨rfl, rfl⟩ | refine go1 ?_ | (intro ep) | (refine ifB (fun hb => ?_) (fun hb => ?_) <;> (try simp only [qs] at hb) <;> (try simp (disch := omega) only [wrapI] at hb) <;> (try (exfalso; omega))) | fail)))
 all_goals (conv => whnf)
 refine ACalls.liftC 7 11 _ 25 0 0 (by decide) (by exact rfl) (by exact rfl) (by exact rfl) fun e11 => ?_
 refine ACalls.liftC 7 12 _ 1 0 4 (by decide) (by exact rfl) (by exact rfl) (by exact rfl) fun e12 => ?_
 refine ACalls.part (st1 := LY ⟨_, _, _, _, _, _, .hole, .hole, _, _, _, .hole, .hole, []⟩ _ _ e11 e12 [] []) (dy := []) 13 (by exact rfl) (by exact rfl) (by exact rfl) (add55 _ _ _ e11 e12 [] [] st0 (by simp) (by simp) bd_st0 rfl (by simp) []) ?_
 rintro r h1 hq
 obtain ⟨hr, p, q, hst, hd⟩ := wq_ex hq
 have p1 : putN [] st0 = [st0] := by simp [putN]
 have p2 : (if st0 ∈ ([] : List St) then ([] : List Int) else [] ++ [0]) = [0] := by simp
 have p3 : idxA st0 [st0] = 0 := by simp [idxA, List.findIdx_cons]
 rw [p1, p2] at hst
 rw [p1, p3] at hr
 subst hr
 rw [padTo_of hst rfl, hd]
 clear hq hst hd p1 p2 p3 h1
 unfold LY
 (repeat' (first | ((conv => whnf); first | refine ⟨pureRows_of (by kernel_rfl), by (repeat' (first | exact trivial | exact eqsP_rows _ (fun x => rfl) | ((conv => whnf); first | exact trivial | refine ⟨rfl, ?_⟩ | refine ⟨?_, ?_⟩ | fail))), by (repeat' (first | exact trivial | exact eqsP_rows _ (fun x => rfl) | ((conv => whnf); first | exact trivial | refine ⟨rfl, ?_⟩ | refine ⟨?_, ?_⟩ | fail))), by (repeat' (first | exact trivial | exact eqsP_rows _ (fun x => rfl) | ((conv => whnf); first | exact trivial | refine ⟨rfl, ?_⟩ | refine ⟨?_, ?_⟩ | fail))), ?_⟩ | refine ⟨by simp, ?_⟩ | exact rfl | exact ⟨rfl, rfl⟩ | refine go1 ?_ | (intro ep) | (refine ifB (fun hb => ?_) (fun hb => ?_) <;> (try simp only [qs] at hb) <;> (try simp (disch := omega) only [wrapI] at hb) <;> (try (exfalso; omega))) | fail)))
 all_goals (conv => whnf)
 rename_i a0 a1 a2 a3
 refine wk_mask [6, 38, 39] [1, 4, 6, 7] (fr' := frOf 0 108 [(6, .optr (.s 1) a1 8 0 0), (38, .int .i64 ((segR 0 n).length : Int)), (39, .int .i64 0)])
  (h' := ⟨[.hole, .vec a1 [srR x n (.oslc (.s 4) ep 1 0 1 false) (.int .i64 0)], .hole, .hole, .vec ep [[.optr (.s 7) a3 5 0 0]], .hole, .map a2 (mapS 0 [st0]), .vec a3 [[.lslc 25 (rowsS [st0]) 0 1 false, .mp (.s 6) a2, .nils, .nils, .lslc 1 (ints [1]) 0 1 false]], .hole, .hole, .hole, .hole, .hole], []⟩) (by exact rfl) (by exact rfl) ?_
 refine wk_mvG 1 _ (by exact rfl) (by exact rfl) (by (repeat' (first | exact trivial | exact rfl | ((conv => whnf); first | exact trivial | exact rfl | refine ⟨?_, ?_⟩ | fail)))) (by (repeat' (first | exact trivial | exact rfl | ((conv => whnf); first | exact trivial | exact rfl | refine ⟨?_, ?_⟩ | fail)))) (by (repeat' (first | exact trivial | exact rfl | ((conv => whnf); first | exact trivial | exact rfl | refine ⟨?_, ?_⟩ | fail)))) (by (repeat' (first | exact trivial | exact rfl | ((conv => whnf); first | exact trivial | exact rfl | refine ⟨?_, ?_⟩ | fail)))) fun es => ?_
 refine wk_mvG 4 _ (by exact rfl) (by exact rfl) (by (repeat' (first | exact trivial | exact rfl | ((conv => whnf); first | exact trivial | exact rfl | refine ⟨?_, ?_⟩ | fail)))) (by (repeat' (first | exact trivial | exact rfl | ((conv => whnf); first | exact trivial | exact rfl | refine ⟨?_, ?_⟩ | fail)))) (by (repeat' (first | exact trivial | exact rfl | ((conv => whnf); first | exact trivial | exact rfl | refine ⟨?_, ?_⟩ | fail)))) (by (repeat' (first | exact trivial | exact rfl | ((conv => whnf); first | exact trivial | exact rfl | refine ⟨?_, ?_⟩ | fail)))) fun g0 => ?_
 refine wk_mvG 6 _ (by exact rfl) (by exact rfl) (by (repeat' (first | exact trivial | exact rfl | ((conv => whnf); first | exact trivial | exact rfl | refine ⟨?_, ?_⟩ | fail)))) (by (repeat' (first | exact trivial | exact rfl | ((conv => whnf); first | exact trivial | exact rfl | refine ⟨?_, ?_⟩ | fail)))) (by (repeat' (first | exact trivial | exact rfl | ((conv => whnf); first | exact trivial | exact rfl | refine ⟨?_, ?_⟩ | fail)))) (by (repeat' (first | exact trivial | exact rfl | ((conv => whnf); first | exact trivial | exact rfl | refine ⟨?_, ?_⟩ | fail)))) fun g1 => ?_
 refine wk_mvG 7 _ (by exact rfl) (by exact rfl) (by (repeat' (first | exact trivial | exact rfl | ((conv => whnf); first | exact trivial | exact rfl | refine ⟨?_, ?_⟩ | fail)))) (by (repeat' (first | exact trivial | exact rfl | ((conv => whnf); first | exact trivial | exact rfl | refine ⟨?_, ?_⟩ | fail)))) (by (repeat' (first | exact trivial | exact rfl | ((conv => whnf); first | exact trivial | exact rfl | refine ⟨?_, ?_⟩ | fail)))) (by (repeat' (first | exact trivial | exact rfl | ((conv => whnf); first | exact trivial | exact rfl | refine ⟨?_, ?_⟩ | fail)))) fun g2 => ?_
 refine loopY (okz [] [55, 56] []) mixed (A := A35) [6, 38, 39] []
  (S := { z : Nat × Nat × (Nat → Nat) × List Lay × Lay // z.1 ≤ (segR 0 n).length ∧ z.2.2.2.1.length = z.1 ∧ LayOk z.2.2.2.2 ∧ (z.1 < (segR 0 n).length → z.2.2.2.2.1.length ≤ 1000) ∧ runL x n ((segR 0 n).length - z.1) z.1 z.2.2.2.2 z.2.2.2.1 = RR })
  (fr := fun z => frOf 0 108 [(6, .optr (.d 0) es 8 0 0), (38, .int .i64 ((segR 0 n).length : Int)), (39, .int .i64 (z.1.1 : Int))])
  (h := fun z => ⟨List.replicate 13 .hole, runD x n es z.1.2.1 z.1.2.2.1 (z.1.2.2.2.1 ++ [z.1.2.2.2.2]) (z.1.1 - 1)⟩) (μ := fun z => (segR 0 n).length - z.1.1)
  ⟨(0, g0, (fun k => if k = 2 then g1 else g2), [], ([st0], [1])), Nat.zero_le _, rfl, lay0_ok, fun _ => by simp, by simp only [Nat.sub_zero]; exact hRR.symm⟩ ?_ ?_
  [6] [] (S' := { z : Nat × (Nat → Nat) // RR.1 = 0 }) (X := fun _ => 0) (frX := fun _ => frOf 0 108 [(6, .optr (.d 0) es 8 0 0)]) (hX := fun z => ⟨List.replicate 13 .hole, runD x n es z.1.1 z.1.2 RR.2.1 RR.2.2⟩)
  [4, 5] [] (S2 := Nat × (Nat → Nat)) (frR := fun _ => frOf 0 108 [(4, .optr (.d 0) es 8 0 0), (5, .int .i64 RR.1)]) (hR := fun z => ⟨List.replicate 13 .hole, runD x n es z.1 z.2 RR.2.1 RR.2.2⟩) ?_ ?_ ?_
 ·exact rfl
 ·exact rfl
 ·rintro ⟨⟨i, e1, ε, Ls, y⟩, hi, hLs, hy, hl, hu⟩
  simp only at hi hLs hy hl hu
  show aexR _ _ _ (frOf 0 108 [(6, .optr (.d 0) es 8 0 0), (38, .int .i64 ((segR 0 n).length : Int)), (39, .int .i64 (i : Int))]) ⟨List.replicate 13 .hole, runD x n es e1 ε (Ls ++ [y]) (i - 1)⟩ _
  (conv => whnf)
  refine ifB (fun g => ?_) (fun g => ?_)
  ·simp only [decide_eq_true_eq] at g
   have g : i < (segR 0 n).length := by omega
   have g0 := g
   replace hl := hl g
   have hpt := ptrs_at (ε := ε) (L := Ls ++ [y]) (j := 0) (k := i) (by simp; omega)
   have hla := lays_at (ε := ε) (L := Ls ++ [y]) (j := 0) (k := i) (by simp; omega)
   rw [Nat.zero_add] at hpt hla
   have hyi : (Ls ++ [y])[i]'(by simp; omega) = y := by rw [List.getElem_append_right (by omega)]; simp [hLs]
   rw [hyi] at hla
   replace hpt : (ptrsO ε 0 (Ls ++ [y]))[0 + ((i : Nat) : Int).toNat]? = some [.optr (.d (2 * i + 3)) (ε (2 * i + 3)) 5 0 0] := by rw [Nat.zero_add, Int.toNat_natCast]; exact hpt
   have hll : (Ls ++ [y]).length = i + 1 := by simp [hLs]
   (repeat' (first | ((conv => whnf); first | refine optS hpt ?_ | refine optO hla ?_ | exact rfl | exact ⟨rfl, rfl⟩ | refine go1 ?_ | (intro ep) | (refine ifB (fun hb => ?_) (fun hb => ?_) <;> (try simp only [qs] at hb) <;> (try simp (disch := omega) only [wrapI] at hb) <;> (try (exfalso; omega))) | fail)))
   all_goals (conv => whnf)
   rename_i q5 q6 q7
   revert ep
   intro p8
   refine wk_liftC 7 11 q7 25 0 0 (by decide) (by exact rfl) (by exact rfl) (by exact rfl) ?_
   intro a0
   refine wk_liftC 7 12 q7 1 0 4 (by decide) (by exact rfl) (by exact rfl) (by exact rfl) ?_
   intro c0
   obtain ⟨kk, hkk⟩ : ∃ kk, (segR 0 n).length - i = kk + 1 := ⟨(segR 0 n).length - i - 1, by omega⟩
   rw [hkk, runL] at hu
   obtain ⟨RL, hRL⟩ : ∃ RL, RL = layF x n i (kk == 0) y.1 y.2 ([], []) := ⟨_, rfl⟩
   rw [← hRL] at hu
   have hDt : ∀ t : Nat, runD x n es e1 ε (Ls ++ [y]) t = .vec es [srR x n (.oslc (.d 1) e1 1 0 (Ls ++ [y]).length false) (.int .i64 (t : Int))] :: .vec e1 (ptrsO ε 0 (Ls ++ [y])) :: laysO ε 0 (Ls ++ [y]) := fun _ => rfl
   refine loopZ (okz [] [55, 56] []) mixed (A := A35) [6, 8, 9, 10, 38, 39, 59, 60, 61] [5, 6, 7, 8, 11, 12]
    (S := { z : Nat × Nat × Nat × Lay // z.1 ≤ y.1.length ∧ LayOk z.2.2.2 ∧ z.2.2.2.1.length ≤ 3125 * z.1 ∧ (kk ≠ 0 → z.2.2.2.1.length ≤ 1000) ∧ layF x n i (kk == 0) (y.1.drop z.1) (y.2.drop z.1) z.2.2.2 = RL })
    (fr := fun z => frOf 0 108 [(6, .optr (.d 0) es 8 0 0), (8, .int .i64 (i : Int)), (9, .optr (.s 5) q5 1 0 0), (10, .optr (.s 8) p8 1 0 0), (38, .int .i64 ((segR 0 n).length : Int)), (39, .int .i64 (i : Int)), (59, .lslc 25 (rowsS y.1) 0 y.1.length false), (60, .int .i64 (y.1.length : Int)), (61, .int .i64 (z.1.1 : Int))])
    (h := fun z => ⟨(PSl ⟨.hole, .hole, .hole, .hole, .hole, .vec q5 [[.optr (.d (2 * i + 3)) (ε (2 * i + 3)) 5 0 0]], .hole, .hole, .vec p8 [[.optr (.s 7) q7 5 0 0]], .hole, .hole, .hole, .hole, []⟩ q6 q7 z.1.2.1 z.1.2.2.1 z.1.2.2.2.1 z.1.2.2.2.2).l, runD x n es e1 ε (Ls ++ [y]) i⟩) (μ := fun z => y.1.length - z.1.1)
    ⟨(0, a0, c0, ([], [])), Nat.zero_le _, ⟨by simp, by simp, rfl, by simp⟩, by simp, fun _ => by simp, by simp only [List.drop_zero]; exact hRL.symm⟩ ?_ ?_
    [6, 8, 10, 38, 39] [6, 7, 8, 11, 12] (S' := { z : Nat × Nat × Lay // LayOk z.2.2 ∧ (kk ≠ 0 → z.2.2.1.length ≤ 1000) ∧ RL = some z.2.2 }) (X := fun _ => 2)
    (frX := fun _ => frOf 0 108 [(6, .optr (.d 0) es 8 0 0), (8, .int .i64 (i : Int)), (10, .optr (.s 8) p8 1 0 0), (38, .int .i64 ((segR 0 n).length : Int)), (39, .int .i64 (i : Int))])
    (hX := fun z => ⟨(PSl ⟨.hole, .hole, .hole, .hole, .hole, .hole, .hole, .hole, .vec p8 [[.optr (.s 7) q7 5 0 0]], .hole, .hole, .hole, .hole, []⟩ q6 q7 z.1.1 z.1.2.1 z.1.2.2.1 z.1.2.2.2).l, runD x n es e1 ε (Ls ++ [y]) i⟩)
    [4, 5] [] (S2 := { _x : Unit // RL = none }) (frR := fun _ => frOf 0 108 [(4, .optr (.d 0) es 8 0 0), (5, .int .i64 2)]) (hR := fun z => ⟨List.replicate 13 .hole, runD x n es e1 ε (Ls ++ [y]) i⟩) ?_ ?_ ?_
   ·exact rfl
   ·exact rfl
   ·rintro ⟨⟨k, em, ec, Y⟩, hk, hY, hYl, hY1, hF⟩
    simp only at hk hY hYl hY1 hF
    show aexR _ _ _ (frOf 0 108 [(6, .optr (.d 0) es 8 0 0), (8, .int .i64 (i : Int)), (9, .optr (.s 5) q5 1 0 0), (10, .optr (.s 8) p8 1 0 0), (38, .int .i64 ((segR 0 n).length : Int)), (39, .int .i64 (i : Int)), (59, .lslc 25 (rowsS y.1) 0 y.1.length false), (60, .int .i64 (y.1.length : Int)), (61, .int .i64 (k : Int))])
     ⟨(PSl ⟨.hole, .hole, .hole, .hole, .hole, .vec q5 [[.optr (.d (2 * i + 3)) (ε (2 * i + 3)) 5 0 0]], .hole, .hole, .vec p8 [[.optr (.s 7) q7 5 0 0]], .hole, .hole, .hole, .hole, []⟩ q6 q7 em ec Y.1 Y.2).l, runD x n es e1 ε (Ls ++ [y]) i⟩ _
    (conv => whnf)
    refine ifB (fun g => ?_) (fun g => ?_)
    ·simp only [decide_eq_true_eq] at g
     have g : k < y.1.length := by omega
     have hrow : (rowsS y.1)[0 + ((k : Nat) : Int).toNat]? = some y.1[k].row := mapR (f := St.row) g
     have hvk := hy.bd _ (List.getElem_mem g)
     have hkc : k < y.2.length := by rw [hy.len]; exact g
     have hdr : y.1.drop k = y.1[k] :: y.1.drop (k + 1) := List.drop_eq_getElem_cons g
     have hdc : y.2.drop k = y.2[k] :: y.2.drop (k + 1) := List.drop_eq_getElem_cons hkc
     rw [hdr, hdc, layF] at hF
     simp only [List.headD_cons, List.drop_succ_cons, List.drop_zero] at hF
     have hwk := hy.cnt _ (List.getElem_mem hkc)
     have hZ := evJ_ok hwk (mvE_to X hN i hvk) hY _ (Nat.le_refl _)
     have hZm := mvE_len X hN i y.1[k]
     rw [← evL_evJ] at hZ
     have hRP := fun (o9 o10 : AObj) (e9 : Nat) (h9 : o9 = .vec e9 [[.int .i64 (k : Int)]]) (caps : List AV) (hc : caps = [.optr (.s 8) p8 1 0 0, .optr (.s 5) q5 1 0 0, .optr (.s 9) e9 1 0 0]) (a cnt : Nat) (q : AObj) (e13 e14 e16 e17 e18 e19 : Nat) =>
      runP_ev ⟨x, n, i, a, cnt, .oslc (.d 1) e1 1 0 (Ls ++ [y]).length false, .int .i64 (i : Int), 57, caps, q, es, e13, e14, e16, e17, e18, e19⟩ X hN y.1[k] hvk
       ⟨.hole, .hole, .hole, .hole, .hole, .vec q5 [[.optr (.d (2 * i + 3)) (ε (2 * i + 3)) 5 0 0]], .hole, .hole, .vec p8 [[.optr (.s 7) q7 5 0 0]], o9, o10, .hole, .hole, .vec e1 (ptrsO ε 0 (Ls ++ [y])) :: laysO ε 0 (Ls ++ [y])⟩
       q6 q7 em ec p8 q5 e9 (2 * i + 3) (ε (2 * i + 3)) k (.lslc 25 (rowsS y.1) 0 y.1.length false) (.mp (.d (2 * i + 2)) (ε (2 * i + 2))) .nils .nils y.2 rfl rfl h9 hc rfl
       (by rw [show 2 * i + 3 = (2 * i + 1) + 2 by omega]; simp only [ME.ob, List.getElem?_cons_succ]; rw [hla, hy.len]) hkc hy.cnt Y hY (by omega)
     generalize hv : y.1[k] = v at hrow hvk hF hZ hZm hRP
     generalize hw : y.2[k] = w at hF hZ hRP
     simp only at hRP
     generalize hZe : evL x n i v w Y = Z at hF hZ hRP
     have hstep : (kk ≠ 0 ∧ 1000 < Z.1.length ∧ RL = none) ∨ (¬ (kk ≠ 0 ∧ 1000 < Z.1.length) ∧ layF x n i (kk == 0) (y.1.drop (k + 1)) (y.2.drop (k + 1)) Z = RL) := by
      by_cases c : kk ≠ 0 ∧ 1000 < Z.1.length
      ·left
       rw [if_pos ⟨by simp [c.1], c.2⟩] at hF
       exact ⟨c.1, c.2, hF.symm⟩
      ·right
       rw [if_neg (fun h => c ⟨by intro e; rw [e] at h; simp at h, h.2⟩)] at hF
       exact ⟨c, hF⟩
     (repeat' (first | ((conv => whnf); first | refine optS hrow ?_ | exact rfl | exact ⟨rfl, rfl⟩ | refine go1 ?_ | (intro ep) | (refine ifB (fun hb => ?_) (fun hb => ?_) <;> (try simp only [qs] at hb) <;> (try simp (disch := omega) only [wrapI] at hb) <;> (try (exfalso; omega))) | fail)))
     all_goals (conv => whnf)
     rename_i p9
     refine ACalls.part (st1 := (PSl ⟨.hole, .hole, .hole, .hole, .hole, .vec q5 [[.optr (.d (2 * i + 3)) (ε (2 * i + 3)) 5 0 0]], .hole, .hole, .vec p8 [[.optr (.s 7) q7 5 0 0]], .vec p9 [[.int .i64 (k : Int)]], .vec ep [v.row], .hole, .hole, []⟩ q6 q7 em ec Y.1 Y.2).l) (dy := runD x n es e1 ε (Ls ++ [y]) i) 13 (by exact rfl) (by exact rfl) (by exact rfl)
      (moves56 x n i (.oslc (.d 1) e1 1 0 (Ls ++ [y]).length false) (.int .i64 (i : Int)) 57 _ es v (PSl ⟨.hole, .hole, .hole, .hole, .hole, .vec q5 [[.optr (.d (2 * i + 3)) (ε (2 * i + 3)) 5 0 0]], .hole, .hole, .vec p8 [[.optr (.s 7) q7 5 0 0]], .vec p9 [[.int .i64 (k : Int)]], .vec ep [v.row], .hole, .hole, .vec e1 (ptrsO ε 0 (Ls ++ [y])) :: laysO ε 0 (Ls ++ [y])⟩ q6 q7 em ec Y.1 Y.2)
       (fun S' => ∃ a c, S' = PSl ⟨.hole, .hole, .hole, .hole, .hole, .vec q5 [[.optr (.d (2 * i + 3)) (ε (2 * i + 3)) 5 0 0]], .hole, .hole, .vec p8 [[.optr (.s 7) q7 5 0 0]], .vec p9 [[.int .i64 (k : Int)]], .vec ep [v.row], .hole, .hole, .vec e1 (ptrsO ε 0 (Ls ++ [y])) :: laysO ε 0 (Ls ++ [y])⟩ q6 q7 a c Z.1 Z.2) X hN g0 (.inl rfl) hvk.2 (hRP _ _ p9 rfl _ rfl)) ?_
     rintro r h1 ho
     obtain ⟨S', ⟨a', c', rfl⟩, hst, hd⟩ := ou_ex ho
     rw [padTo_of hst rfl, hd]
     refine (forceV_eq r _).mpr ?_
     have hN5 := segR_lenle n
     have hN6 := (ntsOk_of hN).len
     rcases hstep with ⟨c1, c2, c3⟩ | ⟨c1, c3⟩
     ·(repeat' (first | ((conv => whnf); first | exact rfl | exact ⟨rfl, rfl⟩ | refine go1 ?_ | (intro ep) | (refine ifB (fun hb => ?_) (fun hb => ?_) <;> (try simp only [qs] at hb) <;> (try simp (disch := omega) only [wrapI] at hb) <;> (try (exfalso; omega))) | fail)))
      all_goals (conv => whnf)
      exact back_of ⟨(), c3⟩ ⟨rfl, rfl⟩
     ·(repeat' (first | ((conv => whnf); first | exact rfl | exact ⟨rfl, rfl⟩ | refine go1 ?_ | (intro ep) | (refine ifB (fun hb => ?_) (fun hb => ?_) <;> (try simp only [qs] at hb) <;> (try simp (disch := omega) only [wrapI] at hb) <;> (try (exfalso; omega))) | fail)))
      all_goals (conv => whnf)
      all_goals refine back_of ⟨(k + 1, a', c', Z), by simp only; omega, hZ.1, by simp only; omega, by simp only; omega, c3⟩ ⟨by (first | exact rfl | (simp (disch := omega) only [wrapI]; exact rfl)), rfl, by simp only; omega⟩
    ·simp only [decide_eq_false_iff_not] at g
     have hke : k = y.1.length := by omega
     rw [hke, List.drop_of_length_le (Nat.le_refl _), layF] at hF
     (repeat' (first | ((conv => whnf); first | exact rfl | exact ⟨rfl, rfl⟩ | refine go1 ?_ | (intro ep) | fail)))
     all_goals (conv => whnf)
     exact back_of ⟨(em, ec, Y), hY, hY1, hF.symm⟩ ⟨rfl, rfl, rfl⟩
   ·rintro ⟨_, hz⟩
    rw [hz] at hu
    simp only at hu
    refine tr_done ?_
    (repeat' (first | ((conv => whnf); first | exact rfl | exact ⟨rfl, rfl⟩ | refine go1 ?_ | (intro ep) | fail)))
    all_goals (conv => whnf)
    rw [← hu]
    exact back_of (e1, ε) ⟨rfl, rfl⟩
   ·rintro ⟨⟨a, c, Y⟩, hY, hY1, hRY⟩
    simp only at hY hY1 hRY
    rw [hRY] at hu
    simp only at hu
    by_cases cY : Y.1 = []
    ·rw [if_pos cY] at hu
     have cL : Y.1.length = 0 := by rw [cY]; rfl
     refine tr_done ?_
     (repeat' (first | ((conv => whnf); first | exact rfl | exact ⟨rfl, rfl⟩ | refine go1 ?_ | (intro ep) | (refine ifB (fun hb => ?_) (fun hb => ?_) <;> (try simp only [qs] at hb) <;> (try simp (disch := omega) only [wrapI] at hb) <;> (try (exfalso; omega))) | fail)))
     all_goals (conv => whnf)
     rw [← hu]
     exact back_of (e1, ε) ⟨rfl, rfl⟩
    ·rw [if_neg cY] at hu
     have cL : Y.1.length ≠ 0 := fun h => cY (List.eq_nil_of_length_eq_zero h)
     have hcl := hY.len
     have hDl : (runD x n es e1 ε (Ls ++ [y]) i).length = 2 * i + 4 := by rw [runD_len, hll]; omega
     refine tr_fz 11 a (rows := rowsS Y.1) (fr' := frOf 0 108 [(6, .optr (.d 0) es 8 0 0), (8, .int .i64 (i : Int)), (10, .optr (.s 8) p8 1 0 0), (38, .int .i64 ((segR 0 n).length : Int)), (39, .int .i64 (i : Int))])
      (st' := [.hole, .hole, .hole, .hole, .hole, .hole, .map q6 (mapS 0 Y.1), .vec q7 [[.lslc 25 (rowsS Y.1) 0 Y.1.length false, .mp (.s 6) q6, .nils, .nils, .oslc (.s 12) c 1 0 Y.1.length false]], .vec p8 [[.optr (.s 7) q7 5 0 0]], .hole, .hole, .hole, .vec c (ints Y.2)])
      (by exact rfl) (pure_rowsS Y.1) (by (repeat' (first | exact trivial | exact rfl | ((conv => whnf); first | exact trivial | exact rfl | refine ⟨?_, ?_⟩ | fail)))) ⟨trivial, trivial, trivial, trivial, trivial, trivial, eqsP_noSt noO_mapS, by (repeat' (first | exact trivial | exact rfl | ((conv => whnf); first | exact trivial | exact rfl | refine ⟨?_, ?_⟩ | fail))), by (repeat' (first | exact trivial | exact rfl | ((conv => whnf); first | exact trivial | exact rfl | refine ⟨?_, ?_⟩ | fail))), trivial, trivial, trivial, eqsP_noSt (noO_ints Y.2), trivial⟩ runD_no rfl ?_ ?_
     ·show [.hole, .hole, .hole, .hole, .hole, .hole, AObj.fcO 11 (rowsS Y.1) (.map q6 (mapS 0 Y.1)), _, _, .hole, .hole, .hole, AObj.fcO 11 (rowsS Y.1) (.vec c (ints Y.2))] = _
      rw [fcO_noO noO_mapS, fcO_noO (noO_ints Y.2)]
      exact rfl
     refine tr_fz 12 c (rows := ints Y.2) (fr' := frOf 0 108 [(6, .optr (.d 0) es 8 0 0), (8, .int .i64 (i : Int)), (10, .optr (.s 8) p8 1 0 0), (38, .int .i64 ((segR 0 n).length : Int)), (39, .int .i64 (i : Int))])
      (st' := [.hole, .hole, .hole, .hole, .hole, .hole, .map q6 (mapS 0 Y.1), .vec q7 [[.lslc 25 (rowsS Y.1) 0 Y.1.length false, .mp (.s 6) q6, .nils, .nils, .lslc 1 (ints Y.2) 0 Y.1.length false]], .vec p8 [[.optr (.s 7) q7 5 0 0]], .hole, .hole, .hole, .hole])
      (by exact rfl) (pure_ints Y.2) (by (repeat' (first | exact trivial | exact rfl | ((conv => whnf); first | exact trivial | exact rfl | refine ⟨?_, ?_⟩ | fail)))) ⟨trivial, trivial, trivial, trivial, trivial, trivial, eqsP_noSt noO_mapS, by (repeat' (first | exact trivial | exact rfl | ((conv => whnf); first | exact trivial | exact rfl | refine ⟨?_, ?_⟩ | fail))), by (repeat' (first | exact trivial | exact rfl | ((conv => whnf); first | exact trivial | exact rfl | refine ⟨?_, ?_⟩ | fail))), trivial, trivial, trivial, trivial, trivial⟩ runD_no rfl ?_ ?_
     ·show [.hole, .hole, .hole, .hole, .hole, .hole, AObj.fcO 12 (ints Y.2) (.map q6 (mapS 0 Y.1)), _, _, .hole, .hole, .hole, .hole] = _
      rw [fcO_noO noO_mapS]
      exact rfl
     refine tr_mvG 6 q6 (by exact rfl) (by exact rfl) (by (repeat' (first | exact trivial | exact rfl | ((conv => whnf); first | exact trivial | exact rfl | refine ⟨?_, ?_⟩ | fail)))) (by (repeat' (first | exact trivial | exact rfl | ((conv => whnf); first | exact trivial | exact rfl | refine ⟨?_, ?_⟩ | fail)))) (noO_eqs noO_mapS) runD_no fun g1 => ?_
     rw [hDl, show AObj.mapc (mcG 6 (2 * i + 4) g1) (AObj.reEp g1 (.map q6 (mapS 0 Y.1))) = .map g1 (mapS 0 Y.1) from noO_map (o := .map g1 (mapS 0 Y.1)) noO_mapS]
     have hDn : ∀ o ∈ runD x n es e1 ε (Ls ++ [y]) i ++ [.map g1 (mapS 0 Y.1)], noO o := fun o ho => by
      rcases List.mem_append.1 ho with h | h
      ·exact runD_no o h
      ·rw [List.mem_singleton.1 h]; exact noO_mapS
     refine tr_mvG 7 q7 (o := .vec q7 [[.lslc 25 (rowsS Y.1) 0 Y.1.length false, .mp (.d (2 * i + 4)) g1, .nils, .nils, .lslc 1 (ints Y.2) 0 Y.1.length false]]) (by exact rfl) (by exact rfl) (by (repeat' (first | exact trivial | exact rfl | ((conv => whnf); first | exact trivial | exact rfl | refine ⟨?_, ?_⟩ | fail)))) (by (repeat' (first | exact trivial | exact rfl | ((conv => whnf); first | exact trivial | exact rfl | refine ⟨?_, ?_⟩ | fail)))) (by (repeat' (first | exact trivial | exact rfl | ((conv => whnf); first | exact trivial | exact rfl | refine ⟨?_, ?_⟩ | fail)))) hDn fun g2 => ?_
     rw [show (runD x n es e1 ε (Ls ++ [y]) i ++ [AObj.map g1 (mapS 0 Y.1)]).length = 2 * i + 5 from by simp [hDl]]
     refine tr_eq (fr' := frOf 0 108 [(6, .optr (.d 0) es 8 0 0), (8, .int .i64 (i : Int)), (10, .optr (.s 8) p8 1 0 0), (38, .int .i64 ((segR 0 n).length : Int)), (39, .int .i64 (i : Int))])
      (h' := ⟨[.hole, .hole, .hole, .hole, .hole, .hole, .hole, .hole, .vec p8 [[.optr (.d (2 * i + 5)) g2 5 0 0]], .hole, .hole, .hole, .hole], .vec es [srR x n (.oslc (.d 1) e1 1 0 (Ls ++ [y]).length false) (.int .i64 (i : Int))] :: .vec e1 (ptrsO ε 0 (Ls ++ [y])) :: (laysO ε 0 (Ls ++ [y]) ++ [.map g1 (mapS 0 Y.1), .vec g2 [[.lslc 25 (rowsS Y.1) 0 Y.1.length false, .mp (.d (2 * i + 4)) g1, .nils, .nils, .lslc 1 (ints Y.2) 0 Y.1.length false]]])⟩) rfl ?_ (tr_done ?_)
     ·refine congrArg₂' Heap.mk rfl ?_
      rw [List.append_assoc]
      exact rfl
     have hlk : (laysO ε 0 (Ls ++ [y]) ++ [.map g1 (mapS 0 Y.1), .vec g2 [[.lslc 25 (rowsS Y.1) 0 Y.1.length false, .mp (.d (2 * i + 4)) g1, .nils, .nils, .lslc 1 (ints Y.2) 0 Y.1.length false]]])[2 * i + 3]? = some (.vec g2 [[.lslc 25 (rowsS Y.1) 0 Y.1.length false, .mp (.d (2 * i + 4)) g1, .nils, .nils, .lslc 1 (ints Y.2) 0 Y.1.length false]]) := by
      have e : (laysO ε 0 (Ls ++ [y])).length = 2 * i + 2 := by rw [lays_len, hll]; omega
      rw [List.getElem?_append_right (by omega), e, show 2 * i + 3 - (2 * i + 2) = 1 by omega]
      rfl
     have hN5 := segR_lenle n
     have t3 : List.take (Ls ++ [y]).length (List.drop 0 (ptrsO ε 0 (Ls ++ [y]))) = ptrsO ε 0 (Ls ++ [y]) := by rw [List.drop_zero, List.take_of_length_le (by rw [ptrs_len]; omega)]
     have hpl : (ptrsO ε 0 (Ls ++ [y])).length = i + 1 := by rw [ptrs_len, hll]
     (repeat' (first | ((conv => whnf); first | refine optO hlk ?_ | exact rfl | exact ⟨rfl, rfl⟩ | refine go1 ?_ | (intro ep) | (refine ifB (fun hb => ?_) (fun hb => ?_) <;> (try simp only [qs] at hb) <;> (try simp (disch := omega) only [wrapI] at hb) <;> (try (exfalso; omega))) | fail)))
     all_goals (conv => whnf)
     have hmore := runD_more (x := x) (n := n) (es := es) (e1 := ep) (ε := ε) (ε' := fun k => if k = 2 * (i + 1) + 2 then g1 else if k = 2 * (i + 1) + 3 then g2 else ε k) (L := Ls ++ [y]) (Y := Y) (t := i) (g1 := g1) (g2 := g2)
      (fun k hk => by rw [hll] at hk; show ε k = if k = 2 * (i + 1) + 2 then g1 else if k = 2 * (i + 1) + 3 then g2 else ε k; rw [if_neg (by omega), if_neg (by omega)]) (by rw [hll]; simp) (by rw [hll]; simp)
     refine back_of ⟨(i + 1, ep, (fun k => if k = 2 * (i + 1) + 2 then g1 else if k = 2 * (i + 1) + 3 then g2 else ε k), Ls ++ [y], Y), by simp only; omega, hll, hY, fun h => hY1 (by simp only at h; omega), ?_⟩ ⟨by (first | exact rfl | (simp (disch := omega) only [wrapI]; exact rfl)), ?_, by simp only; omega⟩
     ·show runL x n ((segR 0 n).length - (i + 1)) (i + 1) Y (Ls ++ [y]) = RR
      rw [show (segR 0 n).length - (i + 1) = kk by omega]
      exact hu
     ·show maskH 0 [] _ = ⟨List.replicate 13 .hole, runD x n es ep (fun k => if k = 2 * (i + 1) + 2 then g1 else if k = 2 * (i + 1) + 3 then g2 else ε k) ((Ls ++ [y]) ++ [Y]) i⟩
      rw [← t3, show 2 * (Ls ++ [y]).length + 3 = 2 * i + 5 by omega, show 2 * (Ls ++ [y]).length + 2 = 2 * i + 4 by omega] at hmore
      rw [hmore]
      exact rfl
  ·simp only [decide_eq_false_iff_not] at g
   have e : i = (segR 0 n).length := by omega
   rw [show (segR 0 n).length - i = 0 by omega, runL] at hu
   (repeat' (first | ((conv => whnf); first | exact rfl | exact ⟨rfl, rfl⟩ | refine go1 ?_ | (intro ep) | fail)))
   all_goals (conv => whnf)
   rw [← hu]
   exact back_of ⟨(e1, ε), rfl⟩ ⟨rfl, rfl, rfl⟩
 ·rintro ⟨e1, ε⟩
  (repeat' (first | ((conv => whnf); first | exact rfl | exact ⟨rfl, rfl⟩ | refine go1 ?_ | (intro ep) | fail)))
  all_goals (conv => whnf)
  exact wq_of ⟨es, e1, ε, rfl, rfl⟩
 ·rintro ⟨⟨e1, ε⟩, h0⟩
  (repeat' (first | ((conv => whnf); first | exact rfl | exact ⟨rfl, rfl⟩ | refine go1 ?_ | (intro ep) | fail)))
  all_goals (conv => whnf)
  exact wq_of ⟨es, e1, ε, by rw [h0], rfl⟩
end Go.Ab.V
