/-
  What is proved here serves the law's text: each part says its own claim and its conditions. No condition is left open.
-/
import Derived.Test.YthdhhhgjdegafaaKX
import Derived.Test.YthdhhhgjdegafaaKY
set_option linter.unusedSimpArgs false
set_option linter.unusedVariables false

namespace Go.Ab.V
open Go.Proofs
def rmvR (h : RMv) : List AV := [intsA h.ks, .int .i64 (h.to : Int), .int .i64 h.c, .int .i64 h.m]
def hereA (l : List RMv) : AV := .lslc 4 (l.map rmvR) 0 l.length false
def movesA (l : List (List RMv)) : AV := .lslc 1 (l.map fun h => [hereA h]) 0 l.length false
def stepsA (l : Steps) : AV := .lslc 1 (l.map fun h => [movesA h]) 0 l.length false
abbrev rowsM (l : List RMv) : List (List AV) := l.map rmvR
abbrev rowsH (l : List (List RMv)) : List (List AV) := l.map fun h => [hereA h]
abbrev rowsO (l : Steps) : List (List AV) := l.map fun h => [movesA h]
theorem segR_lenle' (n : List Nt) : (segR 0 n).length ≤ n.length := by
 have key : ∀ (k : Nat) (o : Nat) (l : List Nt), l.length ≤ k → (segR o l).length ≤ l.length := by
  intro k
  induction k with
  | zero => intro o l h; have : l = [] := List.length_eq_zero_iff.1 (by omega); subst this; simp [segR]
  | succ k ih =>
   intro o l h
   cases l with
   | nil => simp [segR]
   | cons a r =>
    rw [segR_cons]
    have h2 := ih (o + (run1 a.e r + 1)) ((a :: r).drop (run1 a.e r + 1)) (by simp at h ⊢; omega)
    simp only [List.length_cons, List.length_drop] at h2 ⊢
    omega
 exact key _ 0 n (Nat.le_refl _)
theorem pure_rowsM (l : List RMv) : pureRows (rowsM l) := pure_map l fun x => rfl
theorem pure_rowsH (l : List (List RMv)) : pureRows (rowsH l) := pure_map l fun x => rfl
theorem pure_rowsO (l : Steps) : pureRows (rowsO l) := pure_map l fun x => rfl
theorem pure_rowsZ (l : List (List Int)) : pureRows (rowsZ l) := by
 intro row hr c hc
 obtain ⟨x, _, rfl⟩ := List.mem_map.1 hr
 unfold arr at hc
 obtain ⟨z, _, rfl⟩ := List.mem_map.1 hc
 rfl
theorem noS_rowsZ (l : List (List Int)) : ∀ r ∈ rowsZ l, r.all noS = true := by
 intro row hr
 obtain ⟨x, _, rfl⟩ := List.mem_map.1 hr
 refine List.all_eq_true.2 fun c hc => ?_
 unfold arr at hc
 obtain ⟨z, _, rfl⟩ := List.mem_map.1 hc
 rfl
theorem eqsP_flat {n ep : Nat} {rows : List (List AV)} (h : ∀ r ∈ rows, r.all noS = true) : eqsP n ep rows.flatten := eqsP_no fun a ha => by
 obtain ⟨r, hr, ha⟩ := List.mem_flatten.1 ha
 exact List.all_eq_true.1 (h r hr) a ha
theorem fcS_flat {n : Nat} {R rows : List (List AV)} (h : ∀ r ∈ rows, r.all noS = true) : rows.map (fun r : List AV => r.map (fcS n R)) = rows := by
 conv => rhs; rw [← List.map_id rows]
 refine List.map_congr_left fun r hr => ?_
 conv => rhs; rw [id, ← List.map_id r]
 exact List.map_congr_left fun a ha => fcS_no (List.all_eq_true.1 (h r hr) a ha)
theorem anyM_snoc (mv : List (List RMv)) (h : List RMv) : anyM (mv ++ [h]) = (anyM mv || !h.isEmpty) := by unfold anyM; simp
theorem idxA_not {D : List (List Int)} {z : List Int} (h : z ∉ D) : idxA z D = D.length := idxA_none fun j hj => fun e => h (List.mem_of_getElem? e)
def expV (r : Steps × Int × Int) : AV := .tup [if r.2.2 = 0 then stepsA r.1 else .nils, .int .i64 r.2.1, .int .i64 r.2.2]
def A39 : Ann := fun r => match r with
 | 0 => { slots := [(0, 0)] }
 | 3 => { slots := [(1, 1)], frz := [9] }
 | 10 => { lifts := [(11, 4, 5), (12, 8, 1)] }
 | 15 => { lifts := [(16, 6, 4)] }
 | 18 => { slots := [(25, 2)] }
 | 26 => { slots := [(2, 3), (3, 4)] }
 | 27 => { slots := [(9, 5), (10, 6)] }
 | 28 => { slots := [(2, 7), (3, 8)], frz := [1006] }
 | 33 => { slots := [(2, 9), (3, 10)], frz := [1008] }
 | 34 => { frz := [9] }
 | _ => {}
set_option maxHeartbeats 16000000 in
set_option maxRecDepth 100000 in
theorem explore39 (x : Lm) (n : List Nt) (X : LmOk x) (hN : chkN n = 0) : PRet C.P 39 [lmA x, ntsA n] (expV (expR x n (segR 0 n) 0 [[0, 0, 0, 0, 0]] [])) := by
 obtain ⟨RR, hRR⟩ : ∃ RR, RR = expR x n (segR 0 n) 0 [[0, 0, 0, 0, 0]] [] := ⟨_, rfl⟩
 rw [← hRR]
 obtain ⟨V, hV⟩ : ∃ V, V = expV RR := ⟨_, rfl⟩
 refine Eq.mp (congrArg (fun v => PRet C.P 39 _ v) hV) ?_
 have NN := ntsOk_of hN
 have hlen := NN.len
 have hev := refEvents_spec n hlen
 have hch : Chain n.length 0 (segR 0 n) := by have := chain_segR n.length 0 n (Nat.le_refl _); rwa [Nat.zero_add] at this
 have hseg : ∀ q ∈ segR 0 n, SegOk n q.1 q.2 := fun q hq => segR_ok n n.length 0 (by omega) (fun h => by omega) q (by rw [List.drop_zero]; exact hq)
 have hSl := segR_lenle' n
 have hbl : (bnds n).length = (segR 0 n).length + 1 := by unfold bnds; simp
 have hbn := fun (j b : Nat) (h : Chain n.length b ((segR 0 n).drop j)) (hj : j ≤ (segR 0 n).length) => bnds_next h hj
 have hbI : ∀ (j b : Nat), Chain n.length b ((segR 0 n).drop j) → j ≤ (segR 0 n).length → (ints (bnds n))[0 + ((j : Nat) : Int).toNat]? = some [.int .i64 (b : Int)] := fun j b h hj => by
  have h1 := hbn j b h hj
  unfold ints
  rw [Nat.zero_add, Int.toNat_natCast, List.getElem?_map]
  unfold bnds
  rw [h1]; rfl
 clear hbn
 refine pret_of (okx [] [66]) mixed (A := A39) 11 Try.func39 rfl ?_
 (conv => whnf)
 intro e0
 (repeat' (first | exact rfl | ((conv => whnf); first | refine ⟨_, hev, ?_⟩ | refine ⟨pureRows_of1 (by kernel_rfl), ?_⟩ | exact rfl | exact ⟨rfl, rfl⟩ | refine dk (by kernel_rfl) ?_ | refine pk (by kernel_rfl) ?_ | refine ⟨rfl, ?_⟩ | refine ⟨by (first | omega | (simp (disch := omega) only [wrapI]; first | omega | (simp; omega)) | (simp; omega)), ?_⟩ | (intro ep) | fail)))
 all_goals (conv => whnf)
 refine wk_lift 8 10 1 rfl ?_
 intro eo
 generalize hS : segR 0 n = S at *
 refine loopY (okx [] [66]) mixed (A := A39) [1, 2, 7, 8, 9, 10] [0, 10]
  (S := { z : Nat × Nat × Nat × List (List Int) × Steps // z.2.1 ≤ S.length ∧ z.2.2.2.2.length = z.2.1 ∧ Chain n.length z.2.2.1 (S.drop z.2.1) ∧ (∀ s ∈ z.2.2.2.1, ZOk x.lo.length z.2.2.1 s) ∧ z.2.2.2.1.length ≤ 1000 ∧ expR x n (S.drop z.2.1) z.2.1 z.2.2.2.1 z.2.2.2.2 = RR })
  (fr := fun z => frOf 0 147 [(1, ntsA n), (2, .optr (.s 0) e0 5 0 0), (7, intsA (bnds n)), (8, .oslc (.s 10) z.1.1 1 0 z.1.2.2.2.2.length false), (9, .lslc 5 (rowsZ z.1.2.2.2.1) 0 z.1.2.2.2.1.length false), (10, .int .i64 (z.1.2.1 : Int))])
  (h := fun z => ⟨[.vec e0 [lmR x], .hole, .hole, .hole, .hole, .hole, .hole, .hole, .hole, .hole, .vec z.1.1 (rowsO z.1.2.2.2.2)], []⟩) (μ := fun z => S.length - z.1.2.1)
  ⟨(eo, 0, 0, [[0, 0, 0, 0, 0]], []), Nat.zero_le _, rfl, hch, fun s hs => by rw [List.mem_singleton.1 hs]; exact ZOk.zero _, by simp, by rw [hRR]; rfl⟩ ?_ ?_
  [8] [10] (S' := { z : Nat × Steps // (z.2, (0 : Int), (0 : Int)) = RR ∧ z.2.length ≤ 5600 }) (X := fun _ => 0) (frX := fun z => frOf 0 147 [(8, .oslc (.s 10) z.1.1 1 0 z.1.2.length false)]) (hX := fun z => ⟨[.hole, .hole, .hole, .hole, .hole, .hole, .hole, .hole, .hole, .hole, .vec z.1.1 (rowsO z.1.2)], []⟩)
  [4, 5, 6] [] (S2 := { z : Int × Int // z.2 ≠ 0 ∧ RR.2 = z }) (frR := fun z => frOf 0 147 [(4, .nils), (5, .int .i64 z.1.1), (6, .int .i64 z.1.2)]) (hR := fun _ => ⟨List.replicate 11 .hole, []⟩) ?_ ?_ ?_
 ·show maskF 0 _ _ = frOf 0 147 [(1, ntsA n), (2, .optr (.s 0) e0 5 0 0), (7, intsA (bnds n)), (8, .oslc (.s 10) eo 1 0 0 false), (9, .lslc 5 [[.int .i64 0, .int .i64 0, .int .i64 0, .int .i64 0, .int .i64 0]] 0 1 false), (10, .int .i64 0)]
  subst hS
  exact rfl
 ·exact rfl
 ·rintro ⟨⟨eo, i, a, st, out⟩, hi, hout, hch, hst, hstl, hu⟩
  simp only at hi hout hch hst hstl hu
  show aexR _ _ _ (frOf 0 147 [(1, ntsA n), (2, .optr (.s 0) e0 5 0 0), (7, intsA (bnds n)), (8, .oslc (.s 10) eo 1 0 out.length false), (9, .lslc 5 (rowsZ st) 0 st.length false), (10, .int .i64 (i : Int))]) ⟨[.vec e0 [lmR x], .hole, .hole, .hole, .hole, .hole, .hole, .hole, .hole, .hole, .vec eo (rowsO out)], []⟩ _
  (conv => whnf)
  refine ifB (fun g => ?_) (fun g => ?_)
  ·have g : i < S.length := by
    simp only [decide_eq_true_eq] at g
    rw [wrapI (by omega) (by omega)] at g
    have e : ((bnds n).length : Int) = (S.length : Int) + 1 := by rw [hbl]; simp
    omega
   have hb0 := hbI i a hch hi
   have hmem : S[i] ∈ S := List.getElem_mem g
   rw [List.drop_eq_getElem_cons g] at hu hch
   have sg := hseg _ hmem
   generalize S[i] = q at sg hu hch
   obtain ⟨a', cnt⟩ := q
   obtain ⟨rfl, hcnt, hch⟩ := hch
   simp only at sg
   have hle := sg.le
   have hw1 : IntKind.i64.wrap ((i : Int) + 1) = ((i + 1 : Nat) : Int) := by rw [wrapI (by omega) (by omega)]; omega
   have hb1 := hbI (i + 1) (a' + cnt) hch g
   rw [← hw1] at hb1
   have hch63 := optsR_walk X (cnt := cnt) (z := IntKind.i64.wrap (((a' + cnt : Nat) : Int) - (a' : Int))) (by omega) (by rw [wrapI (by omega) (by omega)]; omega)
   rw [expR] at hu
   obtain ⟨E, hE⟩ : ∃ E, E = rEv x n a' cnt st := ⟨_, rfl⟩
   rw [← hE] at hu
   unfold rEv rMoves at hE
   have hol := optsR_len X cnt
   have hom := optsR_mem (x := x) (cnt := cnt)
   generalize optsR x cnt = opts at hE hch63 hol hom
   have hbk : (i : Int) + 1 < ((bnds n).length : Int) := by rw [hbl]; omega
   (repeat' (first | exact rfl | ((conv => whnf); first | refine optS hb0 ?_ | refine optS hb1 ?_ | refine ⟨_, hch63, ?_⟩ | exact rfl | exact ⟨rfl, rfl⟩ | refine dk (by kernel_rfl) ?_ | refine pk (by kernel_rfl) ?_ | refine ⟨rfl, ?_⟩ | refine ⟨by (first | omega | (simp (disch := omega) only [wrapI]; first | omega | (simp; omega)) | (simp; omega)), ?_⟩ | (intro ep) | fail)))
   all_goals (conv => whnf)
   rename_i ea
   refine loopY (okx [] [66]) mixed (A := A39) [1, 2, 7, 8, 9, 10, 11, 12, 13, 14, 15] [0, 4, 8, 10]
    (S := { z : Nat × Nat × Nat × List (List Int) × List (List RMv) // z.2.2.1 ≤ st.length ∧ (st.drop z.2.2.1).foldl (rSt x n a' cnt opts) (z.2.2.2.1, z.2.2.2.2) = E ∧ z.2.2.2.2.length = z.2.2.1 ∧ z.2.2.2.1.length ≤ 3125 * z.2.2.1 ∧ (∀ s ∈ z.2.2.2.1, ZOk x.lo.length (a' + cnt) s) })
    (fr := fun z => frOf 0 147 [(1, ntsA n), (2, .optr (.s 0) e0 5 0 0), (7, intsA (bnds n)), (8, .oslc (.s 10) eo 1 0 out.length false), (9, .lslc 5 (rowsZ st) 0 st.length false), (10, .int .i64 (i : Int)), (11, .oslc (.s 4) z.1.1 5 0 z.1.2.2.2.1.length false), (12, .oslc (.s 8) z.1.2.1 1 0 z.1.2.2.2.2.length false), (13, lsA opts), (14, .bool (anyM z.1.2.2.2.2)), (15, .int .i64 (z.1.2.2.1 : Int))])
    (h := fun z => ⟨[.vec e0 [lmR x], .hole, .hole, .hole, .vec z.1.1 (rowsZ z.1.2.2.2.1), .hole, .hole, .hole, .vec z.1.2.1 (rowsH z.1.2.2.2.2), .hole, .vec eo (rowsO out)], []⟩) (μ := fun z => st.length - z.1.2.2.1)
    ⟨(ea, ep, 0, [], []), Nat.zero_le _, hE.symm, rfl, by simp, by simp⟩ ?_ ?_
    [1, 2, 7, 8, 10, 11, 12, 14] [0, 4, 8, 10]
    (S' := { z : Nat × Nat × List (List Int) × List (List RMv) // (z.2.2.1, z.2.2.2) = E ∧ z.2.2.1.length ≤ 3125 * 1000 ∧ z.2.2.2.length ≤ 1000 ∧ (∀ s ∈ z.2.2.1, ZOk x.lo.length (a' + cnt) s) }) (X := fun _ => 2)
    (frX := fun z => frOf 0 147 [(1, ntsA n), (2, .optr (.s 0) e0 5 0 0), (7, intsA (bnds n)), (8, .oslc (.s 10) eo 1 0 out.length false), (10, .int .i64 (i : Int)), (11, .oslc (.s 4) z.1.1 5 0 z.1.2.2.1.length false), (12, .oslc (.s 8) z.1.2.1 1 0 z.1.2.2.2.length false), (14, .bool (anyM z.1.2.2.2))])
    (hX := fun z => ⟨[.vec e0 [lmR x], .hole, .hole, .hole, .vec z.1.1 (rowsZ z.1.2.2.1), .hole, .hole, .hole, .vec z.1.2.1 (rowsH z.1.2.2.2), .hole, .vec eo (rowsO out)], []⟩) [] [] (S2 := Empty) (frR := fun _ => []) (hR := fun _ => Heap.nil) ?_ (fun z => z.elim) ?_
   ·exact rfl
   ·exact rfl
   ·rintro ⟨⟨e4, e8, k, D, mv⟩, hk, hu1, hmv, hDl, hDz⟩
    simp only at hk hu1 hmv hDl hDz
    show aexR _ _ _ (frOf 0 147 [(1, ntsA n), (2, .optr (.s 0) e0 5 0 0), (7, intsA (bnds n)), (8, .oslc (.s 10) eo 1 0 out.length false), (9, .lslc 5 (rowsZ st) 0 st.length false), (10, .int .i64 (i : Int)), (11, .oslc (.s 4) e4 5 0 D.length false), (12, .oslc (.s 8) e8 1 0 mv.length false), (13, lsA opts), (14, .bool (anyM mv)), (15, .int .i64 (k : Int))]) ⟨[.vec e0 [lmR x], .hole, .hole, .hole, .vec e4 (rowsZ D), .hole, .hole, .hole, .vec e8 (rowsH mv), .hole, .vec eo (rowsO out)], []⟩ _
    (conv => whnf)
    refine ifB (fun g1 => ?_) (fun g1 => ?_)
    ·simp only [decide_eq_true_eq] at g1
     have g1 : k < st.length := by omega
     have hrow : (rowsZ st)[0 + ((k : Nat) : Int).toNat]? = some (arr st[k]) := mapR (f := arr) g1
     have hz := hst _ (List.getElem_mem g1)
     rw [List.drop_eq_getElem_cons g1, List.foldl_cons, rSt] at hu1
     generalize st[k] = s at hrow hz hu1
     obtain ⟨H, hH⟩ : ∃ H, H = rHere x n a' cnt s opts (D, []) := ⟨_, rfl⟩
     simp only [← hH] at hu1
     unfold rHere at hH
     obtain ⟨s0, s1, s2, s3, s4, rfl⟩ := l5 hz.len
     (repeat' (first | exact rfl | ((conv => whnf); first | exact rfl | exact ⟨rfl, rfl⟩ | refine dk (by kernel_rfl) ?_ | refine pk (by kernel_rfl) ?_ | refine ⟨rfl, ?_⟩ | refine ⟨by (first | omega | (simp (disch := omega) only [wrapI]; first | omega | (simp; omega)) | (simp; omega)), ?_⟩ | (intro ep) | fail)))
     all_goals (conv => whnf)
     refine loopY (okx [] [66]) mixed (A := A39) [1, 2, 7, 8, 9, 10, 11, 12, 13, 14, 15, 16, 17] [0, 4, 6, 8, 10]
      (S := { z : Nat × Nat × Nat × List (List Int) × List RMv // z.2.2.1 ≤ opts.length ∧ (opts.drop z.2.2.1).foldl (rOpt x n a' cnt [s0, s1, s2, s3, s4]) (z.2.2.2.1, z.2.2.2.2) = H ∧ z.2.2.2.2.length ≤ z.2.2.1 ∧ z.2.2.2.1.length ≤ 3125 * k + z.2.2.1 ∧ (∀ s ∈ z.2.2.2.1, ZOk x.lo.length (a' + cnt) s) })
      (fr := fun z => frOf 0 147 [(1, ntsA n), (2, .optr (.s 0) e0 5 0 0), (7, intsA (bnds n)), (8, .oslc (.s 10) eo 1 0 out.length false), (9, .lslc 5 (rowsZ st) 0 st.length false), (10, .int .i64 (i : Int)), (11, .oslc (.s 4) z.1.1 5 0 z.1.2.2.2.1.length false), (12, .oslc (.s 8) e8 1 0 mv.length false), (13, lsA opts), (14, .bool (anyM mv || !List.isEmpty z.1.2.2.2.2)), (15, .int .i64 (k : Int)), (16, .oslc (.s 6) z.1.2.1 4 0 z.1.2.2.2.2.length false), (17, .int .i64 (z.1.2.2.1 : Int))])
      (h := fun z => ⟨[.vec e0 [lmR x], .hole, .hole, .hole, .vec z.1.1 (rowsZ z.1.2.2.2.1), .hole, .vec z.1.2.1 (rowsM z.1.2.2.2.2), .hole, .vec e8 (rowsH mv), .hole, .vec eo (rowsO out)], []⟩) (μ := fun z => opts.length - z.1.2.2.1)
      ⟨(e4, ep, 0, D, []), Nat.zero_le _, hH.symm, by simp, by simp only; omega, hDz⟩ ?_ ?_
      [1, 2, 7, 8, 9, 10, 11, 12, 13, 14, 15, 16] [0, 4, 6, 8, 10]
      (S' := { z : Nat × Nat × List (List Int) × List RMv // (z.2.2.1, z.2.2.2) = H ∧ z.2.2.1.length ≤ 3125 * (k + 1) ∧ z.2.2.2.length ≤ 3125 ∧ (∀ s ∈ z.2.2.1, ZOk x.lo.length (a' + cnt) s) }) (X := fun _ => 4)
      (frX := fun z => frOf 0 147 [(1, ntsA n), (2, .optr (.s 0) e0 5 0 0), (7, intsA (bnds n)), (8, .oslc (.s 10) eo 1 0 out.length false), (9, .lslc 5 (rowsZ st) 0 st.length false), (10, .int .i64 (i : Int)), (11, .oslc (.s 4) z.1.1 5 0 z.1.2.2.1.length false), (12, .oslc (.s 8) e8 1 0 mv.length false), (13, lsA opts), (14, .bool (anyM mv || !List.isEmpty z.1.2.2.2)), (15, .int .i64 (k : Int)), (16, .oslc (.s 6) z.1.2.1 4 0 z.1.2.2.2.length false)])
      (hX := fun z => ⟨[.vec e0 [lmR x], .hole, .hole, .hole, .vec z.1.1 (rowsZ z.1.2.2.1), .hole, .vec z.1.2.1 (rowsM z.1.2.2.2), .hole, .vec e8 (rowsH mv), .hole, .vec eo (rowsO out)], []⟩) [] [] (S2 := Empty) (frR := fun _ => []) (hR := fun _ => Heap.nil) ?_ (fun z => z.elim) ?_
     ·show maskF 0 _ _ = frOf 0 147 [(1, ntsA n), (2, .optr (.s 0) e0 5 0 0), (7, intsA (bnds n)), (8, .oslc (.s 10) eo 1 0 out.length false), (9, .lslc 5 (rowsZ st) 0 st.length false), (10, .int .i64 (i : Int)), (11, .oslc (.s 4) e4 5 0 D.length false), (12, .oslc (.s 8) e8 1 0 mv.length false), (13, lsA opts), (14, .bool (anyM mv || false)), (15, .int .i64 (k : Int)), (16, .oslc (.s 6) ep 4 0 0 false), (17, .int .i64 0)]
      rw [Bool.or_false]
      exact rfl
     ·exact rfl
     ·rintro ⟨⟨e4, e6, j, D, hr⟩, hj, hu2, hrl, hDl, hDz⟩
      simp only at hj hu2 hrl hDl hDz
      show aexR _ _ _ (frOf 0 147 [(1, ntsA n), (2, .optr (.s 0) e0 5 0 0), (7, intsA (bnds n)), (8, .oslc (.s 10) eo 1 0 out.length false), (9, .lslc 5 (rowsZ st) 0 st.length false), (10, .int .i64 (i : Int)), (11, .oslc (.s 4) e4 5 0 D.length false), (12, .oslc (.s 8) e8 1 0 mv.length false), (13, lsA opts), (14, .bool (anyM mv || !List.isEmpty hr)), (15, .int .i64 (k : Int)), (16, .oslc (.s 6) e6 4 0 hr.length false), (17, .int .i64 (j : Int))]) ⟨[.vec e0 [lmR x], .hole, .hole, .hole, .vec e4 (rowsZ D), .hole, .vec e6 (rowsM hr), .hole, .vec e8 (rowsH mv), .hole, .vec eo (rowsO out)], []⟩ _
      (conv => whnf)
      refine ifB (fun g2 => ?_) (fun g2 => ?_)
      ·simp only [decide_eq_true_eq] at g2
       have g2 : j < opts.length := by omega
       have hrowL : (rowsL opts)[0 + ((j : Nat) : Int).toNat]? = some [intsA opts[j]] := mapR (f := fun l => [intsA l]) g2
       have hol2 := (hom _ (List.getElem_mem g2)).1
       rw [List.drop_eq_getElem_cons g2, List.foldl_cons, rOpt] at hu2
       generalize opts[j] = l at hrowL hol2 hu2
       have hT := turn58 x n (padK n a' l) [s0, s1, s2, s3, s4] a' cnt l 0 (fun i hi => padK_at (by omega)) X hN sg (padK_len (by omega)) hz.nx
       rw [show (AV.lslc 1 (ints l) 0 cnt false) = intsA l by unfold intsA; rw [hol2]] at hT
       have tH : List.take hr.length (List.drop 0 (rowsM hr)) = rowsM hr := by rw [List.drop_zero, List.take_of_length_le (by simp)]
       have tD : List.take D.length (List.drop 0 (rowsZ D)) = rowsZ D := by rw [List.drop_zero, List.take_of_length_le (by simp [rowsZ])]
       have hHs : ∀ y : RMv, rowsM (hr ++ [y]) = List.take hr.length (List.drop 0 (rowsM hr)) ++ [rmvR y] := fun y => by rw [tH]; simp
       have hHl : ∀ y : RMv, (hr ++ [y]).length = hr.length + 1 := fun y => by simp
       have hHb : ∀ y : RMv, (anyM mv || !List.isEmpty (hr ++ [y])) = true := fun y => by simp
       rcases refT_turn (l := l) X hN sg hz hol2 with ⟨h1, q, hq, h2⟩ | ⟨nx, c, m, h1, h2, hnz, hcb, hmb⟩
       ·rw [h1] at hu2
        simp only at hu2
        rw [h2] at hT
        (repeat' (first | exact rfl | ((conv => whnf); first | refine optS hb0 ?_ | refine optS hb1 ?_ | refine optS hrow ?_ | refine optS hrowL ?_ | refine ⟨_, hT, ?_⟩ | refine ⟨_, hS, ?_⟩ | refine optS hnb ?_ | refine ACalls.read1 hI rfl (pure_rowsZ D) rfl (by exact rfl) ?_ | exact rfl | exact ⟨rfl, rfl⟩ | refine dk (by kernel_rfl) ?_ | refine pk (by kernel_rfl) ?_ | refine ⟨rfl, ?_⟩ | refine ⟨by (first | omega | (simp (disch := omega) only [wrapI]; first | omega | (simp; omega)) | (simp; omega)), ?_⟩ | (intro ep) | (refine ifB (fun hb => ?_) (fun hb => ?_) <;> (try simp only [qs] at hb) <;> (try simp (disch := omega) only [wrapI] at hb) <;> (try (exfalso; omega))) | fail)))
        all_goals (conv => whnf)
        exact back_of ⟨(e4, e6, j + 1, D, hr), g2, hu2, by simp only; omega, by simp only; omega, hDz⟩ ⟨by (first | exact rfl | (simp (disch := omega) only [wrapI]; exact rfl)), rfl, by simp only; omega⟩
       rw [h1] at hu2
       simp only at hu2
       rw [h2] at hT
       obtain ⟨n0, n1, n2, n3, n4, rfl⟩ := l5 hnz.len
       by_cases cb : a' + cnt < n.length
       ·rw [if_pos cb] at hu2
        have hnb := mapR (f := ntR) cb
        have hfr := frN_at cb
        generalize n[a' + cnt] = nb at hnb hfr
        obtain ⟨be, bc, bp, bf, bt⟩ := nb
        replace hnb : (n.map ntR)[0 + ((a' + cnt : Nat) : Int).toNat]? = some [.int .i64 be, .int .i64 bc, .int .i64 bp, .int .i64 bf, .int .i64 bt] := hnb
        simp only at hfr
        rw [hfr] at hu2
        have hS := situation65 x n [n0, n1, n2, n3, n4] bf X hN rfl (fun z hz => by have := hnz.mem z hz; omega)
        have hzz := sitS_ok hnz x n bf
        generalize sitS x n bf [n0, n1, n2, n3, n4] = zz at hS hzz hu2
        obtain ⟨z0, z1, z2, z3, z4, rfl⟩ := l5 hzz.len
        have hI := index66 D [z0, z1, z2, z3, z4] rfl (fun l hl => (hDz l hl).len) (by omega)
        by_cases cm : [z0, z1, z2, z3, z4] ∈ D
        ·have hlt := idxA_lt cm
         rw [show putN D [z0, z1, z2, z3, z4] = D from if_pos cm] at hu2
         generalize idxA [z0, z1, z2, z3, z4] D = tt at hI hlt hu2
         (repeat' (first | exact rfl | ((conv => whnf); first | refine optS hb0 ?_ | refine optS hb1 ?_ | refine optS hrow ?_ | refine optS hrowL ?_ | refine ⟨_, hT, ?_⟩ | refine ⟨_, hS, ?_⟩ | refine optS hnb ?_ | refine ACalls.read1 hI rfl (pure_rowsZ D) rfl (by exact rfl) ?_ | exact rfl | exact ⟨rfl, rfl⟩ | refine dk (by kernel_rfl) ?_ | refine pk (by kernel_rfl) ?_ | refine ⟨rfl, ?_⟩ | refine ⟨by (first | omega | (simp (disch := omega) only [wrapI]; first | omega | (simp; omega)) | (simp; omega)), ?_⟩ | (intro ep) | (refine ifB (fun hb => ?_) (fun hb => ?_) <;> (try simp only [qs] at hb) <;> (try simp (disch := omega) only [wrapI] at hb) <;> (try (exfalso; omega))) | fail)))
         all_goals (conv => whnf)
         refine back_of ⟨(e4, ep, j + 1, D, hr ++ [⟨l, tt, c, m⟩]), g2, hu2, by simp only [hHl]; omega, by simp only; omega, hDz⟩ ⟨?_, ?_, by simp only; omega⟩
         ·simp only [hHl, hHb]
          (first | exact rfl | (simp (disch := omega) only [wrapI]; exact rfl))
         ·simp only [hHs]
          exact rfl
        ·have hlt := idxA_not cm
         have hDl2 : (D ++ [[z0, z1, z2, z3, z4]]).length = D.length + 1 := by simp
         have hDs : rowsZ (D ++ [[z0, z1, z2, z3, z4]]) = List.take D.length (List.drop 0 (rowsZ D)) ++ [arr [z0, z1, z2, z3, z4]] := by rw [tD]; simp [rowsZ]
         have hDz2 : ∀ s ∈ D ++ [[z0, z1, z2, z3, z4]], ZOk x.lo.length (a' + cnt) s := fun s hs => by
          rcases List.mem_append.1 hs with h | h
          ·exact hDz s h
          ·rw [List.mem_singleton.1 h]; exact hzz
         rw [show putN D [z0, z1, z2, z3, z4] = D ++ [[z0, z1, z2, z3, z4]] from if_neg cm] at hu2
         generalize idxA [z0, z1, z2, z3, z4] D = tt at hI hlt hu2
         (repeat' (first | exact rfl | ((conv => whnf); first | refine optS hb0 ?_ | refine optS hb1 ?_ | refine optS hrow ?_ | refine optS hrowL ?_ | refine ⟨_, hT, ?_⟩ | refine ⟨_, hS, ?_⟩ | refine optS hnb ?_ | refine ACalls.read1 hI rfl (pure_rowsZ D) rfl (by exact rfl) ?_ | exact rfl | exact ⟨rfl, rfl⟩ | refine dk (by kernel_rfl) ?_ | refine pk (by kernel_rfl) ?_ | refine ⟨rfl, ?_⟩ | refine ⟨by (first | omega | (simp (disch := omega) only [wrapI]; first | omega | (simp; omega)) | (simp; omega)), ?_⟩ | (intro ep) | (refine ifB (fun hb => ?_) (fun hb => ?_) <;> (try simp only [qs] at hb) <;> (try simp (disch := omega) only [wrapI] at hb) <;> (try (exfalso; omega))) | fail)))
         all_goals (conv => whnf)
         rename_i q4 q5
         refine back_of ⟨(q4, ep, j + 1, D ++ [[z0, z1, z2, z3, z4]], hr ++ [⟨l, tt, c, m⟩]), g2, hu2, by simp only [hHl]; omega, by simp only [hDl2]; omega, hDz2⟩ ⟨?_, ?_, by simp only; omega⟩
         ·simp only [hHl, hHb, hDl2]
          (first | exact rfl | (simp (disch := omega) only [wrapI]; exact rfl))
         ·simp only [hHs, hDs]
          exact rfl
       ·rw [if_neg cb] at hu2
        (repeat' (first | exact rfl | ((conv => whnf); first | refine optS hb0 ?_ | refine optS hb1 ?_ | refine optS hrow ?_ | refine optS hrowL ?_ | refine ⟨_, hT, ?_⟩ | refine ⟨_, hS, ?_⟩ | refine optS hnb ?_ | refine ACalls.read1 hI rfl (pure_rowsZ D) rfl (by exact rfl) ?_ | exact rfl | exact ⟨rfl, rfl⟩ | refine dk (by kernel_rfl) ?_ | refine pk (by kernel_rfl) ?_ | refine ⟨rfl, ?_⟩ | refine ⟨by (first | omega | (simp (disch := omega) only [wrapI]; first | omega | (simp; omega)) | (simp; omega)), ?_⟩ | (intro ep) | (refine ifB (fun hb => ?_) (fun hb => ?_) <;> (try simp only [qs] at hb) <;> (try simp (disch := omega) only [wrapI] at hb) <;> (try (exfalso; omega))) | fail)))
        all_goals (conv => whnf)
        refine back_of ⟨(e4, ep, j + 1, D, hr ++ [⟨l, 0, c, m⟩]), g2, hu2, by simp only [hHl]; omega, by simp only; omega, hDz⟩ ⟨?_, ?_, by simp only; omega⟩
        ·simp only [hHl, hHb]
         (first | exact rfl | (simp (disch := omega) only [wrapI]; exact rfl))
        ·simp only [hHs]
         exact rfl
      ·simp only [decide_eq_false_iff_not] at g2
       have e : j = opts.length := by omega
       rw [List.drop_eq_nil_of_le (by omega), List.foldl_nil] at hu2
       (repeat' (first | exact rfl | ((conv => whnf); first | exact rfl | exact ⟨rfl, rfl⟩ | refine dk (by kernel_rfl) ?_ | refine pk (by kernel_rfl) ?_ | refine ⟨rfl, ?_⟩ | refine ⟨by (first | omega | (simp (disch := omega) only [wrapI]; first | omega | (simp; omega)) | (simp; omega)), ?_⟩ | (intro ep) | fail)))
       all_goals (conv => whnf)
       exact back_of ⟨(e4, e6, D, hr), hu2, by simp only; omega, by simp only; omega, hDz⟩ ⟨rfl, rfl, rfl⟩
     ·rintro ⟨⟨e4, e6, D, hr⟩, hu2, hDl, hrl, hDz⟩
      simp only at hu2 hDl hrl hDz
      have tM : List.take mv.length (List.drop 0 (rowsH mv)) = rowsH mv := by rw [List.drop_zero, List.take_of_length_le (by simp)]
      have nsr : ∀ r ∈ List.take mv.length (List.drop 0 (rowsH mv)), r.all noS = true := fun r hr => by
       rw [tM] at hr
       obtain ⟨z, _, rfl⟩ := List.mem_map.1 hr
       rfl
      rw [← hu2] at hu1
      simp only at hu1
      (repeat' (first | exact rfl | ((conv => whnf); first | exact rfl | exact ⟨rfl, rfl⟩ | refine dk (by kernel_rfl) ?_ | refine pk (by kernel_rfl) ?_ | refine ⟨rfl, ?_⟩ | refine ⟨by (first | omega | (simp (disch := omega) only [wrapI]; first | omega | (simp; omega)) | (simp; omega)), ?_⟩ | (intro ep) | fail)))
      all_goals (conv => whnf)
      rename_i q7
      refine ⟨pure_rowsM hr, by (repeat' (first | exact trivial | exact rfl | ((conv => whnf); first | exact trivial | exact rfl | refine ⟨?_, ?_⟩ | fail))), ⟨by (repeat' (first | exact trivial | exact rfl | ((conv => whnf); first | exact trivial | exact rfl | refine ⟨?_, ?_⟩ | fail))), trivial, trivial, trivial, eqsP_flat (noS_rowsZ D), trivial, trivial, by (repeat' (first | exact trivial | exact rfl | ((conv => whnf); first | exact trivial | exact rfl | refine ⟨?_, ?_⟩ | fail))), eqsP_snoc nsr, trivial, eqsP_rows out (fun _ => rfl), trivial⟩, trivial, ?_⟩
      (conv => whnf)
      have e5 := fcS_snoc (n := 6) (ep := e6) (sz := 4) (o := 0) (l := hr.length) (lim := false) (R := rowsM hr) nsr
      have e6' : List.take mv.length (List.drop 0 (rowsH mv)) ++ [[AV.lslc 4 (rowsM hr) 0 hr.length false]] = rowsH (mv ++ [hr]) := by
       rw [tM]
       simp [hereA]
      rw [e6'] at e5
      refine back_of ⟨(e4, ep, k + 1, D, mv ++ [hr]), g1, hu1, by simp [hmv], by simp only; omega, hDz⟩ ⟨?_, ?_, by simp only; omega⟩
      ·simp only [anyM_snoc, show (mv ++ [hr]).length = mv.length + 1 by simp]
       (first | exact rfl | (simp (disch := omega) only [wrapI]; exact rfl))
      ·show Heap.mk [.vec e0 [lmR x], .hole, .hole, .hole, .vec e4 ((rowsZ D).map fun r => r.map (fcS 6 (rowsM hr))), .hole, .hole, .hole, .vec ep ((List.take mv.length (List.drop 0 (rowsH mv)) ++ [[AV.oslc (.s 6) e6 4 0 hr.length false]]).map fun r => r.map (fcS 6 (rowsM hr))), .hole, .vec eo ((rowsO out).map fun r => r.map (fcS 6 (rowsM hr)))] [] = _
       rw [fcS_flat (noS_rowsZ D), e5, fcS_rows out (fun _ => rfl)]
    ·simp only [decide_eq_false_iff_not] at g1
     have e : k = st.length := by omega
     rw [List.drop_eq_nil_of_le (by omega), List.foldl_nil] at hu1
     (repeat' (first | exact rfl | ((conv => whnf); first | exact rfl | exact ⟨rfl, rfl⟩ | refine dk (by kernel_rfl) ?_ | refine pk (by kernel_rfl) ?_ | refine ⟨rfl, ?_⟩ | refine ⟨by (first | omega | (simp (disch := omega) only [wrapI]; first | omega | (simp; omega)) | (simp; omega)), ?_⟩ | (intro ep) | fail)))
     all_goals (conv => whnf)
     exact back_of ⟨(e4, e8, D, mv), hu1, by simp only; omega, by simp only; omega, hDz⟩ ⟨rfl, rfl, rfl⟩
   ·rintro ⟨⟨e4, e8, D, mv⟩, hu1, hDl, hml, hDz⟩
    simp only at hu1 hDl hml hDz
    have tO : List.take out.length (List.drop 0 (rowsO out)) = rowsO out := by rw [List.drop_zero, List.take_of_length_le (by simp)]
    have nso : ∀ r ∈ List.take out.length (List.drop 0 (rowsO out)), r.all noS = true := fun r hr => by
     rw [tO] at hr
     obtain ⟨z, _, rfl⟩ := List.mem_map.1 hr
     rfl
    rw [← hu1] at hu
    simp only at hu
    cases cA : anyM mv with
    | false =>
     rw [if_pos cA] at hu
     (repeat' (first | exact rfl | ((conv => whnf); first | exact rfl | exact ⟨rfl, rfl⟩ | refine dk (by kernel_rfl) ?_ | refine pk (by kernel_rfl) ?_ | refine ⟨rfl, ?_⟩ | refine ⟨by (first | omega | (simp (disch := omega) only [wrapI]; first | omega | (simp; omega)) | (simp; omega)), ?_⟩ | (intro ep) | fail)))
     all_goals (conv => whnf)
     exact back_of ⟨((i : Int), 72), (by show (72 : Int) ≠ 0; decide), by rw [← hu]⟩ ⟨rfl, rfl⟩
    | true =>
     rw [if_neg (by rw [cA]; decide)] at hu
     by_cases c2 : 1000 < D.length
     ·rw [if_pos c2] at hu
      (repeat' (first | exact rfl | ((conv => whnf); first | exact rfl | exact ⟨rfl, rfl⟩ | refine dk (by kernel_rfl) ?_ | refine pk (by kernel_rfl) ?_ | refine ⟨rfl, ?_⟩ | refine ⟨by (first | omega | (simp (disch := omega) only [wrapI]; first | omega | (simp; omega)) | (simp; omega)), ?_⟩ | (intro ep) | (refine ifB (fun hb => ?_) (fun hb => ?_) <;> (try simp only [qs] at hb) <;> (try simp (disch := omega) only [wrapI] at hb) <;> (try (exfalso; omega))) | fail)))
      all_goals (conv => whnf)
      exact back_of ⟨((i : Int), 2), (by show (2 : Int) ≠ 0; decide), by rw [← hu]⟩ ⟨rfl, rfl⟩
     ·rw [if_neg c2] at hu
      (repeat' (first | exact rfl | ((conv => whnf); first | exact rfl | exact ⟨rfl, rfl⟩ | refine dk (by kernel_rfl) ?_ | refine pk (by kernel_rfl) ?_ | refine ⟨rfl, ?_⟩ | refine ⟨by (first | omega | (simp (disch := omega) only [wrapI]; first | omega | (simp; omega)) | (simp; omega)), ?_⟩ | (intro ep) | (refine ifB (fun hb => ?_) (fun hb => ?_) <;> (try simp only [qs] at hb) <;> (try simp (disch := omega) only [wrapI] at hb) <;> (try (exfalso; omega))) | fail)))
      all_goals (conv => whnf)
      rename_i q9
      refine ⟨pure_rowsH mv, by (repeat' (first | exact trivial | exact rfl | ((conv => whnf); first | exact trivial | exact rfl | refine ⟨?_, ?_⟩ | fail))), ⟨by (repeat' (first | exact trivial | exact rfl | ((conv => whnf); first | exact trivial | exact rfl | refine ⟨?_, ?_⟩ | fail))), trivial, trivial, trivial, eqsP_flat (noS_rowsZ D), trivial, trivial, trivial, trivial, by (repeat' (first | exact trivial | exact rfl | ((conv => whnf); first | exact trivial | exact rfl | refine ⟨?_, ?_⟩ | fail))), eqsP_snoc nso, trivial⟩, trivial, ?_⟩
      (repeat' (first | exact rfl | ((conv => whnf); first | exact rfl | exact ⟨rfl, rfl⟩ | refine dk (by kernel_rfl) ?_ | refine pk (by kernel_rfl) ?_ | refine ⟨rfl, ?_⟩ | refine ⟨by (first | omega | (simp (disch := omega) only [wrapI]; first | omega | (simp; omega)) | (simp; omega)), ?_⟩ | (intro ep) | fail)))
      all_goals (conv => whnf)
      have eZ : (rowsZ D).map (fun r : List AV => r.map (fcS 8 (rowsH mv))) = rowsZ D := fcS_flat (noS_rowsZ D)
      have e5 := fcS_snoc (n := 8) (ep := e8) (sz := 1) (o := 0) (l := mv.length) (lim := false) (R := rowsH mv) nso
      have e6 : List.take out.length (List.drop 0 (rowsO out)) ++ [[AV.lslc 1 (rowsH mv) 0 mv.length false]] = rowsO (out ++ [mv]) := by
       rw [tO]
       simp [movesA]
      rw [e6] at e5
      have e9 : AV.lslc 5 ((rowsZ D).map fun r : List AV => r.map (fcS 8 (rowsH mv))) 0 D.length false = AV.lslc 5 (rowsZ D) 0 D.length false := by rw [eZ]
      refine ⟨(by show pureRows ((rowsZ D).map fun r : List AV => r.map (fcS 8 (rowsH mv))); rw [eZ]; exact pure_rowsZ D), ?_⟩
      (repeat' (first | exact rfl | ((conv => whnf); first | exact rfl | exact ⟨rfl, rfl⟩ | refine dk (by kernel_rfl) ?_ | refine pk (by kernel_rfl) ?_ | refine ⟨rfl, ?_⟩ | refine ⟨by (first | omega | (simp (disch := omega) only [wrapI]; first | omega | (simp; omega)) | (simp; omega)), ?_⟩ | (intro ep) | fail)))
      all_goals (conv => whnf)
      refine back_of ⟨(ep, i + 1, a' + cnt, D, out ++ [mv]), g, by simp [hout], hch, hDz, by simp only; omega, hu⟩ ⟨?_, ?_, by simp only; omega⟩
      ·show _ = frOf 0 147 [(1, ntsA n), (2, .optr (.s 0) e0 5 0 0), (7, intsA (bnds n)), (8, .oslc (.s 10) ep 1 0 (out ++ [mv]).length false), (9, .lslc 5 (rowsZ D) 0 D.length false), (10, .int .i64 ((i + 1 : Nat) : Int))]
       rw [← e9, show (out ++ [mv]).length = out.length + 1 by simp]
       (first | exact rfl | (simp (disch := omega) only [wrapI]; exact rfl))
      ·exact congrArg (fun r => Heap.mk [.vec e0 [lmR x], .hole, .hole, .hole, .hole, .hole, .hole, .hole, .hole, .hole, .vec ep r] []) e5
  ·simp only [decide_eq_false_iff_not] at g
   rw [wrapI (by omega) (by omega)] at g
   have e : ((bnds n).length : Int) = (S.length : Int) + 1 := by rw [hbl]; simp
   have e : i = S.length := by omega
   rw [List.drop_eq_nil_of_le (by omega), expR] at hu
   (repeat' (first | exact rfl | ((conv => whnf); first | exact rfl | exact ⟨rfl, rfl⟩ | refine dk (by kernel_rfl) ?_ | refine pk (by kernel_rfl) ?_ | refine ⟨rfl, ?_⟩ | refine ⟨by (first | omega | (simp (disch := omega) only [wrapI]; first | omega | (simp; omega)) | (simp; omega)), ?_⟩ | (intro ep) | fail)))
   all_goals (conv => whnf)
   exact back_of ⟨(eo, out), hu, by simp only; omega⟩ ⟨rfl, rfl, rfl⟩
 ·rintro ⟨⟨i, e⟩, he, hR⟩
  simp only at he
  unfold expV at hV
  rw [hR] at hV
  simp only [if_neg he] at hV
  (repeat' (first | ((conv => whnf); first | exact rfl | exact ⟨rfl, rfl⟩ | refine dk (by kernel_rfl) ?_ | refine pk (by kernel_rfl) ?_ | refine ⟨rfl, ?_⟩ | refine ⟨by (first | omega | (simp (disch := omega) only [wrapI]; first | omega | (simp; omega)) | (simp; omega)), ?_⟩ | (intro ep) | fail)))
  all_goals first | (rw [hV]; done) | (rw [hV]; exact rfl)
 ·rintro ⟨⟨eo, out⟩, hR, hl⟩
  simp only at hl
  unfold expV at hV
  rw [← hR] at hV
  simp only [if_true] at hV
  (repeat' (first | ((conv => whnf); first | refine ⟨pure_rowsO out, ?_⟩ | exact rfl | exact ⟨rfl, rfl⟩ | refine dk (by kernel_rfl) ?_ | refine pk (by kernel_rfl) ?_ | refine ⟨rfl, ?_⟩ | refine ⟨by (first | omega | (simp (disch := omega) only [wrapI]; first | omega | (simp; omega)) | (simp; omega)), ?_⟩ | (intro ep) | fail)))
  all_goals first | (rw [hV]; done) | (rw [hV]; exact rfl)
end Go.Ab.V
