/-
  What is proved here serves the law's text: each part says its own claim and its conditions. No condition is left open.
-/
import Derived.Test.YthdhhhgjdegafaaJL
import Derived.Test.YthdhhhgjdegafaaJM
set_option linter.unusedSimpArgs false
set_option linter.unusedVariables false

namespace Go.Ab.V
open Go.Proofs
def A40 : Ann := fun r => match r with
 | 1 => { slots := [(1, 0), (2, 1), (3, 2)] }
 | 6 => { lifts := [(7, 10, 1)] }
 | 10 => { lifts := [(9, 8, 1)] }
 | 13 => { slots := [(10, 3)] }
 | 15 => { lifts := [(12, 6, 1)] }
 | 19 => { slots := [(19, 4), (20, 5), (21, 6)] }
 | 20 => { slots := [(2, 7), (3, 8)], frz := [1006] }
 | 21 => { slots := [(4, 9), (5, 10)] }
 | 24 => { lifts := [(15, 14, 3)] }
 | 28 => { slots := [(9, 11)] }
 | 32 => { slots := [(6, 12)] }
 | 33 => { slots := [(2, 13), (3, 14)], frz := [1012] }
 | _ => {}
theorem noSt_tlA : ∀ t : Tl, noSt (tlA t) = true
 | [] => rfl
 | a :: r => rfl
theorem fcP_no {n : Nat} {R : List (List AV)} {a : AV} (h : noSt a = true) : fcP n R a = a := by
 unfold fcP
 split
 ·simp [noSt] at h
 ·rfl
theorem map_fc {n : Nat} {R rows : List (List AV)} (h : ∀ r ∈ rows, ∀ a ∈ r, noSt a = true) : (rows.map fun r : List AV => r.map (fcS n R)).map (fun r : List AV => r.map (fcP n R)) = rows := by
 rw [List.map_map]
 conv => rhs; rw [← List.map_id rows]
 refine List.map_congr_left fun r hr => ?_
 simp only [Function.comp, List.map_map, id]
 conv => rhs; rw [← List.map_id r]
 refine List.map_congr_left fun a ha => ?_
 simp only [Function.comp, id]
 rw [fcS_noSt (h r hr a ha), fcP_no (h r hr a ha)]
theorem eqsG_noSt {n ep : Nat} {rows : List (List AV)} (h : ∀ r ∈ rows, ∀ a ∈ r, noSt a = true) : eqsG n ep rows.flatten := eqsG_of fun a ha => by
 obtain ⟨r, hr, ha⟩ := List.mem_flatten.1 ha
 exact okG_no (h r hr a ha)
theorem noSt_rowsTl (l : List Tl) : ∀ r ∈ rowsTl l, ∀ a ∈ r, noSt a = true := fun r hr a ha => by
 obtain ⟨t, _, rfl⟩ := List.mem_map.1 hr
 rw [List.mem_singleton.1 ha]
 exact noSt_tlA t
theorem noSt_rowsTt (l : List (List Tl)) : ∀ r ∈ rowsTt l, ∀ a ∈ r, noSt a = true := fun r hr a ha => by
 obtain ⟨t, _, rfl⟩ := List.mem_map.1 hr
 rw [List.mem_singleton.1 ha]
 rfl
theorem eqsG_snocP {n ep sz i o : Nat} {rows : List (List AV)} (h : ∀ r ∈ rows, ∀ a ∈ r, noSt a = true) : eqsG n ep ((rows ++ [[AV.optr (.s n) ep sz i o]]).flatten) := by
 rw [List.flatten_append]
 refine eqsG_app (eqsG_noSt h) ⟨?_, trivial⟩
 show (match Nat.beq n n with | true => ep = ep | false => True)
 rw [show Nat.beq n n = true from Nat.beq_refl n]
theorem map_fcP {n ep sz i o : Nat} {R rows : List (List AV)} (h : ∀ r ∈ rows, ∀ a ∈ r, noSt a = true) : ((rows ++ [[AV.optr (.s n) ep sz i o]]).map fun r : List AV => r.map (fcS n R)).map (fun r : List AV => r.map (fcP n R)) = rows ++ [[.lptr sz R i o]] := by
 rw [List.map_append, List.map_append, map_fc h]
 simp [fcS, fcP, Nat.beq_refl]
theorem eqsP_snoc3 {n ep sz o l : Nat} {a b : Int} {lim : Bool} {rows : List (List AV)} (h : ∀ r ∈ rows, r.all noS = true) : eqsP n ep ((rows ++ [[AV.oslc (.s n) ep sz o l lim, .int .i64 a, .int .i64 b]]).flatten) := by
 refine eqsP_of fun x ha => ?_
 obtain ⟨r, hr, ha⟩ := List.mem_flatten.1 ha
 rcases List.mem_append.1 hr with h1 | h1
 ·have := List.all_eq_true.1 (h r h1) x ha
  unfold okS
  split
  ·simp [noS] at this
  ·trivial
 ·rw [List.mem_singleton.1 h1] at ha
  simp only [List.mem_cons, List.not_mem_nil, or_false] at ha
  rcases ha with rfl | rfl | rfl
  ·exact fun _ => rfl
  ·trivial
  ·trivial
theorem fcS_snoc3 {n ep sz o l : Nat} {a b : Int} {lim : Bool} {R rows : List (List AV)} (h : ∀ r ∈ rows, r.all noS = true) : (rows ++ [[AV.oslc (.s n) ep sz o l lim, .int .i64 a, .int .i64 b]]).map (fun r : List AV => r.map (fcS n R)) = rows ++ [[AV.lslc sz R o l lim, .int .i64 a, .int .i64 b]] := by
 rw [List.map_append]
 congr 1
 ·exact fcS_flat h
 ·simp [fcS, Nat.beq_refl]
abbrev hl15 : List AObj := [.hole, .hole, .hole, .hole, .hole, .hole, .hole, .hole, .hole, .hole, .hole, .hole, .hole, .hole, .hole]
set_option maxHeartbeats 16000000 in
set_option maxRecDepth 100000 in
theorem search40 (G : Steps) (sok : SOk G) (most : Nat) (hm : 1 ≤ most ∧ most ≤ 64) : PRet C.P 40 [stepsA G, .int .i64 (most : Int)] (voisA (voiD most G)) := by
 have hGl := sok.len
 obtain ⟨R, hR⟩ : ∃ R, R = voiD most G := ⟨_, rfl⟩
 rw [← hR]
 have hrG : ∀ d (h : d < G.length), (rowsO G)[0 + ((d : Nat) : Int).toNat]? = some [movesA G[d]] := fun d h => mapR (f := fun h => [movesA h]) h
 refine pret_of (okx [] []) mixed (A := A40) 15 Try.func40 rfl ?_
 unfold stepsA
 (repeat' (first | exact rfl | ((conv => whnf); first | exact rfl | exact ⟨rfl, rfl⟩ | refine dk (by kernel_rfl) ?_ | refine pk (by kernel_rfl) ?_ | refine ⟨rfl, ?_⟩ | refine ⟨by (first | omega | (simp (disch := omega) only [wrapI]; first | omega | (simp; omega)) | (simp; omega)), ?_⟩ | (intro ep) | (refine ifB (fun hb => ?_) (fun hb => ?_) <;> (try simp only [qs] at hb) <;> (try simp (disch := omega) only [wrapI] at hb) <;> (try (exfalso; omega))) | fail)))
 all_goals (conv => whnf)
 rename_i q0 q1
 refine wk_tr ?_
 refine tr_mask [0, 1, 5, 6] [0, 1, 2] (fr' := frOf 0 156 [(0, stepsA G), (1, .int .i64 (most : Int)), (5, .oslc (.s 2) ep 1 0 1 false), (6, .int .i64 ((G.length : Int) - 1))])
  (h' := ⟨[.vec q0 [[.nils, .int .i64 0, .int .i64 0, .nilp]], .vec q1 [[.optr (.s 0) q0 4 0 0]], .vec ep [[.oslc (.s 1) q1 1 0 1 false]], .hole, .hole, .hole, .hole, .hole, .hole, .hole, .hole, .hole, .hole, .hole, .hole], []⟩) ?_ (by exact rfl) ?_
 ·(first | exact rfl | (simp (disch := omega) only [wrapI]; exact rfl))
 refine tr_fp 0 q0 (fr' := frOf 0 156 [(0, stepsA G), (1, .int .i64 (most : Int)), (5, .oslc (.s 2) ep 1 0 1 false), (6, .int .i64 ((G.length : Int) - 1))])
  (st' := [.hole, .vec q1 [[tlA [([], 0, 0)]]], .vec ep [[.oslc (.s 1) q1 1 0 1 false]], .hole, .hole, .hole, .hole, .hole, .hole, .hole, .hole, .hole, .hole, .hole, .hole]) (dy' := []) (by exact rfl) (pureRows_of1 (by exact rfl)) (by (repeat' (first | exact trivial | exact rfl | ((conv => whnf); first | exact trivial | exact rfl | refine ⟨?_, ?_⟩ | fail)))) (by (repeat' (first | exact trivial | exact rfl | ((conv => whnf); first | exact trivial | exact rfl | refine ⟨?_, ?_⟩ | fail)))) (by (repeat' (first | exact trivial | exact rfl | ((conv => whnf); first | exact trivial | exact rfl | refine ⟨?_, ?_⟩ | fail)))) (by exact rfl) (by exact rfl) (by exact rfl) ?_
 refine tr_fz 1 q1 (rows := [[tlA [([], 0, 0)]]]) (fr' := frOf 0 156 [(0, stepsA G), (1, .int .i64 (most : Int)), (5, .oslc (.s 2) ep 1 0 1 false), (6, .int .i64 ((G.length : Int) - 1))])
  (st' := [.hole, .hole, .vec ep [[tlsA [[([], 0, 0)]]]], .hole, .hole, .hole, .hole, .hole, .hole, .hole, .hole, .hole, .hole, .hole, .hole]) (by exact rfl) (pureRows_of1 (by exact rfl)) (by (repeat' (first | exact trivial | exact rfl | ((conv => whnf); first | exact trivial | exact rfl | refine ⟨?_, ?_⟩ | fail)))) (by (repeat' (first | exact trivial | exact rfl | ((conv => whnf); first | exact trivial | exact rfl | refine ⟨?_, ?_⟩ | fail)))) (fun o h => absurd h (by simp)) (by exact rfl) (by exact rfl) ?_
 refine tr_fz 2 ep (rows := [[tlsA [[([], 0, 0)]]]]) (fr' := frOf 0 156 [(0, stepsA G), (1, .int .i64 (most : Int)), (5, ttA [[[([], 0, 0)]]]), (6, .int .i64 ((G.length : Int) - 1))])
  (st' := hl15) (by exact rfl) (pureRows_of1 (by exact rfl)) (by (repeat' (first | exact trivial | exact rfl | ((conv => whnf); first | exact trivial | exact rfl | refine ⟨?_, ?_⟩ | fail)))) (by (repeat' (first | exact trivial | exact rfl | ((conv => whnf); first | exact trivial | exact rfl | refine ⟨?_, ?_⟩ | fail)))) (fun o h => absurd h (by simp)) (by exact rfl) (by exact rfl) (tr_done ?_)
 rw [← AfL_end (most := most) (G := G)]
 refine loopZ (okx [] []) mixed (A := A40) [0, 1, 5, 6] [] (S := { d : Nat // d ≤ G.length })
  (fr := fun d => frOf 0 156 [(0, stepsA G), (1, .int .i64 (most : Int)), (5, ttA (AfL most G d.1)), (6, .int .i64 ((d.1 : Int) - 1))]) (h := fun _ => ⟨hl15, []⟩) (μ := fun d => d.1)
  ⟨G.length, Nat.le_refl _⟩ ?_ ?_
  [5] [] (S' := Unit) (X := fun _ => 0) (frX := fun _ => frOf 0 156 [(5, ttA (AfL most G 0))]) (hX := fun _ => ⟨hl15, []⟩)
  [] [] (S2 := Empty) (frR := fun _ => []) (hR := fun _ => Heap.nil) ?_ (fun z => z.elim) ?_
 ·exact rfl
 ·exact rfl
 ·rintro ⟨d, hd⟩
  show aexR _ _ _ (frOf 0 156 [(0, stepsA G), (1, .int .i64 (most : Int)), (5, ttA (AfL most G d)), (6, .int .i64 ((d : Int) - 1))]) ⟨hl15, []⟩ _
  (conv => whnf)
  refine ifB (fun g => ?_) (fun g => ?_)
  ·simp only [decide_eq_true_eq] at g
   obtain ⟨d, rfl⟩ : ∃ d', d = d' + 1 := ⟨d - 1, by omega⟩
   have hd1 : d < G.length := by omega
   rw [show ((d + 1 : Nat) : Int) - 1 = (d : Int) by omega]
   have hrd := hrG d hd1
   have hgd : G.getD d [] = G[d] := by rw [List.getD_eq_getElem?_getD, List.getElem?_eq_getElem hd1]; rfl
   have hsz := sok.sz d
   have hms := sok.ms d
   have hnx := sok.nx d
   have hks := sok.ks _ (List.getElem_mem hd1)
   have hbd := sok.bd _ (List.getElem_mem hd1)
   have hdrop : G.drop d = G[d] :: G.drop (d + 1) := List.drop_eq_getElem_cons hd1
   have hszd : szG G d = G[d].length := by unfold szG; rw [if_pos hd1, hgd]
   have hA : AfL most G d = (List.range G[d].length).map fun k => DT most (G[d] :: G.drop (d + 1)) k := by unfold AfL; rw [hszd, hdrop]
   have hAf : ∀ k (h : k < szG G (d + 1)), (rowsTt (AfL most G (d + 1)))[0 + ((k : Nat) : Int).toNat]? = some [tlsA (DT most (G.drop (d + 1)) k)] := fun k h => by
    rw [Nat.zero_add, Int.toNat_natCast, List.getElem?_map, AfL_at h]
    rfl
   have hDok : ∀ k (h : k < szG G (d + 1)), ∀ t ∈ DT most (G.drop (d + 1)) k, TlOk t := fun k h => DT_ok hm.1 sok hd h
   obtain ⟨AF, hAF⟩ : ∃ AF, AF = AfL most G (d + 1) := ⟨_, rfl⟩
   obtain ⟨G', hG'⟩ : ∃ G', G' = G.drop (d + 1) := ⟨_, rfl⟩
   rw [← hG'] at hA hAf hDok
   have hAFl : AF.length = szG G (d + 1) := by rw [hAF, AfL_len]
   rw [← hAF] at hAf ⊢
   rw [hgd] at hsz hms hnx
   generalize G[d] = gg at hrd hsz hms hnx hks hbd hA
   (repeat' (first | ((conv => whnf); first | exact rfl | exact ⟨rfl, rfl⟩ | refine dk (by kernel_rfl) ?_ | refine pk (by kernel_rfl) ?_ | refine ⟨rfl, ?_⟩ | refine ⟨by (first | omega | (simp (disch := omega) only [wrapI]; first | omega | (simp; omega)) | (simp; omega)), ?_⟩ | (intro ep) | fail)))
   all_goals (conv => whnf)
   obtain ⟨hk, hhk⟩ : ∃ hk : Nat → List (List Tl), hk = fun k => (List.range k).map fun k => DT most (gg :: G') k := ⟨_, rfl⟩
   have hkl : ∀ k, (hk k).length = k := fun k => by rw [hhk]; simp
   have hks1 : ∀ k, hk (k + 1) = hk k ++ [DT most (gg :: G') k] := fun k => by rw [hhk]; simp only [List.range_succ, List.map_append, List.map_cons, List.map_nil]
   have hA : AfL most G d = hk gg.length := by rw [hA, hhk]
   have hglen := hsz
   refine loopZ (okx [] []) mixed (A := A40) [0, 1, 5, 6, 7, 8] [10] (S := { z : Nat × Nat // z.1 ≤ gg.length })
    (fr := fun z => frOf 0 156 [(0, stepsA G), (1, .int .i64 (most : Int)), (5, ttA AF), (6, .int .i64 (d : Int)), (7, .oslc (.s 10) z.1.2 1 0 z.1.1 false), (8, .int .i64 (z.1.1 : Int))])
    (h := fun z => ⟨[.hole, .hole, .hole, .hole, .hole, .hole, .hole, .hole, .hole, .hole, .vec z.1.2 (rowsTt (hk z.1.1)), .hole, .hole, .hole, .hole], []⟩) (μ := fun z => gg.length - z.1.1)
    ⟨(0, ep), Nat.zero_le _⟩ ?_ ?_
    [0, 1, 6, 7] [10] (S' := Nat) (X := fun _ => 2) (frX := fun e => frOf 0 156 [(0, stepsA G), (1, .int .i64 (most : Int)), (6, .int .i64 (d : Int)), (7, .oslc (.s 10) e 1 0 gg.length false)])
    (hX := fun e => ⟨[.hole, .hole, .hole, .hole, .hole, .hole, .hole, .hole, .hole, .hole, .vec e (rowsTt (hk gg.length)), .hole, .hole, .hole, .hole], []⟩)
    [] [] (S2 := Empty) (frR := fun _ => []) (hR := fun _ => Heap.nil) ?_ (fun z => z.elim) ?_
   ·exact rfl
   ·rw [hhk]; exact rfl
   ·rintro ⟨⟨k, eh⟩, hk1⟩
    simp only at hk1
    show aexR _ _ _ (frOf 0 156 [(0, stepsA G), (1, .int .i64 (most : Int)), (5, ttA AF), (6, .int .i64 (d : Int)), (7, .oslc (.s 10) eh 1 0 k false), (8, .int .i64 (k : Int))])
     ⟨[.hole, .hole, .hole, .hole, .hole, .hole, .hole, .hole, .hole, .hole, .vec eh (rowsTt (hk k)), .hole, .hole, .hole, .hole], []⟩ _
    unfold stepsA
    unfold movesA at hrd
    by_cases gk : k < gg.length
    ·have hrk : (rowsH gg)[0 + ((k : Nat) : Int).toNat]? = some [hereA gg[k]] := mapR (f := fun h => [hereA h]) gk
     have hgk : gg.getD k [] = gg[k] := by rw [List.getD_eq_getElem?_getD, List.getElem?_eq_getElem gk]; rfl
     have hms := hms k
     have hnx := hnx k
     have hks := hks _ (List.getElem_mem gk)
     have hbd := hbd _ (List.getElem_mem gk)
     have hDk : DT most (gg :: G') k = firstT (llC most G' gg[k]) most := by rw [DT_cons, hgk]
     rw [hgk] at hms hnx
     generalize gg[k] = ms at hrk hms hnx hks hbd hDk
     (repeat' (first | ((conv => whnf); first | refine optS hrd ?_ | exact rfl | exact ⟨rfl, rfl⟩ | refine dk (by kernel_rfl) ?_ | refine pk (by kernel_rfl) ?_ | refine ⟨rfl, ?_⟩ | refine ⟨by (first | omega | (simp (disch := omega) only [wrapI]; first | omega | (simp; omega)) | (simp; omega)), ?_⟩ | (intro ep) | (refine ifB (fun hb => ?_) (fun hb => ?_) <;> (try simp only [qs] at hb) <;> (try simp (disch := omega) only [wrapI] at hb) <;> (try (exfalso; omega))) | fail)))
     all_goals (conv => whnf)
     refine loopZ (okx [] []) mixed (A := A40) [0, 1, 5, 6, 7, 8, 9, 10] [8, 10] (S := { z : Nat × Nat // z.1 ≤ ms.length })
      (fr := fun z => frOf 0 156 [(0, stepsA G), (1, .int .i64 (most : Int)), (5, ttA AF), (6, .int .i64 (d : Int)), (7, .oslc (.s 10) eh 1 0 k false), (8, .int .i64 (k : Int)), (9, .oslc (.s 8) z.1.2 1 0 z.1.1 false), (10, .int .i64 (z.1.1 : Int))])
      (h := fun z => ⟨[.hole, .hole, .hole, .hole, .hole, .hole, .hole, .hole, .vec z.1.2 (rowsTt (llC most G' (ms.take z.1.1))), .hole, .vec eh (rowsTt (hk k)), .hole, .hole, .hole, .hole], []⟩) (μ := fun z => ms.length - z.1.1)
      ⟨(0, ep), Nat.zero_le _⟩ ?_ ?_
      [0, 1, 5, 6, 7, 8, 9] [8, 10] (S' := Nat) (X := fun _ => 4) (frX := fun e => frOf 0 156 [(0, stepsA G), (1, .int .i64 (most : Int)), (5, ttA AF), (6, .int .i64 (d : Int)), (7, .oslc (.s 10) eh 1 0 k false), (8, .int .i64 (k : Int)), (9, .oslc (.s 8) e 1 0 ms.length false)])
      (hX := fun e => ⟨[.hole, .hole, .hole, .hole, .hole, .hole, .hole, .hole, .vec e (rowsTt (llC most G' ms)), .hole, .vec eh (rowsTt (hk k)), .hole, .hole, .hole, .hole], []⟩)
      [] [] (S2 := Empty) (frR := fun _ => []) (hR := fun _ => Heap.nil) ?_ (fun z => z.elim) ?_
     ·exact rfl
     ·exact rfl
     ·rintro ⟨⟨j, el⟩, hj1⟩
      simp only at hj1
      show aexR _ _ _ (frOf 0 156 [(0, stepsA G), (1, .int .i64 (most : Int)), (5, ttA AF), (6, .int .i64 (d : Int)), (7, .oslc (.s 10) eh 1 0 k false), (8, .int .i64 (k : Int)), (9, .oslc (.s 8) el 1 0 j false), (10, .int .i64 (j : Int))])
       ⟨[.hole, .hole, .hole, .hole, .hole, .hole, .hole, .hole, .vec el (rowsTt (llC most G' (ms.take j))), .hole, .vec eh (rowsTt (hk k)), .hole, .hole, .hole, .hole], []⟩ _
      unfold stepsA
      unfold hereA at hrk
      by_cases gj : j < ms.length
      ·have hrm : (rowsM ms)[0 + ((j : Nat) : Int).toNat]? = some (rmvR ms[j]) := mapR (f := rmvR) gj
       have hnx := hnx _ (List.getElem_mem gj)
       have hks := hks _ (List.getElem_mem gj)
       have hbd := hbd _ (List.getElem_mem gj)
       have htk : ms.take (j + 1) = ms.take j ++ [ms[j]] := List.take_succ_eq_append_getElem gj
       generalize ms[j] = hm0 at hrm hnx hks hbd htk
       obtain ⟨ks, to, c, m⟩ := hm0
       simp only at hnx hks hbd
       unfold rmvR at hrm
       simp only at hrm
       (repeat' (first | ((conv => whnf); first | refine optS hrd ?_ | refine optS hrk ?_ | refine optS hrm ?_ | exact rfl | exact ⟨rfl, rfl⟩ | refine dk (by kernel_rfl) ?_ | refine pk (by kernel_rfl) ?_ | refine ⟨rfl, ?_⟩ | refine ⟨by (first | omega | (simp (disch := omega) only [wrapI]; first | omega | (simp; omega)) | (simp; omega)), ?_⟩ | (intro ep) | (refine ifB (fun hb => ?_) (fun hb => ?_) <;> (try simp only [qs] at hb) <;> (try simp (disch := omega) only [wrapI] at hb) <;> (try (exfalso; omega))) | fail)))
       all_goals (conv => whnf)
       rename_i ep_1
       have hrT := hAf to hnx
       have hTok := hDok to hnx
       rw [← hAFl] at hnx
       have hTl := DT_len (most := most) hm.1 G' to
       obtain ⟨h0, hh0⟩ : ∃ h0 : RMv, h0 = ⟨ks, to, c, m⟩ := ⟨_, rfl⟩
       have htk : llC most G' (ms.take (j + 1)) = llC most G' (ms.take j) ++ [(DT most G' to).map (ext h0)] := by rw [htk, hh0]; unfold llC; rw [List.map_append]; rfl
       generalize DT most G' to = T at hrT hTok hTl htk
       unfold tlsA at hrT
       refine loopW (okx [] []) mixed (A := A40) (S := { z : Nat × Nat // z.1 ≤ T.length })
        (fun z => frOf 0 156 [(0, stepsA G), (1, .int .i64 (most : Int)), (5, ttA AF), (6, .int .i64 (d : Int)), (7, .oslc (.s 10) eh 1 0 k false), (8, .int .i64 (k : Int)), (9, .oslc (.s 8) el 1 0 j false), (10, .int .i64 (j : Int)), (11, .optr (.s 3) ep_1 4 0 0), (12, .oslc (.s 6) z.1.2 1 0 z.1.1 false), (13, .int .i64 (z.1.1 : Int))])
        (fun z => ⟨[.hole, .hole, .hole, .vec ep_1 [[intsA ks, .int .i64 (to : Int), .int .i64 c, .int .i64 m]], .hole, .hole, .vec z.1.2 (rowsTl ((T.take z.1.1).map (ext h0))), .hole, .vec el (rowsTt (llC most G' (ms.take j))), .hole, .vec eh (rowsTt (hk k)), .hole, .hole, .hole, .hole], []⟩) (fun z => T.length - z.1.1)
        ⟨(0, ep), Nat.zero_le _⟩ ?_ (S' := Nat) (fun _ => 6)
        (fun e => frOf 0 156 [(0, stepsA G), (1, .int .i64 (most : Int)), (5, ttA AF), (6, .int .i64 (d : Int)), (7, .oslc (.s 10) eh 1 0 k false), (8, .int .i64 (k : Int)), (9, .oslc (.s 8) el 1 0 j false), (10, .int .i64 (j : Int)), (12, .oslc (.s 6) e 1 0 T.length false)])
        (fun e => ⟨[.hole, .hole, .hole, .hole, .hole, .hole, .vec e (rowsTl (T.map (ext h0))), .hole, .vec el (rowsTt (llC most G' (ms.take j))), .hole, .vec eh (rowsTt (hk k)), .hole, .hole, .hole, .hole], []⟩) ?_ ?_
       ·exact tr_mask [0, 1, 5, 6, 7, 8, 9, 10, 11, 12, 13] [3, 6, 8, 10] rfl rfl (tr_done ⟨rfl, rfl⟩)
       ·rintro ⟨⟨n, e6⟩, hn1⟩
        simp only at hn1
        show aexR _ _ _ (frOf 0 156 [(0, stepsA G), (1, .int .i64 (most : Int)), (5, ttA AF), (6, .int .i64 (d : Int)), (7, .oslc (.s 10) eh 1 0 k false), (8, .int .i64 (k : Int)), (9, .oslc (.s 8) el 1 0 j false), (10, .int .i64 (j : Int)), (11, .optr (.s 3) ep_1 4 0 0), (12, .oslc (.s 6) e6 1 0 n false), (13, .int .i64 (n : Int))])
         ⟨[.hole, .hole, .hole, .vec ep_1 [[intsA ks, .int .i64 (to : Int), .int .i64 c, .int .i64 m]], .hole, .hole, .vec e6 (rowsTl ((T.take n).map (ext h0))), .hole, .vec el (rowsTt (llC most G' (ms.take j))), .hole, .vec eh (rowsTt (hk k)), .hole, .hole, .hole, .hole], []⟩ _
        unfold ttA
        by_cases gn : n < T.length
        ·have hrt : (rowsTl T)[0 + ((n : Nat) : Int).toNat]? = some [tlA T[n]] := mapR (f := fun t => [tlA t]) gn
         have hTok := hTok _ (List.getElem_mem gn)
         have hTk : T.take (n + 1) = T.take n ++ [T[n]] := List.take_succ_eq_append_getElem gn
         generalize T[n] = t at hrt hTok hTk
         obtain ⟨⟨ks2, c2, m2⟩, r, rfl⟩ : ∃ a r, t = a :: r := by
          cases t with
          | nil => exact absurd rfl hTok.ne
          | cons a r => exact ⟨a, r, rfl⟩
         have hc := hTok.c
         have hm2 := hTok.m
         simp only [tc] at hc hm2
         (repeat' (first | ((conv => whnf); first | refine optS hrT ?_ | refine optS hrt ?_ | exact rfl | exact ⟨rfl, rfl⟩ | refine dk (by kernel_rfl) ?_ | refine pk (by kernel_rfl) ?_ | refine ⟨rfl, ?_⟩ | refine ⟨by (first | omega | (simp (disch := omega) only [wrapI]; first | omega | (simp; omega)) | (simp; omega)), ?_⟩ | (intro ep) | (refine ifB (fun hb => ?_) (fun hb => ?_) <;> (try simp only [qs] at hb) <;> (try simp (disch := omega) only [wrapI] at hb) <;> (try (exfalso; omega))) | fail)))
         all_goals (conv => whnf)
         rename_i e4 _
         have hw1 : IntKind.i64.wrap (c + c2) = c + c2 := wrapI (by omega) (by omega)
         have hw2 : IntKind.i64.wrap (m + m2) = m + m2 := wrapI (by omega) (by omega)
         have tl : List.take n (List.drop 0 (rowsTl ((T.take n).map (ext h0)))) = rowsTl ((T.take n).map (ext h0)) := by rw [List.drop_zero, List.take_of_length_le (by simp; omega)]
         have hne := noSt_rowsTl ((T.take n).map (ext h0))
         have e' : rowsTl ((T.take (n + 1)).map (ext h0)) = rowsTl ((T.take n).map (ext h0)) ++ [[.lptr 4 [[intsA ks, .int .i64 (IntKind.i64.wrap (c + c2)), .int .i64 (IntKind.i64.wrap (m + m2)), tlA ((ks2, c2, m2) :: r)]] 0 0]] := by
          have e0 : tlA (ext h0 ((ks2, c2, m2) :: r)) = .lptr 4 [[intsA ks, .int .i64 (c + c2), .int .i64 (m + m2), tlA ((ks2, c2, m2) :: r)]] 0 0 := by
           rw [hh0]
           show AV.lptr 4 [[ksA ks, .int .i64 (c + c2), .int .i64 (m + m2), tlA ((ks2, c2, m2) :: r)]] 0 0 = _
           rw [ksA_ne (l := ks) (fun h => by rw [h] at hks; simp at hks)]
          rw [hTk, hw1, hw2, ← e0]
          simp only [List.map_append, List.map_cons, List.map_nil]
         refine trb_of (tr_mask [0, 1, 5, 6, 7, 8, 9, 10, 11, 12, 13] [3, 4, 6, 8, 10] (fr' := frOf 0 156 [(0, stepsA G), (1, .int .i64 (most : Int)), (5, ttA AF), (6, .int .i64 (d : Int)), (7, .oslc (.s 10) eh 1 0 k false), (8, .int .i64 (k : Int)), (9, .oslc (.s 8) el 1 0 j false), (10, .int .i64 (j : Int)), (11, .optr (.s 3) ep_1 4 0 0), (12, .oslc (.s 6) ep 1 0 (n + 1) false), (13, .int .i64 ((n + 1 : Nat) : Int))])
          (h' := ⟨[.hole, .hole, .hole, .vec ep_1 [[intsA ks, .int .i64 (to : Int), .int .i64 c, .int .i64 m]], .vec e4 [[intsA ks, .int .i64 (IntKind.i64.wrap (c + c2)), .int .i64 (IntKind.i64.wrap (m + m2)), tlA ((ks2, c2, m2) :: r)]], .hole, .vec ep (List.take n (List.drop 0 (rowsTl ((T.take n).map (ext h0)))) ++ [[.optr (.s 4) e4 4 0 0]]), .hole, .vec el (rowsTt (llC most G' (ms.take j))), .hole, .vec eh (rowsTt (hk k)), .hole, .hole, .hole, .hole], []⟩) (by (first | exact rfl | (simp (disch := omega) only [wrapI]; exact rfl))) rfl ?_)
         rw [tl]
         refine tr_fp 4 e4 (row := [intsA ks, .int .i64 (IntKind.i64.wrap (c + c2)), .int .i64 (IntKind.i64.wrap (m + m2)), tlA ((ks2, c2, m2) :: r)])
          (fr' := frOf 0 156 [(0, stepsA G), (1, .int .i64 (most : Int)), (5, ttA AF), (6, .int .i64 (d : Int)), (7, .oslc (.s 10) eh 1 0 k false), (8, .int .i64 (k : Int)), (9, .oslc (.s 8) el 1 0 j false), (10, .int .i64 (j : Int)), (11, .optr (.s 3) ep_1 4 0 0), (12, .oslc (.s 6) ep 1 0 (n + 1) false), (13, .int .i64 ((n + 1 : Nat) : Int))])
          (st' := [.hole, .hole, .hole, .vec ep_1 [[intsA ks, .int .i64 (to : Int), .int .i64 c, .int .i64 m]], .hole, .hole, .vec ep (rowsTl ((T.take (n + 1)).map (ext h0))), .hole, .vec el (rowsTt (llC most G' (ms.take j))), .hole, .vec eh (rowsTt (hk k)), .hole, .hole, .hole, .hole]) (dy' := [])
          (by exact rfl) (pureRows_of1 (by exact rfl)) (by (repeat' (first | exact trivial | exact rfl | ((conv => whnf); first | exact trivial | exact rfl | refine ⟨?_, ?_⟩ | fail)))) ⟨trivial, trivial, trivial, by (repeat' (first | exact trivial | exact rfl | ((conv => whnf); first | exact trivial | exact rfl | refine ⟨?_, ?_⟩ | fail))), trivial, trivial, eqsG_snocP hne, trivial, eqsG_noSt (noSt_rowsTt _), trivial, eqsG_noSt (noSt_rowsTt _), trivial, trivial, trivial, trivial, trivial⟩ trivial (by exact rfl) ?_ rfl (tr_done ⟨⟨(n + 1, ep), gn⟩, rfl, rfl, by simp only; omega⟩)
         obtain ⟨RW, hRW⟩ : ∃ RW : List (List AV), RW = [[intsA ks, .int .i64 (IntKind.i64.wrap (c + c2)), .int .i64 (IntKind.i64.wrap (m + m2)), tlA ((ks2, c2, m2) :: r)]] := ⟨_, rfl⟩
         rw [e', ← hRW]
         show ([.hole, .hole, .hole, .vec ep_1 [[intsA ks, .int .i64 (to : Int), .int .i64 c, .int .i64 m]], .hole, .hole, .vec ep (((rowsTl ((T.take n).map (ext h0)) ++ [[AV.optr (.s 4) e4 4 0 0]]).map fun r : List AV => r.map (fcS 4 RW)).map (fun r : List AV => r.map (fcP 4 RW))), .hole, .vec el (((rowsTt (llC most G' (ms.take j))).map fun r : List AV => r.map (fcS 4 RW)).map (fun r : List AV => r.map (fcP 4 RW))), .hole, .vec eh (((rowsTt (hk k)).map fun r : List AV => r.map (fcS 4 RW)).map (fun r : List AV => r.map (fcP 4 RW))), .hole, .hole, .hole, .hole] : List AObj) = _
         rw [map_fcP hne, map_fc (noSt_rowsTt _), map_fc (noSt_rowsTt _)]
        ·have gn : n = T.length := by omega
         subst gn
         (repeat' (first | ((conv => whnf); first | refine optS hrT ?_ | exact rfl | exact ⟨rfl, rfl⟩ | refine dk (by kernel_rfl) ?_ | refine pk (by kernel_rfl) ?_ | refine ⟨rfl, ?_⟩ | refine ⟨by (first | omega | (simp (disch := omega) only [wrapI]; first | omega | (simp; omega)) | (simp; omega)), ?_⟩ | (intro ep) | (refine ifB (fun hb => ?_) (fun hb => ?_) <;> (try simp only [qs] at hb) <;> (try simp (disch := omega) only [wrapI] at hb) <;> (try (exfalso; omega))) | fail)))
         all_goals (conv => whnf)
         refine trb_of (tr_mask [0, 1, 5, 6, 7, 8, 9, 10, 12] [6, 8, 10] rfl rfl (tr_done ⟨e6, rfl, rfl, ?_⟩))
         rw [List.take_length]
         exact rfl
       ·intro e6
        have tM : List.take j (List.drop 0 (rowsTt (llC most G' (ms.take j)))) = rowsTt (llC most G' (ms.take j)) := by rw [List.drop_zero, List.take_of_length_le (by simp [llC]; omega)]
        (repeat' (first | ((conv => whnf); first | exact rfl | exact ⟨rfl, rfl⟩ | refine dk (by kernel_rfl) ?_ | refine pk (by kernel_rfl) ?_ | refine ⟨rfl, ?_⟩ | refine ⟨by (first | omega | (simp (disch := omega) only [wrapI]; first | omega | (simp; omega)) | (simp; omega)), ?_⟩ | (intro ep) | (refine ifB (fun hb => ?_) (fun hb => ?_) <;> (try simp only [qs] at hb) <;> (try simp (disch := omega) only [wrapI] at hb) <;> (try (exfalso; omega))) | fail)))
        all_goals (conv => whnf)
        have nsr : ∀ r ∈ List.take j (List.drop 0 (rowsTt (llC most G' (ms.take j)))), r.all noS = true := fun r hr => by
         rw [tM] at hr
         obtain ⟨z, _, rfl⟩ := List.mem_map.1 hr
         rfl
        have hTe : (T.map (ext h0)).length = T.length := by simp
        have e' : rowsTt (llC most G' (ms.take (j + 1))) = List.take j (List.drop 0 (rowsTt (llC most G' (ms.take j)))) ++ [[.lslc 1 (rowsTl (T.map (ext h0))) 0 T.length false]] := by
         rw [tM, htk]
         simp [tlsA]
        have e5 := fcS_snoc (n := 6) (ep := e6) (sz := 1) (o := 0) (l := T.length) (lim := false) (R := rowsTl (T.map (ext h0))) nsr
        rw [← e'] at e5
        refine ⟨pure_rowsTl _, by (repeat' (first | exact trivial | exact rfl | ((conv => whnf); first | exact trivial | exact rfl | refine ⟨?_, ?_⟩ | fail))), ⟨trivial, trivial, trivial, trivial, trivial, trivial, trivial, by (repeat' (first | exact trivial | exact rfl | ((conv => whnf); first | exact trivial | exact rfl | refine ⟨?_, ?_⟩ | fail))), eqsP_snoc nsr, trivial, eqsP_rows (hk k) (fun _ => rfl), trivial, trivial, trivial, trivial, trivial⟩, trivial, ?_⟩
        (conv => whnf)
        refine back_of ⟨(j + 1, ep), gj⟩ ⟨by (first | exact rfl | (simp (disch := omega) only [wrapI]; exact rfl)), ?_, by simp only; omega⟩
        show Heap.mk [.hole, .hole, .hole, .hole, .hole, .hole, .hole, .hole, .vec ep ((List.take j (List.drop 0 (rowsTt (llC most G' (ms.take j)))) ++ [[AV.oslc (.s 6) e6 1 0 T.length false]]).map fun r => r.map (fcS 6 (rowsTl (T.map (ext h0))))), .hole, .vec eh ((rowsTt (hk k)).map fun r => r.map (fcS 6 (rowsTl (T.map (ext h0))))), .hole, .hole, .hole, .hole] [] = _
        rw [e5, fcS_rows (hk k) (fun _ => rfl)]
      ·have gj : j = ms.length := by omega
       subst gj
       (repeat' (first | ((conv => whnf); first | refine optS hrd ?_ | refine optS hrk ?_ | exact rfl | exact ⟨rfl, rfl⟩ | refine dk (by kernel_rfl) ?_ | refine pk (by kernel_rfl) ?_ | refine ⟨rfl, ?_⟩ | refine ⟨by (first | omega | (simp (disch := omega) only [wrapI]; first | omega | (simp; omega)) | (simp; omega)), ?_⟩ | (intro ep) | (refine ifB (fun hb => ?_) (fun hb => ?_) <;> (try simp only [qs] at hb) <;> (try simp (disch := omega) only [wrapI] at hb) <;> (try (exfalso; omega))) | fail)))
       all_goals (conv => whnf)
       rw [List.take_length]
       exact back_of el ⟨rfl, rfl, rfl⟩
     ·intro e
      have hll : (llC most G' ms).length = ms.length := by unfold llC; simp
      refine tr_fz 8 e (rows := rowsTt (llC most G' ms)) (fr' := frOf 0 156 [(0, stepsA G), (1, .int .i64 (most : Int)), (5, ttA AF), (6, .int .i64 (d : Int)), (7, .oslc (.s 10) eh 1 0 k false), (8, .int .i64 (k : Int)), (9, ttA (llC most G' ms))])
       (st' := [.hole, .hole, .hole, .hole, .hole, .hole, .hole, .hole, .hole, .hole, .vec eh (rowsTt (hk k)), .hole, .hole, .hole, .hole]) (by exact rfl) (pure_rowsTt _) (by (repeat' (first | exact trivial | exact rfl | ((conv => whnf); first | exact trivial | exact rfl | refine ⟨?_, ?_⟩ | fail)))) ⟨trivial, trivial, trivial, trivial, trivial, trivial, trivial, trivial, trivial, trivial, eqsP_noSt fun a ha => by
        obtain ⟨r, hr, ha⟩ := List.mem_flatten.1 ha
        exact noSt_rowsTt _ r hr a ha, trivial, trivial, trivial, trivial, trivial⟩ (fun o h => absurd h (by simp)) ?_ ?_ (tr_done ?_)
      ·unfold ttA
       rw [hll]
       exact rfl
      ·show ([.hole, .hole, .hole, .hole, .hole, .hole, .hole, .hole, .hole, .hole, AObj.fcO 8 (rowsTt (llC most G' ms)) (.vec eh (rowsTt (hk k))), .hole, .hole, .hole, .hole] : List AObj) = _
       rw [fcO_noO (noO_vec (noSt_rowsTt _))]
      have hF := first67 (llC most G' ms) (llC_ok hm hms) most hm.2
      (repeat' (first | ((conv => whnf); first | refine PRet.calls hF ?_ | exact rfl | exact ⟨rfl, rfl⟩ | refine dk (by kernel_rfl) ?_ | refine pk (by kernel_rfl) ?_ | refine ⟨rfl, ?_⟩ | refine ⟨by (first | omega | (simp (disch := omega) only [wrapI]; first | omega | (simp; omega)) | (simp; omega)), ?_⟩ | (intro ep) | (refine ifB (fun hb => ?_) (fun hb => ?_) <;> (try simp only [qs] at hb) <;> (try simp (disch := omega) only [wrapI] at hb) <;> (try (exfalso; omega))) | fail)))
      all_goals (conv => whnf)
      have tl : List.take k (List.drop 0 (rowsTt (hk k))) = rowsTt (hk k) := by rw [List.drop_zero, List.take_of_length_le (by simp [hkl])]
      have e' : rowsTt (hk (k + 1)) = List.take k (List.drop 0 (rowsTt (hk k))) ++ [[tlsA (firstT (llC most G' ms) most)]] := by rw [tl, hks1, hDk]; simp
      refine back_of (S := { z : Nat × Nat // z.1 ≤ gg.length }) ⟨(k + 1, ep), gk⟩ ⟨by (first | exact rfl | (simp (disch := omega) only [wrapI]; exact rfl)), ?_, by simp only; omega⟩
      simp only [e']
      exact rfl
    ·have gk : k = gg.length := by omega
     subst gk
     (repeat' (first | ((conv => whnf); first | refine optS hrd ?_ | exact rfl | exact ⟨rfl, rfl⟩ | refine dk (by kernel_rfl) ?_ | refine pk (by kernel_rfl) ?_ | refine ⟨rfl, ?_⟩ | refine ⟨by (first | omega | (simp (disch := omega) only [wrapI]; first | omega | (simp; omega)) | (simp; omega)), ?_⟩ | (intro ep) | (refine ifB (fun hb => ?_) (fun hb => ?_) <;> (try simp only [qs] at hb) <;> (try simp (disch := omega) only [wrapI] at hb) <;> (try (exfalso; omega))) | fail)))
     all_goals (conv => whnf)
     exact back_of eh ⟨rfl, rfl, rfl⟩
   ·intro e
    refine tr_fz 10 e (rows := rowsTt (hk gg.length)) (fr' := frOf 0 156 [(0, stepsA G), (1, .int .i64 (most : Int)), (6, .int .i64 (d : Int)), (7, ttA (hk gg.length))])
     (st' := hl15) (by exact rfl) (pure_rowsTt _) (by (repeat' (first | exact trivial | exact rfl | ((conv => whnf); first | exact trivial | exact rfl | refine ⟨?_, ?_⟩ | fail)))) (by (repeat' (first | exact trivial | exact rfl | ((conv => whnf); first | exact trivial | exact rfl | refine ⟨?_, ?_⟩ | fail)))) (fun o h => absurd h (by simp)) ?_ (by exact rfl) (tr_done ?_)
    ·unfold ttA
     rw [hkl]
     exact rfl
    (repeat' (first | ((conv => whnf); first | exact rfl | exact ⟨rfl, rfl⟩ | refine dk (by kernel_rfl) ?_ | refine pk (by kernel_rfl) ?_ | refine ⟨rfl, ?_⟩ | refine ⟨by (first | omega | (simp (disch := omega) only [wrapI]; first | omega | (simp; omega)) | (simp; omega)), ?_⟩ | (intro ep) | (refine ifB (fun hb => ?_) (fun hb => ?_) <;> (try simp only [qs] at hb) <;> (try simp (disch := omega) only [wrapI] at hb) <;> (try (exfalso; omega))) | fail)))
    all_goals (conv => whnf)
    rw [← hA]
    refine back_of (S := { d : Nat // d ≤ G.length }) ⟨d, by omega⟩ ⟨by (first | exact rfl | (simp (disch := omega) only [wrapI]; exact rfl)), rfl, by simp only; omega⟩
  ·simp only [decide_eq_false_iff_not] at g
   have g : d = 0 := by omega
   subst g
   (repeat' (first | ((conv => whnf); first | exact rfl | exact ⟨rfl, rfl⟩ | refine dk (by kernel_rfl) ?_ | refine pk (by kernel_rfl) ?_ | refine ⟨rfl, ?_⟩ | refine ⟨by (first | omega | (simp (disch := omega) only [wrapI]; first | omega | (simp; omega)) | (simp; omega)), ?_⟩ | (intro ep) | fail)))
   all_goals (conv => whnf)
   exact back_of () ⟨rfl, rfl, rfl⟩
 ·rintro ⟨⟩
  refine tr_done ?_
  have hA0 := AfL_at (most := most) (G := G) (d := 0) sok.one
  rw [List.drop_zero] at hA0
  have hAl : (AfL most G 0).length = szG G 0 := AfL_len
  have hone := sok.one
  rw [← hAl] at hone
  have hr0 : (rowsTt (AfL most G 0))[0 + ((0 : Nat) : Int).toNat]? = some [tlsA (DT most G 0)] := by
   rw [show 0 + ((0 : Nat) : Int).toNat = 0 from rfl, List.getElem?_map, hA0]
   rfl
  have hTok := DT_ok hm.1 sok (d := 0) (k := 0) (Nat.zero_le _) sok.one
  rw [List.drop_zero] at hTok
  have hTl := DT_len (most := most) hm.1 G 0
  unfold voiD at hR
  generalize AfL most G 0 = AF at hr0 hone
  generalize DT most G 0 = T at hr0 hTok hTl hR
  unfold tlsA at hr0
  obtain ⟨vr, hvr⟩ : ∃ vr : Tl → List AV, vr = fun t => voiR (vT t) (tc t).1 (tc t).2 := ⟨_, rfl⟩
  rw [← hvr] at hR
  (repeat' (first | ((conv => whnf); first | exact rfl | exact ⟨rfl, rfl⟩ | refine dk (by kernel_rfl) ?_ | refine pk (by kernel_rfl) ?_ | refine ⟨rfl, ?_⟩ | refine ⟨by (first | omega | (simp (disch := omega) only [wrapI]; first | omega | (simp; omega)) | (simp; omega)), ?_⟩ | (intro ep) | fail)))
  all_goals (conv => whnf)
  refine loopY (okx [] []) mixed (A := A40) [5, 15, 16] [14] (S := { z : Nat × Nat // z.1 ≤ T.length })
   (fr := fun z => frOf 0 156 [(5, ttA AF), (15, .oslc (.s 14) z.1.2 3 0 z.1.1 false), (16, .int .i64 (z.1.1 : Int))])
   (h := fun z => ⟨[.hole, .hole, .hole, .hole, .hole, .hole, .hole, .hole, .hole, .hole, .hole, .hole, .hole, .hole, .vec z.1.2 ((T.take z.1.1).map vr)], []⟩) (μ := fun z => T.length - z.1.1)
   ⟨(0, ep), Nat.zero_le _⟩ ?_ ?_
   [15] [14] (S' := Nat) (X := fun _ => 8) (frX := fun e => frOf 0 156 [(15, .oslc (.s 14) e 3 0 T.length false)])
   (hX := fun e => ⟨[.hole, .hole, .hole, .hole, .hole, .hole, .hole, .hole, .hole, .hole, .hole, .hole, .hole, .hole, .vec e (T.map vr)], []⟩)
   [] [] (S2 := Empty) (frR := fun _ => []) (hR := fun _ => Heap.nil) ?_ (fun z => z.elim) ?_
  ·exact rfl
  ·exact rfl
  ·rintro ⟨⟨i, eo⟩, hi1⟩
   simp only at hi1
   show aexR _ _ _ (frOf 0 156 [(5, ttA AF), (15, .oslc (.s 14) eo 3 0 i false), (16, .int .i64 (i : Int))])
    ⟨[.hole, .hole, .hole, .hole, .hole, .hole, .hole, .hole, .hole, .hole, .hole, .hole, .hole, .hole, .vec eo ((T.take i).map vr)], []⟩ _
   unfold ttA
   by_cases gi : i < T.length
   ·have hrt : (rowsTl T)[0 + ((i : Nat) : Int).toNat]? = some [tlA T[i]] := mapR (f := fun t => [tlA t]) gi
    have hTok := hTok _ (List.getElem_mem gi)
    have hTk : T.take (i + 1) = T.take i ++ [T[i]] := List.take_succ_eq_append_getElem gi
    generalize T[i] = t at hrt hTok hTk
    obtain ⟨⟨ks2, c2, m2⟩, r, ht⟩ : ∃ a r, t = a :: r := by
     cases t with
     | nil => exact absurd rfl hTok.ne
     | cons a r => exact ⟨a, r, rfl⟩
    rw [ht] at hrt
    (repeat' (first | ((conv => whnf); first | refine optS hr0 ?_ | refine optS hrt ?_ | exact rfl | exact ⟨rfl, rfl⟩ | refine dk (by kernel_rfl) ?_ | refine pk (by kernel_rfl) ?_ | refine ⟨rfl, ?_⟩ | refine ⟨by (first | omega | (simp (disch := omega) only [wrapI]; first | omega | (simp; omega)) | (simp; omega)), ?_⟩ | (intro ep) | (refine ifB (fun hb => ?_) (fun hb => ?_) <;> (try simp only [qs] at hb) <;> (try simp (disch := omega) only [wrapI] at hb) <;> (try (exfalso; omega))) | fail)))
    all_goals (conv => whnf)
    rename_i e11
    have hvt : vr t = [intsA (vT t), .int .i64 c2, .int .i64 m2] := by rw [hvr, ht]; rfl
    refine wk_tr ?_
    refine tr_mask [5, 15, 16, 18, 19] [11, 14] (fr' := frOf 0 156 [(5, ttA AF), (15, .oslc (.s 14) eo 3 0 i false), (16, .int .i64 (i : Int)), (18, .optr (.s 11) ep 3 0 0), (19, tlA t)])
     (h' := ⟨[.hole, .hole, .hole, .hole, .hole, .hole, .hole, .hole, .hole, .hole, .hole, .vec ep [[.nils, .int .i64 c2, .int .i64 m2]], .hole, .hole, .vec eo ((T.take i).map vr)], []⟩) (by rw [ht]; exact rfl) (by exact rfl) ?_
    refine tr_lift (.s 11) (.s 12) ep 1 0 0 (by intro e; injection e; omega) (by exact rfl) rfl rfl fun q12 => tr_done ?_
    have hx0 := hTok.len
    have hx1 := hTok.ks
    refine loopY (okx [] []) mixed (A := A40) [5, 15, 16, 18, 19] [11, 12, 14] (S := { z : List Int × Tl × Nat // z.1 ++ vT z.2.1 = vT t ∧ (∀ a ∈ z.2.1, a.1.length ≤ 100000) ∧ z.1.length + 100000 * z.2.1.length ≤ 600000000 })
     (fr := fun z => frOf 0 156 [(5, ttA AF), (15, .oslc (.s 14) eo 3 0 i false), (16, .int .i64 (i : Int)), (18, .optr (.s 11) ep 3 0 0), (19, tlA z.1.2.1)])
     (h := fun z => ⟨[.hole, .hole, .hole, .hole, .hole, .hole, .hole, .hole, .hole, .hole, .hole, .vec ep [[.oslc (.s 12) z.1.2.2 1 0 z.1.1.length false, .int .i64 c2, .int .i64 m2]], .vec z.1.2.2 (ints z.1.1), .hole, .vec eo ((T.take i).map vr)], []⟩) (μ := fun z => z.1.2.1.length)
     ⟨([], t, q12), rfl, hx1, by simp only [List.length_nil]; omega⟩ ?_ ?_
     [5, 15, 16, 18] [11, 12, 14] (S' := Nat) (X := fun _ => 10) (frX := fun _ => frOf 0 156 [(5, ttA AF), (15, .oslc (.s 14) eo 3 0 i false), (16, .int .i64 (i : Int)), (18, .optr (.s 11) ep 3 0 0)])
     (hX := fun e => ⟨[.hole, .hole, .hole, .hole, .hole, .hole, .hole, .hole, .hole, .hole, .hole, .vec ep [[.oslc (.s 12) e 1 0 (vT t).length false, .int .i64 c2, .int .i64 m2]], .vec e (ints (vT t)), .hole, .vec eo ((T.take i).map vr)], []⟩)
     [] [] (S2 := Empty) (frR := fun _ => []) (hR := fun _ => Heap.nil) ?_ (fun z => z.elim) ?_
    ·exact rfl
    ·exact rfl
    ·rintro ⟨⟨l, x, e12⟩, hx2, hx3, hx4⟩
     simp only at hx2 hx3 hx4
     show aexR _ _ _ (frOf 0 156 [(5, ttA AF), (15, .oslc (.s 14) eo 3 0 i false), (16, .int .i64 (i : Int)), (18, .optr (.s 11) ep 3 0 0), (19, tlA x)])
      ⟨[.hole, .hole, .hole, .hole, .hole, .hole, .hole, .hole, .hole, .hole, .hole, .vec ep [[.oslc (.s 12) e12 1 0 l.length false, .int .i64 c2, .int .i64 m2]], .vec e12 (ints l), .hole, .vec eo ((T.take i).map vr)], []⟩ _
     have tl1 : List.take l.length (List.drop 0 (ints l)) = ints l := by rw [List.drop_zero, List.take_of_length_le (by simp [ints])]
     cases x with
     | nil =>
      have e : l = vT t := by rw [← hx2]; simp [vT]
      subst e
      (repeat' (first | ((conv => whnf); first | exact rfl | exact ⟨rfl, rfl⟩ | refine dk (by kernel_rfl) ?_ | refine pk (by kernel_rfl) ?_ | refine ⟨rfl, ?_⟩ | refine ⟨by (first | omega | (simp (disch := omega) only [wrapI]; first | omega | (simp; omega)) | (simp; omega)), ?_⟩ | (intro ep) | (refine ifB (fun hb => ?_) (fun hb => ?_) <;> (try simp only [qs] at hb) <;> (try simp (disch := omega) only [wrapI] at hb) <;> (try (exfalso; omega))) | fail)))
      all_goals (conv => whnf)
      exact back_of e12 ⟨rfl, rfl, rfl⟩
     | cons a r2 =>
      obtain ⟨ks3, c3, m3⟩ := a
      have hka := hx3 _ (List.mem_cons_self ..)
      simp only at hka
      simp only [List.length_cons] at hx4
      have hx2 : (l ++ ks3) ++ vT r2 = vT t := by rw [← hx2]; simp [vT]
      cases ks3 with
      | nil =>
       rw [List.append_nil] at hx2
       have hfin : ∀ (S' : Nat), Heap.mk [.hole, .hole, .hole, .hole, .hole, .hole, .hole, .hole, .hole, .hole, .hole, .vec ep [[.oslc (.s 12) S' 1 0 (l.length + 0) false, .int .i64 c2, .int .i64 m2]], .vec S' (List.take l.length (List.drop 0 (ints l)) ++ []), .hole, .vec eo ((T.take i).map vr)] [] =
         ⟨[.hole, .hole, .hole, .hole, .hole, .hole, .hole, .hole, .hole, .hole, .hole, .vec ep [[.oslc (.s 12) S' 1 0 l.length false, .int .i64 c2, .int .i64 m2]], .vec S' (ints l), .hole, .vec eo ((T.take i).map vr)], []⟩ := fun S' => by rw [tl1, List.append_nil, Nat.add_zero]
       have hx5 : l.length + 100000 * r2.length ≤ 600000000 := by omega
       rcases r2 with _ | ⟨a4, r2⟩
       all_goals (repeat' (first | ((conv => whnf); first | exact rfl | exact ⟨rfl, rfl⟩ | refine dk (by kernel_rfl) ?_ | refine pk (by kernel_rfl) ?_ | refine ⟨rfl, ?_⟩ | refine ⟨by (first | omega | (simp (disch := omega) only [wrapI]; first | omega | (simp; omega)) | (simp; omega)), ?_⟩ | (intro ep) | (refine ifB (fun hb => ?_) (fun hb => ?_) <;> (try simp only [qs] at hb) <;> (try simp (disch := omega) only [wrapI] at hb) <;> (try (exfalso; omega))) | fail)))
       all_goals (conv => whnf)
       ·exact back_of ⟨(l, [], ep), hx2, fun a ha => by simp at ha, hx5⟩ ⟨rfl, hfin _, by simp⟩
       ·exact back_of ⟨(l, a4 :: r2, ep), hx2, fun a ha => hx3 a (List.mem_cons_of_mem _ ha), hx5⟩ ⟨rfl, hfin _, by simp⟩
      | cons a3 ks3 =>
       have tl2 : List.take (a3 :: ks3).length (List.drop 0 (ints (a3 :: ks3))) = ints (a3 :: ks3) := by rw [List.drop_zero, List.take_of_length_le (by simp [ints])]
       have ea : ints (l ++ a3 :: ks3) = List.take l.length (List.drop 0 (ints l)) ++ List.take (a3 :: ks3).length (List.drop 0 (ints (a3 :: ks3))) := by rw [tl1, tl2]; simp [ints]
       have eb : (l ++ a3 :: ks3).length = l.length + (List.take (a3 :: ks3).length (List.drop 0 (ints (a3 :: ks3)))).length := by rw [tl2]; simp [ints]
       have ec : (l ++ a3 :: ks3).length = l.length + (a3 :: ks3).length := List.length_append
       have hx5 : (l ++ a3 :: ks3).length + 100000 * r2.length ≤ 600000000 := by rw [ec]; omega
       rcases r2 with _ | ⟨a4, r2⟩
       all_goals (repeat' (first | ((conv => whnf); first | exact rfl | exact ⟨rfl, rfl⟩ | refine dk (by kernel_rfl) ?_ | refine pk (by kernel_rfl) ?_ | refine ⟨rfl, ?_⟩ | refine ⟨by (first | omega | (simp (disch := omega) only [wrapI]; first | omega | (simp; omega)) | (simp; omega)), ?_⟩ | (intro ep) | (refine ifB (fun hb => ?_) (fun hb => ?_) <;> (try simp only [qs] at hb) <;> (try simp (disch := omega) only [wrapI] at hb) <;> (try (exfalso; omega))) | fail)))
       all_goals (conv => whnf)
       ·refine back_of ⟨(l ++ a3 :: ks3, [], ep), hx2, fun a ha => by simp at ha, hx5⟩ ⟨rfl, ?_, by simp⟩
        simp only [ea, eb]
        exact rfl
       ·refine back_of ⟨(l ++ a3 :: ks3, a4 :: r2, ep), hx2, fun a ha => hx3 a (List.mem_cons_of_mem _ ha), hx5⟩ ⟨rfl, ?_, by simp⟩
        simp only [ea, eb]
        exact rfl
    ·intro e12
     (repeat' (first | ((conv => whnf); first | exact rfl | exact ⟨rfl, rfl⟩ | refine dk (by kernel_rfl) ?_ | refine pk (by kernel_rfl) ?_ | refine ⟨rfl, ?_⟩ | refine ⟨by (first | omega | (simp (disch := omega) only [wrapI]; first | omega | (simp; omega)) | (simp; omega)), ?_⟩ | (intro ep) | (refine ifB (fun hb => ?_) (fun hb => ?_) <;> (try simp only [qs] at hb) <;> (try simp (disch := omega) only [wrapI] at hb) <;> (try (exfalso; omega))) | fail)))
     all_goals (conv => whnf)
     have tM : List.take i (List.drop 0 ((T.take i).map vr)) = (T.take i).map vr := by rw [List.drop_zero, List.take_of_length_le (by simp; omega)]
     have hvs : ∀ x, (vr x).all noS = true := fun x => by rw [hvr]; rfl
     have e' : (T.take (i + 1)).map vr = List.take i (List.drop 0 ((T.take i).map vr)) ++ [[.lslc 1 (ints (vT t)) 0 (vT t).length false, .int .i64 c2, .int .i64 m2]] := by
      rw [tM, hTk, List.map_append, List.map_singleton, hvt]
      rfl
     have nsr : ∀ r ∈ List.take i (List.drop 0 ((T.take i).map vr)), r.all noS = true := fun r hr => by
      rw [tM] at hr
      obtain ⟨z, _, rfl⟩ := List.mem_map.1 hr
      exact hvs z
     have e5 := fcS_snoc3 (n := 12) (ep := e12) (sz := 1) (o := 0) (l := (vT t).length) (lim := false) (a := c2) (b := m2) (R := ints (vT t)) nsr
     rw [← e'] at e5
     refine ⟨pure_ints _, by (repeat' (first | exact trivial | exact rfl | ((conv => whnf); first | exact trivial | exact rfl | refine ⟨?_, ?_⟩ | fail))), ⟨trivial, trivial, trivial, trivial, trivial, trivial, trivial, trivial, trivial, trivial, trivial, by (repeat' (first | exact trivial | exact rfl | ((conv => whnf); first | exact trivial | exact rfl | refine ⟨?_, ?_⟩ | fail))), trivial, by (repeat' (first | exact trivial | exact rfl | ((conv => whnf); first | exact trivial | exact rfl | refine ⟨?_, ?_⟩ | fail))), eqsP_snoc3 nsr, trivial⟩, trivial, ?_⟩
     (conv => whnf)
     refine back_of ⟨(i + 1, ep), gi⟩ ⟨by (first | exact rfl | (simp (disch := omega) only [wrapI]; exact rfl)), ?_, by simp only; omega⟩
     show Heap.mk [.hole, .hole, .hole, .hole, .hole, .hole, .hole, .hole, .hole, .hole, .hole, .hole, .hole, .hole, .vec ep ((List.take i (List.drop 0 ((T.take i).map vr)) ++ [[AV.oslc (.s 12) e12 1 0 (vT t).length false, .int .i64 c2, .int .i64 m2]]).map fun r => r.map (fcS 12 (ints (vT t))))] [] = _
     rw [e5]
   ·have gi : i = T.length := by omega
    subst gi
    (repeat' (first | ((conv => whnf); first | refine optS hr0 ?_ | exact rfl | exact ⟨rfl, rfl⟩ | refine dk (by kernel_rfl) ?_ | refine pk (by kernel_rfl) ?_ | refine ⟨rfl, ?_⟩ | refine ⟨by (first | omega | (simp (disch := omega) only [wrapI]; first | omega | (simp; omega)) | (simp; omega)), ?_⟩ | (intro ep) | (refine ifB (fun hb => ?_) (fun hb => ?_) <;> (try simp only [qs] at hb) <;> (try simp (disch := omega) only [wrapI] at hb) <;> (try (exfalso; omega))) | fail)))
    all_goals (conv => whnf)
    rw [List.take_length]
    exact back_of eo ⟨rfl, rfl, rfl⟩
  ·intro eo
   have hpu : pureRows (T.map vr) := by rw [hvr]; exact pure_map _ fun t => rfl
   (repeat' (first | ((conv => whnf); first | refine ⟨hpu, ?_⟩ | exact rfl | exact ⟨rfl, rfl⟩ | refine dk (by kernel_rfl) ?_ | refine pk (by kernel_rfl) ?_ | refine ⟨rfl, ?_⟩ | refine ⟨by (first | omega | (simp (disch := omega) only [wrapI]; first | omega | (simp; omega)) | (simp; omega)), ?_⟩ | (intro ep) | (refine ifB (fun hb => ?_) (fun hb => ?_) <;> (try simp only [qs] at hb) <;> (try simp (disch := omega) only [wrapI] at hb) <;> (try (exfalso; omega))) | fail)))
   all_goals
    rw [hR]
    unfold voisA
    rw [List.length_map]
end Go.Ab.V
