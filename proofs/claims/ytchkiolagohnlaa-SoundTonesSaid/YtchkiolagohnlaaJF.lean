/-
  What is proved here serves the law's text: each part says its own claim and its conditions. No condition is left open.
-/
import Derived.Test.YtchkiolagohnlaaJD
import Derived.Test.YtchkiolagohnlaaJE
import Derived.Test.YtchkiolagohnlaaKN
import Derived.Test.YtchkiolagohnlaaJC
import Derived.Test.YtchkiolagohnlaaKV
import Derived.Test.YtchkiolagohnlaaKF
import Derived.Test.YtchkiolagohnlaaKQ
set_option linter.unusedSimpArgs false
set_option linter.unusedVariables false

/-
  The library's sort of tones by the program's order, as a call in abstract terms. No condition but the lengths.
-/
namespace Go.Ab.V
open Go.Proofs Go.Sort

def encT (x : Tn) : List Value := [.int .i64 x.p, .int .i64 x.f, .int .i64 x.t]
theorem ltOf3 : (Go.Proofs.ltOf cmp3) = bef := by funext x y; exact cmp3_lt x y
theorem sortF82 {h : Heap} {id : Id} {ep : Nat} {zs : List Tn} (ho : h[id]? = some (.vec ep (zs.map tnR))) (hl : zs.length < 4611686018427387904) :
    ACalls C.P 82 [.oslc id ep 3 0 zs.length false, .fn (.func 83) [] []] h fun r h' => r = .tup [] ∧ h' = h.set id (.vec ep ((sortT zs).map tnR)) := by
  refine sortF_acalls (P := Try.prog) (f := 82) (g := 83) (R := tnR) (E := encT) (k := 3) (srt := sortT) sortT_len (fun _ => rfl) (fun σ x j c v hc hv => ?_) (fun σ x j c hc => ?_) (fun blk off cap zs w hH hb hz => ?_) (fun p cap w => ?_) ho hl
  · obtain ⟨a, b, d⟩ := x
    match j, hc with
    | 0, hc => cases hc; cases hv; rfl
    | 1, hc => cases hc; cases hv; rfl
    | 2, hc => cases hc; cases hv; rfl
    | j + 3, hc => simp [tnR] at hc
  · obtain ⟨a, b, d⟩ := x
    match j, hc with
    | 0, hc => cases hc; exact ⟨_, rfl, rfl, .int⟩
    | 1, hc => cases hc; exact ⟨_, rfl, rfl, .int⟩
    | 2, hc => cases hc; exact ⟨_, rfl, rfl, .int⟩
    | j + 3, hc => simp [tnR] at hc
  · have eg : ∀ args w, (callFunc 83 args).run Try.prog w = .ok (.enter 83 args) w := enters_of Try.func83 (by kernel_rfl) rfl
    have hcon := AnyQ.slices_SortFunc_total Try.laysSortF 3 Try.isAgg118 Try.sizeOf118 encT (fun _ => rfl) (fun x v hv => by simp [encT] at hv; rcases hv with rfl | rfl | rfl <;> rfl) cmp3 (by rw [ltOf3]; exact bef_swo) 83 #[] blk off cap zs.toArray w eg
      (fun m os dk _ x y => order83 x y _) hH hb (by simpa using hz) (fun x y h1 h2 => by rw [ltOf3] at h1 h2; exact bef_tot h1 h2)
    rw [ltOf3] at hcon
    change Calls Try.prog 82 _ _ _ at hcon
    refine (show Calls Try.prog 82 #[.slice (some ⟨blk, off, none⟩) zs.length cap, .func (.func 83) #[] #[]] w _ from hcon).mono ?_
    rintro e w' ⟨rfl, n, os, rfl⟩
    exact ⟨rfl, n, os, rfl⟩
  · have hcon := AnyF.slices_SortFunc_none Try.laysSortF p cap (.func (.func 83) #[] #[]) w
    exact hcon
end Go.Ab.V

/-
  Tones: the program's and the document's, and the law. The pieces are of the sizes that a statement looks at.
-/
namespace Go.Ab.V
open Go.Proofs

def toTn (x : Nt) : Tn := ⟨x.p, x.f, x.t⟩
def tonesL (p : Pc) : List Tn := (notesL p).map toTn
def tonesV (p : Pc) : AV := if chk p = 0 then .tup [tnsA (sortT (tonesL p)), .int .i64 0] else .tup [.nils, .int .i64 (chk p)]
def A47 : Ann := fun r => match r with
  | 0 => { slots := [(0, 0)] }
  | 7 => { slots := [(2, 1)] }
  | 8 => { slots := [(8, 2), (9, 3)] }
  | _ => {}
set_option maxHeartbeats 8000000 in
set_option maxRecDepth 100000 in
theorem tones47 (p : Pc) (hp : p.Ok) : PRet C.P 47 [pcA p] (tonesV p) := by
  have hN := notes17 p hp
  unfold notesV at hN
  unfold tonesV
  by_cases hc : ¬ chk p = 0
  · rw [if_neg hc] at hN ⊢
    generalize chk p = e at hN hc
    refine pret_of (okx [] [82]) mixed (A := A47) 4 Try.func47 rfl ?_
    (repeat' (first | exact rfl | ((conv => whnf); first | refine ⟨_, hN, ?_⟩ | exact rfl | exact ⟨rfl, rfl⟩ | refine ⟨(by kernel_rfl : drawOk _ _ _ _ = true), ?_⟩ | refine ⟨(by kernel_rfl : planOk _ _ _ _ = true), ?_⟩ | refine ⟨rfl, ?_⟩ | refine ⟨by (first | omega | (simp (disch := omega) only [wrapI]; omega) | (simp (disch := omega) only [wrapI]; simp; omega) | (simp; omega)), ?_⟩ | (intro ep) | (refine ifB (fun hb => ?_) (fun hb => ?_) <;> (try simp only [decide_eq_true_eq, decide_eq_false_iff_not, beq_iff_eq, beq_eq_false_iff_ne, bne_iff_ne, bne_eq_false_iff_eq, ne_eq, not_false_eq_true, not_true_eq_false, Bool.not_eq_true, Bool.not_eq_true', Bool.not_eq_false', Int.not_lt, Int.not_le] at hb) <;> (try simp (disch := omega) only [wrapI] at hb) <;> (try (exfalso; omega))) | fail)))
  have hc := Decidable.not_not.1 hc
  rw [if_pos hc] at hN ⊢
  have hl := notes_len (vp hc)
  unfold tonesL
  obtain ⟨Z, hZ⟩ : ∃ Z, Z = (notesL p).map toTn := ⟨_, rfl⟩
  have hZl : Z.length = (notesL p).length := by rw [hZ, List.length_map]
  have hZg : ∀ j (h : j < (notesL p).length) (h2 : j < Z.length), Z[j] = toTn (notesL p)[j] := fun j h h2 => by simp only [hZ, List.getElem_map]
  rw [← hZ]
  clear hZ
  generalize notesL p = N at hN hl hZl hZg
  have hsl := sortT_len Z
  refine pret_of (okx [] [82]) mixed (A := A47) 4 Try.func47 rfl ?_
  (repeat' (first | exact rfl | ((conv => whnf); first | refine ⟨_, hN, ?_⟩ | exact rfl | exact ⟨rfl, rfl⟩ | refine ⟨(by kernel_rfl : drawOk _ _ _ _ = true), ?_⟩ | refine ⟨(by kernel_rfl : planOk _ _ _ _ = true), ?_⟩ | refine ⟨rfl, ?_⟩ | refine ⟨by (first | omega | (simp (disch := omega) only [wrapI]; omega) | (simp (disch := omega) only [wrapI]; simp; omega) | (simp; omega)), ?_⟩ | (intro ep) | (refine ifB (fun hb => ?_) (fun hb => ?_) <;> (try simp only [decide_eq_true_eq, decide_eq_false_iff_not, beq_iff_eq, beq_eq_false_iff_ne, bne_iff_ne, bne_eq_false_iff_eq, ne_eq, not_false_eq_true, not_true_eq_false, Bool.not_eq_true, Bool.not_eq_true', Bool.not_eq_false', Int.not_lt, Int.not_le] at hb) <;> (try simp (disch := omega) only [wrapI] at hb) <;> (try (exfalso; omega))) | fail)))
  all_goals (conv => whnf)
  refine wk_lift 6 3 3 rfl ?_
  intro e3
  refine loopY (okx [] [82]) mixed (A := A47) [6, 17, 18, 19] [3] (S := { z : Nat × Nat × List Tn // z.1 ≤ N.length ∧ z.2.2 = Z.take z.1 })
    (fr := fun s => frOf 0 37 [(6, .oslc (.s 3) s.1.2.1 3 0 s.1.2.2.length false), (17, ntsA N), (18, .int .i64 (N.length : Int)), (19, .int .i64 (s.1.1 : Int))])
    (h := fun s => ⟨[.hole, .hole, .hole, .vec s.1.2.1 (s.1.2.2.map tnR)], []⟩) (μ := fun s => N.length - s.1.1)
    ⟨(0, e3, []), by simp, by simp⟩ ?_ ?_
    [6] [3] (S' := Nat) (X := fun _ => 0)
    (frX := fun s => frOf 0 37 [(6, .oslc (.s 3) s 3 0 Z.length false)])
    (hX := fun s => ⟨[.hole, .hole, .hole, .vec s (Z.map tnR)], []⟩)
    [] [] (S2 := Empty) (frR := fun s => frOf 0 37 []) (hR := fun s => ⟨[], []⟩) ?_ ?_ ?_
  · exact rfl
  · exact rfl
  · rintro ⟨⟨j, e3, L⟩, hj, hu⟩
    dsimp only at hj hu
    show aexR _ _ _ (frOf 0 37 [(6, .oslc (.s 3) e3 3 0 L.length false), (17, ntsA N), (18, .int .i64 (N.length : Int)), (19, .int .i64 (j : Int))]) ⟨[.hole, .hole, .hole, .vec e3 (L.map tnR)], []⟩ _
    by_cases g : j < N.length
    · have hm := mapR (f := ntR) g
      have hjz : j < Z.length := by omega
      have hg := hZg j g hjz
      have hnx : L ++ [Z[j]] = Z.take (j + 1) := by rw [List.take_add_one, List.getElem?_eq_getElem hjz, hu]; rfl
      have hLl : L.length ≤ 5600 := by rw [hu, List.length_take]; omega
      rw [hg] at hnx
      clear hZg hg
      generalize N[j] = x at hm hnx
      obtain ⟨xe, xc, xp, xf, xt⟩ := x
      unfold toTn at hnx
      dsimp only at hnx
      have t1 : List.take L.length (List.drop 0 (L.map tnR)) = L.map tnR := by rw [List.drop_zero, List.take_of_length_le (by simp)]
      (repeat' (first | exact rfl | ((conv => whnf); first | refine optS hm ?_ | exact rfl | exact ⟨rfl, rfl⟩ | refine ⟨(by kernel_rfl : drawOk _ _ _ _ = true), ?_⟩ | refine ⟨(by kernel_rfl : planOk _ _ _ _ = true), ?_⟩ | refine ⟨rfl, ?_⟩ | refine ⟨by (first | omega | (simp (disch := omega) only [wrapI]; omega) | (simp (disch := omega) only [wrapI]; simp; omega) | (simp; omega)), ?_⟩ | (intro ep) | (refine ifB (fun hb => ?_) (fun hb => ?_) <;> (try simp only [decide_eq_true_eq, decide_eq_false_iff_not, beq_iff_eq, beq_eq_false_iff_ne, bne_iff_ne, bne_eq_false_iff_eq, ne_eq, not_false_eq_true, not_true_eq_false, Bool.not_eq_true, Bool.not_eq_true', Bool.not_eq_false', Int.not_lt, Int.not_le] at hb) <;> (try simp (disch := omega) only [wrapI] at hb) <;> (try (exfalso; omega))) | fail)))
      all_goals (conv => whnf)
      refine back_of ⟨(j + 1, ep, L ++ [⟨xp, xf, xt⟩]), by dsimp only; omega, hnx⟩ ⟨?_, ?_, by dsimp only; omega⟩
      · show maskF 0 _ _ = frOf 0 37 [(6, .oslc (.s 3) ep 3 0 (L ++ [(⟨xp, xf, xt⟩ : Tn)]).length false), (17, ntsA N), (18, .int .i64 (N.length : Int)), (19, .int .i64 ((j + 1 : Nat) : Int))]
        rw [List.length_append, List.length_singleton]
        (first | exact rfl | (simp (disch := omega) only [wrapI]; exact rfl))
      · show maskH 0 _ _ = ⟨[.hole, .hole, .hole, .vec ep ((L ++ [(⟨xp, xf, xt⟩ : Tn)]).map tnR)], []⟩
        have em : (L ++ [(⟨xp, xf, xt⟩ : Tn)]).map tnR = List.take L.length (List.drop 0 (L.map tnR)) ++ [[.int .i64 xp, .int .i64 xf, .int .i64 xt]] := by rw [t1]; simp [tnR]
        rw [em]
        (first | exact rfl | (simp (disch := omega) only [wrapI]; exact rfl))
    · have hj2 : j = N.length := by omega
      subst hj2
      rw [← hZl, List.take_length] at hu
      subst hu
      (repeat' (first | exact rfl | ((conv => whnf); first | exact rfl | exact ⟨rfl, rfl⟩ | refine ⟨(by kernel_rfl : drawOk _ _ _ _ = true), ?_⟩ | refine ⟨(by kernel_rfl : planOk _ _ _ _ = true), ?_⟩ | refine ⟨rfl, ?_⟩ | refine ⟨by (first | omega | (simp (disch := omega) only [wrapI]; omega) | (simp (disch := omega) only [wrapI]; simp; omega) | (simp; omega)), ?_⟩ | (intro ep) | (refine ifB (fun hb => ?_) (fun hb => ?_) <;> (try simp only [decide_eq_true_eq, decide_eq_false_iff_not, beq_iff_eq, beq_eq_false_iff_ne, bne_iff_ne, bne_eq_false_iff_eq, ne_eq, not_false_eq_true, not_true_eq_false, Bool.not_eq_true, Bool.not_eq_true', Bool.not_eq_false', Int.not_lt, Int.not_le] at hb) <;> (try simp (disch := omega) only [wrapI] at hb) <;> (try (exfalso; omega))) | fail)))
      all_goals (conv => whnf)
      all_goals exact back_of e3 ⟨rfl, rfl, rfl⟩
  · rintro ⟨⟩
  · intro e3
    (repeat' (first | exact rfl | ((conv => whnf); first | exact rfl | exact ⟨rfl, rfl⟩ | refine ⟨(by kernel_rfl : drawOk _ _ _ _ = true), ?_⟩ | refine ⟨(by kernel_rfl : planOk _ _ _ _ = true), ?_⟩ | refine ⟨rfl, ?_⟩ | refine ⟨by (first | omega | (simp (disch := omega) only [wrapI]; omega) | (simp (disch := omega) only [wrapI]; simp; omega) | (simp; omega)), ?_⟩ | (intro ep) | (refine ifB (fun hb => ?_) (fun hb => ?_) <;> (try simp only [decide_eq_true_eq, decide_eq_false_iff_not, beq_iff_eq, beq_eq_false_iff_ne, bne_iff_ne, bne_eq_false_iff_eq, ne_eq, not_false_eq_true, not_true_eq_false, Bool.not_eq_true, Bool.not_eq_true', Bool.not_eq_false', Int.not_lt, Int.not_le] at hb) <;> (try simp (disch := omega) only [wrapI] at hb) <;> (try (exfalso; omega))) | fail)))
    all_goals (conv => whnf)
    refine (sortF82 (zs := Z) (id := .s 3) (ep := e3) rfl (by omega)).mono ?_
    rintro r h' ⟨rfl, rfl⟩
    (repeat' (first | exact rfl | ((conv => whnf); first | exact rfl | exact ⟨rfl, rfl⟩ | refine ⟨(by kernel_rfl : drawOk _ _ _ _ = true), ?_⟩ | refine ⟨(by kernel_rfl : planOk _ _ _ _ = true), ?_⟩ | refine ⟨rfl, ?_⟩ | refine ⟨by (first | omega | (simp (disch := omega) only [wrapI]; omega) | (simp (disch := omega) only [wrapI]; simp; omega) | (simp; omega)), ?_⟩ | (intro ep) | (refine ifB (fun hb => ?_) (fun hb => ?_) <;> (try simp only [decide_eq_true_eq, decide_eq_false_iff_not, beq_iff_eq, beq_eq_false_iff_ne, bne_iff_ne, bne_eq_false_iff_eq, ne_eq, not_false_eq_true, not_true_eq_false, Bool.not_eq_true, Bool.not_eq_true', Bool.not_eq_false', Int.not_lt, Int.not_le] at hb) <;> (try simp (disch := omega) only [wrapI] at hb) <;> (try (exfalso; omega))) | fail)))
    all_goals (conv => whnf)
    refine ⟨Go.Ab.V.pure_map (f := tnR) (sortT Z) fun x => rfl, rfl, ?_⟩
    show AV.tup [.lslc 3 ((sortT Z).map tnR) 0 Z.length false, .int .i64 0] = _
    unfold tnsA
    rw [hsl]
def A86 : Ann := fun r => match r with
  | 0 => { slots := [(0, 0), (1, 1)] }
  | _ => {}
set_option maxHeartbeats 2000000 in
theorem before86 (x y : Tn) : PRet C.P 86 [.agg (tnR x), .agg (tnR y)] (.bool (bef x y)) := by
  obtain ⟨xp, xf, xt⟩ := x
  obtain ⟨yp, yf, yt⟩ := y
  by_cases c1 : xf = yf
  · by_cases c2 : xp = yp
    · refine pret_of ok mixed (A := A86) 2 Try.func86 rfl ?_
      (repeat' (first | exact rfl | ((conv => whnf); first | exact rfl | exact ⟨rfl, rfl⟩ | refine ⟨(by kernel_rfl : drawOk _ _ _ _ = true), ?_⟩ | refine ⟨(by kernel_rfl : planOk _ _ _ _ = true), ?_⟩ | refine ⟨rfl, ?_⟩ | refine ⟨by (first | omega | (simp (disch := omega) only [wrapI]; omega) | (simp (disch := omega) only [wrapI]; simp; omega) | (simp; omega)), ?_⟩ | (intro ep) | (refine ifB (fun hb => ?_) (fun hb => ?_) <;> (try simp only [decide_eq_true_eq, decide_eq_false_iff_not, beq_iff_eq, beq_eq_false_iff_ne, bne_iff_ne, bne_eq_false_iff_eq, ne_eq, not_false_eq_true, not_true_eq_false, Bool.not_eq_true, Bool.not_eq_true', Bool.not_eq_false', Int.not_lt, Int.not_le] at hb) <;> (try simp (disch := omega) only [wrapI] at hb) <;> (try (exfalso; omega))) | fail)))
      all_goals (conv => whnf)
      all_goals (unfold bef; simp [c1, c2])
    · refine pret_of ok mixed (A := A86) 2 Try.func86 rfl ?_
      (repeat' (first | exact rfl | ((conv => whnf); first | exact rfl | exact ⟨rfl, rfl⟩ | refine ⟨(by kernel_rfl : drawOk _ _ _ _ = true), ?_⟩ | refine ⟨(by kernel_rfl : planOk _ _ _ _ = true), ?_⟩ | refine ⟨rfl, ?_⟩ | refine ⟨by (first | omega | (simp (disch := omega) only [wrapI]; omega) | (simp (disch := omega) only [wrapI]; simp; omega) | (simp; omega)), ?_⟩ | (intro ep) | (refine ifB (fun hb => ?_) (fun hb => ?_) <;> (try simp only [decide_eq_true_eq, decide_eq_false_iff_not, beq_iff_eq, beq_eq_false_iff_ne, bne_iff_ne, bne_eq_false_iff_eq, ne_eq, not_false_eq_true, not_true_eq_false, Bool.not_eq_true, Bool.not_eq_true', Bool.not_eq_false', Int.not_lt, Int.not_le] at hb) <;> (try simp (disch := omega) only [wrapI] at hb) <;> (try (exfalso; omega))) | fail)))
      all_goals (conv => whnf)
      all_goals (unfold bef; simp [c1, c2])
  · refine pret_of ok mixed (A := A86) 2 Try.func86 rfl ?_
    (repeat' (first | exact rfl | ((conv => whnf); first | exact rfl | exact ⟨rfl, rfl⟩ | refine ⟨(by kernel_rfl : drawOk _ _ _ _ = true), ?_⟩ | refine ⟨(by kernel_rfl : planOk _ _ _ _ = true), ?_⟩ | refine ⟨rfl, ?_⟩ | refine ⟨by (first | omega | (simp (disch := omega) only [wrapI]; omega) | (simp (disch := omega) only [wrapI]; simp; omega) | (simp; omega)), ?_⟩ | (intro ep) | (refine ifB (fun hb => ?_) (fun hb => ?_) <;> (try simp only [decide_eq_true_eq, decide_eq_false_iff_not, beq_iff_eq, beq_eq_false_iff_ne, bne_iff_ne, bne_eq_false_iff_eq, ne_eq, not_false_eq_true, not_true_eq_false, Bool.not_eq_true, Bool.not_eq_true', Bool.not_eq_false', Int.not_lt, Int.not_le] at hb) <;> (try simp (disch := omega) only [wrapI] at hb) <;> (try (exfalso; omega))) | fail)))
    all_goals (conv => whnf)
    all_goals (unfold bef; simp [c1])
theorem swap_rows {c : List Tn} {j : Nat} (h : j + 1 < c.length) {a b : Tn} (ha : c[j] = a) (hb : c[j + 1] = b) : ((c.map tnR).set (j + 1) (tnR a)).set j (tnR b) = (((c.set (j + 1) (c.getD j tz)).set j (c.getD (j + 1) tz)).map tnR) := by
  have h1 : c.getD j tz = a := by rw [List.getD_eq_getElem?_getD, List.getElem?_eq_getElem (by omega)]; exact ha
  have h2 : c.getD (j + 1) tz = b := by rw [List.getD_eq_getElem?_getD, List.getElem?_eq_getElem h]; exact hb
  rw [h1, h2, List.map_set, List.map_set]
theorem bub_succ {c : List Tn} {j : Nat} (h : j + 1 < c.length) : bub (j + 1) c = if bef c[j + 1] c[j] = true then bub j ((c.set (j + 1) (c.getD j tz)).set j (c.getD (j + 1) tz)) else c := by
  rw [bub]
  have h1 : c.getD j tz = c[j] := by rw [List.getD_eq_getElem?_getD, List.getElem?_eq_getElem (by omega)]; rfl
  have h2 : c.getD (j + 1) tz = c[j + 1] := by rw [List.getD_eq_getElem?_getD, List.getElem?_eq_getElem h]; rfl
  rw [h1, h2]
def A48 : Ann := fun r => match r with
  | 0 => { slots := [(0, 0)] }
  | 8 => { slots := [(17, 1), (18, 2)] }
  | _ => {}
set_option maxHeartbeats 16000000 in
set_option maxRecDepth 100000 in
theorem refTones48 (p : Pc) (hp : p.Ok) (hs : p.Sm) : PRet C.P 48 [pcA p] (tonesV p) := by
  have hN := refNotes19 p hp hs
  unfold notesV at hN
  unfold tonesV
  by_cases hc : ¬ chk p = 0
  · rw [if_neg hc] at hN ⊢
    generalize chk p = e at hN hc
    refine pret_of ok mixed (A := A48) 3 Try.func48 rfl ?_
    (repeat' (first | exact rfl | ((conv => whnf); first | refine ⟨_, hN, ?_⟩ | exact rfl | exact ⟨rfl, rfl⟩ | refine ⟨(by kernel_rfl : drawOk _ _ _ _ = true), ?_⟩ | refine ⟨(by kernel_rfl : planOk _ _ _ _ = true), ?_⟩ | refine ⟨rfl, ?_⟩ | refine ⟨by (first | omega | (simp (disch := omega) only [wrapI]; omega) | (simp (disch := omega) only [wrapI]; simp; omega) | (simp; omega)), ?_⟩ | (intro ep) | (refine ifB (fun hb => ?_) (fun hb => ?_) <;> (try simp only [decide_eq_true_eq, decide_eq_false_iff_not, beq_iff_eq, beq_eq_false_iff_ne, bne_iff_ne, bne_eq_false_iff_eq, ne_eq, not_false_eq_true, not_true_eq_false, Bool.not_eq_true, Bool.not_eq_true', Bool.not_eq_false', Int.not_lt, Int.not_le] at hb) <;> (try simp (disch := omega) only [wrapI] at hb) <;> (try (exfalso; omega))) | fail)))
  have hc := Decidable.not_not.1 hc
  rw [if_pos hc] at hN ⊢
  have hl := notes_len (vp hc)
  unfold tonesL
  obtain ⟨R, hR⟩ : ∃ R, R = sortT ((notesL p).map toTn) := ⟨_, rfl⟩
  rw [← hR]
  rw [← insL_sort] at hR
  generalize notesL p = N at hN hl hR
  refine pret_of ok mixed (A := A48) 3 Try.func48 rfl ?_
  (repeat' (first | exact rfl | ((conv => whnf); first | refine ⟨_, hN, ?_⟩ | exact rfl | exact ⟨rfl, rfl⟩ | refine ⟨(by kernel_rfl : drawOk _ _ _ _ = true), ?_⟩ | refine ⟨(by kernel_rfl : planOk _ _ _ _ = true), ?_⟩ | refine ⟨rfl, ?_⟩ | refine ⟨by (first | omega | (simp (disch := omega) only [wrapI]; omega) | (simp (disch := omega) only [wrapI]; simp; omega) | (simp; omega)), ?_⟩ | (intro ep) | (refine ifB (fun hb => ?_) (fun hb => ?_) <;> (try simp only [decide_eq_true_eq, decide_eq_false_iff_not, beq_iff_eq, beq_eq_false_iff_ne, bne_iff_ne, bne_eq_false_iff_eq, ne_eq, not_false_eq_true, not_true_eq_false, Bool.not_eq_true, Bool.not_eq_true', Bool.not_eq_false', Int.not_lt, Int.not_le] at hb) <;> (try simp (disch := omega) only [wrapI] at hb) <;> (try (exfalso; omega))) | fail)))
  all_goals (conv => whnf)
  refine wk_lift 6 2 3 rfl ?_
  intro e2
  refine loopY ok mixed (A := A48) [4, 6, 7] [2] (S := { z : Nat × Nat × List Tn // z.1 ≤ N.length ∧ z.2.2.length = z.1 ∧ insL z.2.2 ((N.drop z.1).map toTn) = R })
    (fr := fun s => frOf 0 78 [(4, ntsA N), (6, .oslc (.s 2) s.1.2.1 3 0 s.1.2.2.length false), (7, .int .i64 (s.1.1 : Int))])
    (h := fun s => ⟨[.hole, .hole, .vec s.1.2.1 (s.1.2.2.map tnR)], []⟩) (μ := fun s => N.length - s.1.1)
    ⟨(0, e2, []), by simp, by simp, hR.symm⟩ ?_ ?_
    [6] [2] (S' := Nat) (X := fun _ => 0)
    (frX := fun s => frOf 0 78 [(6, .oslc (.s 2) s 3 0 R.length false)])
    (hX := fun s => ⟨[.hole, .hole, .vec s (R.map tnR)], []⟩)
    [] [] (S2 := Empty) (frR := fun s => frOf 0 78 []) (hR := fun s => ⟨[], []⟩) ?_ ?_ ?_
  · exact rfl
  · exact rfl
  · rintro ⟨⟨k, e', b⟩, hk, hbl, hv⟩
    dsimp only at hk hbl hv
    show aexR _ _ _ (frOf 0 78 [(4, ntsA N), (6, .oslc (.s 2) e' 3 0 b.length false), (7, .int .i64 (k : Int))]) ⟨[.hole, .hole, .vec e' (b.map tnR)], []⟩ _
    by_cases g2 : k < N.length
    · have hm1 := mapR (f := ntR) g2
      rw [List.drop_eq_getElem_cons g2, List.map_cons] at hv
      generalize N[k] = x at hm1 hv
      obtain ⟨xe, xc, xp, xf, xt⟩ := x
      unfold toTn at hv
      dsimp only at hv
      obtain ⟨x, hx⟩ : ∃ x, x = (⟨xp, xf, xt⟩ : Tn) := ⟨_, rfl⟩
      rw [← hx] at hv
      replace hv : insL (ins b x) ((N.drop (k + 1)).map toTn) = R := hv
      have hil := ins_len b x
      obtain ⟨Q, hQ⟩ : ∃ Q, Q = ins b x := ⟨_, rfl⟩
      rw [← hQ] at hv hil
      unfold ins at hQ
      have hw1 : IntKind.i64.wrap ((b.length : Int) + 1 - 1) = (b.length : Int) := by rw [wrapI (by omega) (by omega)]; omega
      (repeat' (first | exact rfl | ((conv => whnf); first | refine optS hm1 ?_ | exact rfl | exact ⟨rfl, rfl⟩ | refine ⟨(by kernel_rfl : drawOk _ _ _ _ = true), ?_⟩ | refine ⟨(by kernel_rfl : planOk _ _ _ _ = true), ?_⟩ | refine ⟨rfl, ?_⟩ | refine ⟨by (first | omega | (simp (disch := omega) only [wrapI]; omega) | (simp (disch := omega) only [wrapI]; simp; omega) | (simp; omega)), ?_⟩ | (intro ep) | (refine ifB (fun hb => ?_) (fun hb => ?_) <;> (try simp only [decide_eq_true_eq, decide_eq_false_iff_not, beq_iff_eq, beq_eq_false_iff_ne, bne_iff_ne, bne_eq_false_iff_eq, ne_eq, not_false_eq_true, not_true_eq_false, Bool.not_eq_true, Bool.not_eq_true', Bool.not_eq_false', Int.not_lt, Int.not_le] at hb) <;> (try simp (disch := omega) only [wrapI] at hb) <;> (try (exfalso; omega))) | fail)))
      all_goals (conv => whnf)
      refine loopY ok mixed (A := A48) [4, 6, 7, 8] [2] (S := { z : Nat × List Tn // z.1 ≤ b.length ∧ z.2.length = b.length + 1 ∧ bub z.1 z.2 = Q })
        (fr := fun s => frOf 0 78 [(4, ntsA N), (6, .oslc (.s 2) ep 3 0 (b.length + 1) false), (7, .int .i64 (k : Int)), (8, .int .i64 (s.1.1 : Int))])
        (h := fun s => ⟨[.hole, .hole, .vec ep (s.1.2.map tnR)], []⟩) (μ := fun s => s.1.1) ⟨(b.length, b ++ [x]), by simp, by simp, hQ.symm⟩ ?_ ?_
        [4, 6, 7] [2] (S' := Unit) (X := fun _ => 2) (frX := fun s => frOf 0 78 [(4, ntsA N), (6, .oslc (.s 2) ep 3 0 (b.length + 1) false), (7, .int .i64 (k : Int))]) (hX := fun s => ⟨[.hole, .hole, .vec ep (Q.map tnR)], []⟩)
        [] [] (S2 := Empty) (frR := fun s => frOf 0 78 []) (hR := fun s => ⟨[], []⟩) ?_ ?_ ?_
      · show maskF 0 _ _ = frOf 0 78 [(4, ntsA N), (6, .oslc (.s 2) ep 3 0 (b.length + 1) false), (7, .int .i64 (k : Int)), (8, .int .i64 (b.length : Int))]
        have hw2 : IntKind.i64.wrap (((b.length + 1 : Nat) : Int) - 1) = (b.length : Int) := by rw [wrapI (by omega) (by omega)]; omega
        rw [← hw2]
        exact rfl
      · show _ = (⟨[.hole, .hole, .vec ep ((b ++ [x]).map tnR)], []⟩ : Heap)
        have t3 : List.take b.length (List.drop 0 (b.map tnR)) = b.map tnR := by rw [List.drop_zero, List.take_of_length_le (by simp)]
        rw [show (b ++ [x]).map tnR = List.take b.length (List.drop 0 (b.map tnR)) ++ [tnR x] by rw [t3]; simp, hx]
        exact rfl
      · rintro ⟨⟨j, c⟩, hj, hcl, hq⟩
        dsimp only at hj hcl hq
        show aexR _ _ _ (frOf 0 78 [(4, ntsA N), (6, .oslc (.s 2) ep 3 0 (b.length + 1) false), (7, .int .i64 (k : Int)), (8, .int .i64 (j : Int))]) ⟨[.hole, .hole, .vec ep (c.map tnR)], []⟩ _
        cases j with
        | zero =>
          replace hq : c = Q := hq
          subst hq
          (repeat' (first | exact rfl | ((conv => whnf); first | exact rfl | exact ⟨rfl, rfl⟩ | refine ⟨(by kernel_rfl : drawOk _ _ _ _ = true), ?_⟩ | refine ⟨(by kernel_rfl : planOk _ _ _ _ = true), ?_⟩ | refine ⟨rfl, ?_⟩ | refine ⟨by (first | omega | (simp (disch := omega) only [wrapI]; omega) | (simp (disch := omega) only [wrapI]; simp; omega) | (simp; omega)), ?_⟩ | (intro ep) | (refine ifB (fun hb => ?_) (fun hb => ?_) <;> (try simp only [decide_eq_true_eq, decide_eq_false_iff_not, beq_iff_eq, beq_eq_false_iff_ne, bne_iff_ne, bne_eq_false_iff_eq, ne_eq, not_false_eq_true, not_true_eq_false, Bool.not_eq_true, Bool.not_eq_true', Bool.not_eq_false', Int.not_lt, Int.not_le] at hb) <;> (try simp (disch := omega) only [wrapI] at hb) <;> (try (exfalso; omega))) | fail)))
          all_goals (conv => whnf)
          all_goals exact back_of () ⟨rfl, rfl, rfl⟩
        | succ j =>
          have hj1 : j + 1 < c.length := by omega
          have hm1 := mapR (f := tnR) hj1
          have hm2 := mapR (f := tnR) (show j < c.length by omega)
          have hbf := before86 c[j + 1] c[j]
          have hwj : IntKind.i64.wrap (((j + 1 : Nat) : Int) - 1) = (j : Int) := by rw [wrapI (by omega) (by omega)]; omega
          rw [← hwj] at hm2
          rw [bub_succ hj1] at hq
          have hsw := swap_rows hj1 (a := c[j]) (b := c[j + 1]) rfl rfl
          obtain ⟨y, hy⟩ : ∃ y, y = c[j + 1] := ⟨_, rfl⟩
          obtain ⟨z, hz⟩ : ∃ z, z = c[j] := ⟨_, rfl⟩
          rw [← hy] at hm1 hbf hq hsw
          rw [← hz] at hm2 hbf hq hsw
          obtain ⟨c', hc'⟩ : ∃ c', c' = (c.set (j + 1) (c.getD j tz)).set j (c.getD (j + 1) tz) := ⟨_, rfl⟩
          rw [← hc'] at hq hsw
          have hcl' : c'.length = c.length := by rw [hc']; simp
          cases hv2 : bef y z with
          | true =>
            rw [hv2] at hbf hq
            rw [if_pos rfl] at hq
            have hm3 : ((c.map tnR).set (0 + (((j + 1 : Nat) : Int)).toNat) [.int .i64 z.p, .int .i64 z.f, .int .i64 z.t])[0 + (IntKind.i64.wrap (((j + 1 : Nat) : Int) - 1)).toNat]? = some [.int .i64 z.p, .int .i64 z.f, .int .i64 z.t] := by
              rw [List.getElem?_set_ne (by rw [hwj]; omega)]; exact hm2
            (repeat' (first | exact rfl | ((conv => whnf); first | refine optS hm1 ?_ | refine optS hm2 ?_ | refine optS hm3 ?_ | refine ⟨_, hbf, ?_⟩ | refine PRet.calls hbf ?_ | exact rfl | exact ⟨rfl, rfl⟩ | refine ⟨(by kernel_rfl : drawOk _ _ _ _ = true), ?_⟩ | refine ⟨(by kernel_rfl : planOk _ _ _ _ = true), ?_⟩ | refine ⟨rfl, ?_⟩ | refine ⟨by (first | omega | (simp (disch := omega) only [wrapI]; omega) | (simp (disch := omega) only [wrapI]; simp; omega) | (simp; omega)), ?_⟩ | (intro ep) | (refine ifB (fun hb => ?_) (fun hb => ?_) <;> (try simp only [decide_eq_true_eq, decide_eq_false_iff_not, beq_iff_eq, beq_eq_false_iff_ne, bne_iff_ne, bne_eq_false_iff_eq, ne_eq, not_false_eq_true, not_true_eq_false, Bool.not_eq_true, Bool.not_eq_true', Bool.not_eq_false', Int.not_lt, Int.not_le] at hb) <;> (try simp (disch := omega) only [wrapI] at hb) <;> (try (exfalso; omega))) | fail)))
            all_goals (conv => whnf)
            have e8 : 0 + (IntKind.i64.wrap (((j + 1 : Nat) : Int) - 1)).toNat = j := by rw [hwj]; omega
            have e9 : 0 + (((j + 1 : Nat) : Int)).toNat = j + 1 := by omega
            refine back_of ⟨(j, c'), by dsimp only; omega, by dsimp only; omega, hq⟩ ⟨?_, ?_, by dsimp only; omega⟩
            · show maskF 0 _ _ = frOf 0 78 [(4, ntsA N), (6, .oslc (.s 2) ep 3 0 (b.length + 1) false), (7, .int .i64 (k : Int)), (8, .int .i64 (j : Int))]
              rw [← hwj]
              exact rfl
            · show (⟨[.hole, .hole, .vec ep (((c.map tnR).set (0 + (((j + 1 : Nat) : Int)).toNat) (tnR z)).set (0 + (IntKind.i64.wrap (((j + 1 : Nat) : Int) - 1)).toNat) (tnR y))], []⟩ : Heap) = ⟨[.hole, .hole, .vec ep (c'.map tnR)], []⟩
              rw [e8, e9, hsw]
          | false =>
            rw [hv2] at hbf hq
            rw [if_neg (by simp)] at hq
            subst hq
            (repeat' (first | exact rfl | ((conv => whnf); first | refine optS hm1 ?_ | refine optS hm2 ?_ | refine ⟨_, hbf, ?_⟩ | refine PRet.calls hbf ?_ | exact rfl | exact ⟨rfl, rfl⟩ | refine ⟨(by kernel_rfl : drawOk _ _ _ _ = true), ?_⟩ | refine ⟨(by kernel_rfl : planOk _ _ _ _ = true), ?_⟩ | refine ⟨rfl, ?_⟩ | refine ⟨by (first | omega | (simp (disch := omega) only [wrapI]; omega) | (simp (disch := omega) only [wrapI]; simp; omega) | (simp; omega)), ?_⟩ | (intro ep) | (refine ifB (fun hb => ?_) (fun hb => ?_) <;> (try simp only [decide_eq_true_eq, decide_eq_false_iff_not, beq_iff_eq, beq_eq_false_iff_ne, bne_iff_ne, bne_eq_false_iff_eq, ne_eq, not_false_eq_true, not_true_eq_false, Bool.not_eq_true, Bool.not_eq_true', Bool.not_eq_false', Int.not_lt, Int.not_le] at hb) <;> (try simp (disch := omega) only [wrapI] at hb) <;> (try (exfalso; omega))) | fail)))
            all_goals (conv => whnf)
            all_goals exact back_of () ⟨rfl, rfl, rfl⟩
      · rintro ⟨⟩
      · intro u
        (repeat' (first | exact rfl | ((conv => whnf); first | exact rfl | exact ⟨rfl, rfl⟩ | refine ⟨(by kernel_rfl : drawOk _ _ _ _ = true), ?_⟩ | refine ⟨(by kernel_rfl : planOk _ _ _ _ = true), ?_⟩ | refine ⟨rfl, ?_⟩ | refine ⟨by (first | omega | (simp (disch := omega) only [wrapI]; omega) | (simp (disch := omega) only [wrapI]; simp; omega) | (simp; omega)), ?_⟩ | (intro ep) | fail)))
        all_goals (conv => whnf)
        refine back_of ⟨(k + 1, ep, Q), by dsimp only; omega, by dsimp only; omega, hv⟩ ⟨?_, rfl, by dsimp only; omega⟩
        show maskF 0 _ _ = frOf 0 78 [(4, ntsA N), (6, .oslc (.s 2) ep 3 0 Q.length false), (7, .int .i64 ((k + 1 : Nat) : Int))]
        rw [hil]
        (first | exact rfl | (simp (disch := omega) only [wrapI]; exact rfl))
    · have hk2 : k = N.length := by omega
      rw [List.drop_eq_nil_of_le (by omega), List.map_nil] at hv
      replace hv : b = R := hv
      subst hv
      (repeat' (first | exact rfl | ((conv => whnf); first | exact rfl | exact ⟨rfl, rfl⟩ | refine ⟨(by kernel_rfl : drawOk _ _ _ _ = true), ?_⟩ | refine ⟨(by kernel_rfl : planOk _ _ _ _ = true), ?_⟩ | refine ⟨rfl, ?_⟩ | refine ⟨by (first | omega | (simp (disch := omega) only [wrapI]; omega) | (simp (disch := omega) only [wrapI]; simp; omega) | (simp; omega)), ?_⟩ | (intro ep) | (refine ifB (fun hb => ?_) (fun hb => ?_) <;> (try simp only [decide_eq_true_eq, decide_eq_false_iff_not, beq_iff_eq, beq_eq_false_iff_ne, bne_iff_ne, bne_eq_false_iff_eq, ne_eq, not_false_eq_true, not_true_eq_false, Bool.not_eq_true, Bool.not_eq_true', Bool.not_eq_false', Int.not_lt, Int.not_le] at hb) <;> (try simp (disch := omega) only [wrapI] at hb) <;> (try (exfalso; omega))) | fail)))
      all_goals (conv => whnf)
      all_goals exact back_of e' ⟨rfl, rfl, rfl⟩
  · rintro ⟨⟩
  · intro e2
    (repeat' (first | exact rfl | ((conv => whnf); first | exact rfl | exact ⟨rfl, rfl⟩ | refine ⟨(by kernel_rfl : drawOk _ _ _ _ = true), ?_⟩ | refine ⟨(by kernel_rfl : planOk _ _ _ _ = true), ?_⟩ | refine ⟨rfl, ?_⟩ | refine ⟨by (first | omega | (simp (disch := omega) only [wrapI]; omega) | (simp (disch := omega) only [wrapI]; simp; omega) | (simp; omega)), ?_⟩ | (intro ep) | (refine ifB (fun hb => ?_) (fun hb => ?_) <;> (try simp only [decide_eq_true_eq, decide_eq_false_iff_not, beq_iff_eq, beq_eq_false_iff_ne, bne_iff_ne, bne_eq_false_iff_eq, ne_eq, not_false_eq_true, not_true_eq_false, Bool.not_eq_true, Bool.not_eq_true', Bool.not_eq_false', Int.not_lt, Int.not_le] at hb) <;> (try simp (disch := omega) only [wrapI] at hb) <;> (try (exfalso; omega))) | fail)))
    all_goals (conv => whnf)
    exact ⟨Go.Ab.V.pure_map (f := tnR) R fun x => rfl, rfl, rfl⟩
def A49 : Ann := fun _ => {}
theorem sameTones_nil : PRet C.P 49 [.nils, .nils] (.bool true) := by
  refine pret_of ok mixed (A := A49) 0 Try.func49 rfl ?_
  (repeat' (first | exact rfl | ((conv => whnf); first | exact rfl | exact ⟨rfl, rfl⟩ | refine ⟨(by kernel_rfl : drawOk _ _ _ _ = true), ?_⟩ | refine ⟨(by kernel_rfl : planOk _ _ _ _ = true), ?_⟩ | refine ⟨rfl, ?_⟩ | refine ⟨by (first | omega | (simp (disch := omega) only [wrapI]; omega) | (simp (disch := omega) only [wrapI]; simp; omega) | (simp; omega)), ?_⟩ | (intro ep) | refine loopU ok mixed (A := A49) 2 ?_ | (refine ifB (fun hb => ?_) (fun hb => ?_) <;> (try simp only [decide_eq_true_eq, decide_eq_false_iff_not, beq_iff_eq, beq_eq_false_iff_ne, bne_iff_ne, bne_eq_false_iff_eq, ne_eq, not_false_eq_true, not_true_eq_false, Bool.not_eq_true, Bool.not_eq_true', Bool.not_eq_false', Int.not_lt, Int.not_le] at hb) <;> (try simp (disch := omega) only [wrapI] at hb) <;> (try (exfalso; omega))) | fail)))
set_option maxHeartbeats 1000000 in
set_option maxRecDepth 100000 in
theorem sameTones_self (l : List Tn) (hn : l.length ≤ 100000) : PRet C.P 49 [tnsA l, tnsA l] (.bool true) := by
  refine pret_of ok mixed (A := A49) 0 Try.func49 rfl ?_
  (repeat' (first | exact rfl | ((conv => whnf); first | exact rfl | exact ⟨rfl, rfl⟩ | refine ⟨(by kernel_rfl : drawOk _ _ _ _ = true), ?_⟩ | refine ⟨(by kernel_rfl : planOk _ _ _ _ = true), ?_⟩ | refine ⟨rfl, ?_⟩ | refine ⟨by (first | omega | (simp (disch := omega) only [wrapI]; omega) | (simp (disch := omega) only [wrapI]; simp; omega) | (simp; omega)), ?_⟩ | (intro ep) | (refine ifB (fun hb => ?_) (fun hb => ?_) <;> (try simp only [decide_eq_true_eq, decide_eq_false_iff_not, beq_iff_eq, beq_eq_false_iff_ne, bne_iff_ne, bne_eq_false_iff_eq, ne_eq, not_false_eq_true, not_true_eq_false, Bool.not_eq_true, Bool.not_eq_true', Bool.not_eq_false', Int.not_lt, Int.not_le] at hb) <;> (try simp (disch := omega) only [wrapI] at hb) <;> (try (exfalso; omega))) | fail)))
  (conv => whnf)
  refine loopM ok mixed (A := A49) [0, 1, 5] [] (S := { k : Nat // k ≤ l.length })
    (fr := fun s => frOf 0 26 [(0, tnsA l), (1, tnsA l), (5, .int .i64 (s.1 : Int))])
    (h := fun s => ⟨[], []⟩) (μ := fun s => l.length - s.1) ⟨0, by omega⟩ rfl rfl ?_
  rintro ⟨k, hk⟩
  show aexR _ _ _ (frOf 0 26 [(0, tnsA l), (1, tnsA l), (5, .int .i64 (k : Int))]) ⟨[], []⟩ _
  (conv => whnf)
  refine ifB (fun h1 => ?_) (fun h1 => ?_)
  · simp only [decide_eq_true_eq] at h1
    have hm := mapR (f := tnR) (show k < l.length by omega)
    generalize l[k] = x at hm
    obtain ⟨a, b, c⟩ := x
    (repeat' (first | exact rfl | ((conv => whnf); first | exact rfl | exact ⟨rfl, rfl⟩ | refine ⟨(by kernel_rfl : drawOk _ _ _ _ = true), ?_⟩ | refine ⟨(by kernel_rfl : planOk _ _ _ _ = true), ?_⟩ | refine ⟨rfl, ?_⟩ | refine ⟨by (first | omega | (simp (disch := omega) only [wrapI]; omega) | (simp (disch := omega) only [wrapI]; simp; omega) | (simp; omega)), ?_⟩ | (intro ep) | refine optS hm ?_ | (refine ifB (fun hb => ?_) (fun hb => ?_) <;> (try simp only [decide_eq_true_eq, decide_eq_false_iff_not, beq_iff_eq, beq_eq_false_iff_ne, bne_iff_ne, bne_eq_false_iff_eq, ne_eq, not_false_eq_true, not_true_eq_false, Bool.not_eq_true, Bool.not_eq_true', Bool.not_eq_false', Int.not_lt, Int.not_le] at hb) <;> (try simp (disch := omega) only [wrapI] at hb) <;> (try (exfalso; omega))) | fail)))
    · simp at hb
    (conv => whnf)
    refine back_of ⟨k + 1, by omega⟩ ⟨by (first | exact rfl | (simp (disch := omega) only [wrapI]; exact rfl)), rfl, by simp only; omega⟩
  · simp only [decide_eq_false_iff_not] at h1
    (repeat' (first | exact rfl | ((conv => whnf); first | exact rfl | exact ⟨rfl, rfl⟩ | refine ⟨(by kernel_rfl : drawOk _ _ _ _ = true), ?_⟩ | refine ⟨(by kernel_rfl : planOk _ _ _ _ = true), ?_⟩ | refine ⟨rfl, ?_⟩ | refine ⟨by (first | omega | (simp (disch := omega) only [wrapI]; omega) | (simp (disch := omega) only [wrapI]; simp; omega) | (simp; omega)), ?_⟩ | (intro ep) | (refine ifB (fun hb => ?_) (fun hb => ?_) <;> (try simp only [decide_eq_true_eq, decide_eq_false_iff_not, beq_iff_eq, beq_eq_false_iff_ne, bne_iff_ne, bne_eq_false_iff_eq, ne_eq, not_false_eq_true, not_true_eq_false, Bool.not_eq_true, Bool.not_eq_true', Bool.not_eq_false', Int.not_lt, Int.not_le] at hb) <;> (try simp (disch := omega) only [wrapI] at hb) <;> (try (exfalso; omega))) | fail)))
def A14 : Ann := fun r => match r with
  | 0 => { slots := [(0, 0)] }
  | _ => {}
set_option maxHeartbeats 4000000 in
set_option maxRecDepth 100000 in
theorem law_tones (p : Pc) (hp : p.Ok) : ACalls C.P 14 [pcA p] Heap.nil fun r _ => r = .bool true := by
  have hb0 := long_spec p hp
  cases hb : longB p with
  | true =>
    rw [hb] at hb0
    refine fn_of ok mixed (A := A14) 1 Try.func14 rfl ?_
    (repeat' (first | exact rfl | ((conv => whnf); first | refine ⟨_, works_spec, ?_⟩ | refine ⟨_, hb0, ?_⟩ | exact rfl | exact ⟨rfl, rfl⟩ | refine ⟨(by kernel_rfl : drawOk _ _ _ _ = true), ?_⟩ | refine ⟨(by kernel_rfl : planOk _ _ _ _ = true), ?_⟩ | refine ⟨rfl, ?_⟩ | refine ⟨by (first | omega | (simp (disch := omega) only [wrapI]; omega) | (simp (disch := omega) only [wrapI]; simp; omega) | (simp; omega)), ?_⟩ | (intro ep) | (refine ifB (fun hb => ?_) (fun hb => ?_) <;> (try simp only [decide_eq_true_eq, decide_eq_false_iff_not, beq_iff_eq, beq_eq_false_iff_ne, bne_iff_ne, bne_eq_false_iff_eq, ne_eq, not_false_eq_true, not_true_eq_false, Bool.not_eq_true, Bool.not_eq_true', Bool.not_eq_false', Int.not_lt, Int.not_le] at hb) <;> (try simp (disch := omega) only [wrapI] at hb) <;> (try (exfalso; omega))) | fail)))
  | false =>
    have hs := Pc.Sm.of_big (longB_no hb).1
    have hcp := copy_spec p hs
    rw [hb] at hb0
    have h1 := tones47 p hp
    have h2 := refTones48 p hp hs
    unfold tonesV at h1 h2
    by_cases hc : chk p = 0
    · rw [if_pos hc] at h1 h2
      have h3 := sameTones_self (sortT (tonesL p)) (by
        have := notes_len (vp hc)
        rw [sortT_len]; unfold tonesL; rw [List.length_map]; omega)
      generalize sortT (tonesL p) = L at h1 h2 h3
      refine fn_of ok mixed (A := A14) 1 Try.func14 rfl ?_
      (repeat' (first | exact rfl | ((conv => whnf); first | refine ⟨_, works_spec, ?_⟩ | refine ⟨_, hb0, ?_⟩ | refine ⟨_, hcp, ?_⟩ | refine ⟨_, h1, ?_⟩ | refine ⟨_, h2, ?_⟩ | refine ⟨_, h3, ?_⟩ | exact rfl | exact ⟨rfl, rfl⟩ | refine ⟨(by kernel_rfl : drawOk _ _ _ _ = true), ?_⟩ | refine ⟨(by kernel_rfl : planOk _ _ _ _ = true), ?_⟩ | refine ⟨rfl, ?_⟩ | refine ⟨by (first | omega | (simp (disch := omega) only [wrapI]; omega) | (simp (disch := omega) only [wrapI]; simp; omega) | (simp; omega)), ?_⟩ | (intro ep) | (refine ifB (fun hb => ?_) (fun hb => ?_) <;> (try simp only [decide_eq_true_eq, decide_eq_false_iff_not, beq_iff_eq, beq_eq_false_iff_ne, bne_iff_ne, bne_eq_false_iff_eq, ne_eq, not_false_eq_true, not_true_eq_false, Bool.not_eq_true, Bool.not_eq_true', Bool.not_eq_false', Int.not_lt, Int.not_le] at hb) <;> (try simp (disch := omega) only [wrapI] at hb) <;> (try (exfalso; omega))) | fail)))
    · rw [if_neg hc] at h1 h2
      have h3 := sameTones_nil
      generalize chk p = e at h1 h2
      refine fn_of ok mixed (A := A14) 1 Try.func14 rfl ?_
      (repeat' (first | exact rfl | ((conv => whnf); first | refine ⟨_, works_spec, ?_⟩ | refine ⟨_, hb0, ?_⟩ | refine ⟨_, hcp, ?_⟩ | refine ⟨_, h1, ?_⟩ | refine ⟨_, h2, ?_⟩ | refine ⟨_, h3, ?_⟩ | exact rfl | exact ⟨rfl, rfl⟩ | refine ⟨(by kernel_rfl : drawOk _ _ _ _ = true), ?_⟩ | refine ⟨(by kernel_rfl : planOk _ _ _ _ = true), ?_⟩ | refine ⟨rfl, ?_⟩ | refine ⟨by (first | omega | (simp (disch := omega) only [wrapI]; omega) | (simp (disch := omega) only [wrapI]; simp; omega) | (simp; omega)), ?_⟩ | (intro ep) | (refine ifB (fun hb => ?_) (fun hb => ?_) <;> (try simp only [decide_eq_true_eq, decide_eq_false_iff_not, beq_iff_eq, beq_eq_false_iff_ne, bne_iff_ne, bne_eq_false_iff_eq, ne_eq, not_false_eq_true, not_true_eq_false, Bool.not_eq_true, Bool.not_eq_true', Bool.not_eq_false', Int.not_lt, Int.not_le] at hb) <;> (try simp (disch := omega) only [wrapI] at hb) <;> (try (exfalso; omega))) | fail)))
end Go.Ab.V
