/-
  What is proved here serves the law's text: each part says its own claim and its conditions. No condition is left open.
-/
import Derived.Test.YtchkiolagohnlaaGreatJE
import Derived.Test.YtchkiolagohnlaaGreatJF
import Derived.Test.YtchkiolagohnlaaGreatJD
import Derived.Test.YtchkiolagohnlaaGreatKW
import Derived.Test.YtchkiolagohnlaaGreatKF
import Derived.Test.YtchkiolagohnlaaGreatKQ
set_option linter.unusedSimpArgs false
set_option linter.unusedVariables false

/-
  The library's sort of tones by the program's order, as a call in abstract terms. No condition but the lengths.
-/
namespace Go.Ab.V
open Go.Proofs Go.Sort

def encT (x : Tn) : List Value := [.int .i64 x.p, .int .i64 x.f, .int .i64 x.t]
theorem ltOf3 : (Go.Proofs.ltOf cmp3) = bef := by funext x y; exact cmp3_lt x y
theorem sortF82 {h : Heap} {id : Id} {ep : Nat} {zs : List Tn} (ho : h[id]? = some (.vec ep (zs.map tnR))) (hl : zs.length < 4611686018427387904) :
    ACalls C.P 20 [.oslc id ep 3 0 zs.length false, .fn (.func 21) [] []] h fun r h' => r = .tup [] ∧ h' = h.set id (.vec ep ((sortT zs).map tnR)) := by
  refine sortF_acalls (P := Tryz.prog) (f := 20) (g := 21) (R := tnR) (E := encT) (k := 3) (srt := sortT) sortT_len (fun _ => rfl) (fun σ x j c v hc hv => ?_) (fun σ x j c hc => ?_) (fun blk off cap zs w hH hb hz => ?_) (fun p cap w => ?_) ho hl
  · obtain ⟨a, b, d⟩ := x
    match j, hc with
    | 0, hc => cases hc; cases hv; rfl
    | 1, hc => cases hc; cases hv; rfl
    | 2, hc => cases hc; cases hv; rfl
    | j + 3, hc => simp [tnR] at hc
  · obtain ⟨a, b, d⟩ := x
    match j, hc with
    | 0, hc => cases hc; exact ⟨_, rfl, rfl, .int⟩
    | 1, hc => cases hc; exact ⟨_, rfl, rfl, .int⟩
    | 2, hc => cases hc; exact ⟨_, rfl, rfl, .int⟩
    | j + 3, hc => simp [tnR] at hc
  · have eg : ∀ args w, (callFunc 21 args).run Tryz.prog w = .ok (.enter 21 args) w := enters_of Tryz.func21 (by kernel_rfl) rfl
    have hcon := AnyQ.slices_SortFunc_total Tryz.laysSortF 3 Tryz.isAgg62 Tryz.sizeOf62 encT (fun _ => rfl) (fun x v hv => by simp [encT] at hv; rcases hv with rfl | rfl | rfl <;> rfl) cmp3 (by rw [ltOf3]; exact bef_swo) 21 #[] blk off cap zs.toArray w eg
      (fun m os dk _ x y => order83 x y _) hH hb (by simpa using hz) (fun x y h1 h2 => by rw [ltOf3] at h1 h2; exact bef_tot h1 h2)
    rw [ltOf3] at hcon
    change Calls Tryz.prog 20 _ _ _ at hcon
    refine (show Calls Tryz.prog 20 #[.slice (some ⟨blk, off, none⟩) zs.length cap, .func (.func 21) #[] #[]] w _ from hcon).mono ?_
    rintro e w' ⟨rfl, n, os, rfl⟩
    exact ⟨rfl, n, os, rfl⟩
  · have hcon := AnyF.slices_SortFunc_none Tryz.laysSortF p cap (.func (.func 21) #[] #[]) w
    exact hcon
end Go.Ab.V

/-
  Tones: the program's and the document's, and the law. The pieces are of the sizes that a statement looks at.
-/
namespace Go.Ab.V
open Go.Proofs

def toTn (x : Nt) : Tn := ⟨x.p, x.f, x.t⟩
def tonesL (p : Pc) : List Tn := (notesL p).map toTn
def tonesV (p : Pc) : AV := if chk p = 0 then .tup [tnsA (sortT (tonesL p)), .int .i64 0] else .tup [.nils, .int .i64 (chk p)]
def A7 : Ann := fun r => match r with
  | 0 => { slots := [(0, 0)] }
  | 7 => { slots := [(2, 1)] }
  | 8 => { slots := [(8, 2), (9, 3)] }
  | _ => {}
set_option maxHeartbeats 8000000 in
set_option maxRecDepth 100000 in
theorem tones47 (p : Pc) (hp : p.Ok) : PRet C.P 7 [pcA p] (tonesV p) := by
  have hN := notes17 p hp
  unfold notesV at hN
  unfold tonesV
  by_cases hc : ¬ chk p = 0
  · rw [if_neg hc] at hN ⊢
    generalize chk p = e at hN hc
    refine pret_of (okx [] [20]) mixed (A := A7) 4 Tryz.func7 rfl ?_
    (repeat' (first | exact rfl | ((conv => whnf); first | refine ⟨_, hN, ?_⟩ | exact rfl | exact ⟨rfl, rfl⟩ | refine ⟨(by kernel_rfl : drawOk _ _ _ _ = true), ?_⟩ | refine ⟨(by kernel_rfl : planOk _ _ _ _ = true), ?_⟩ | refine ⟨rfl, ?_⟩ | refine ⟨by (first | omega | (simp (disch := omega) only [wrapI]; omega) | (simp (disch := omega) only [wrapI]; simp; omega) | (simp; omega)), ?_⟩ | (intro ep) | (refine ifB (fun hb => ?_) (fun hb => ?_) <;> (try simp only [decide_eq_true_eq, decide_eq_false_iff_not, beq_iff_eq, beq_eq_false_iff_ne, bne_iff_ne, bne_eq_false_iff_eq, ne_eq, not_false_eq_true, not_true_eq_false, Bool.not_eq_true, Bool.not_eq_true', Bool.not_eq_false', Int.not_lt, Int.not_le] at hb) <;> (try simp (disch := omega) only [wrapI] at hb) <;> (try (exfalso; omega))) | fail)))
  have hc := Decidable.not_not.1 hc
  rw [if_pos hc] at hN ⊢
  have hl := notes_len (vp hc)
  unfold tonesL
  obtain ⟨Z, hZ⟩ : ∃ Z, Z = (notesL p).map toTn := ⟨_, rfl⟩
  have hZl : Z.length = (notesL p).length := by rw [hZ, List.length_map]
  have hZg : ∀ j (h : j < (notesL p).length) (h2 : j < Z.length), Z[j] = toTn (notesL p)[j] := fun j h h2 => by simp only [hZ, List.getElem_map]
  rw [← hZ]
  clear hZ
  generalize notesL p = N at hN hl hZl hZg
  have hsl := sortT_len Z
  refine pret_of (okx [] [20]) mixed (A := A7) 4 Tryz.func7 rfl ?_
  (repeat' (first | exact rfl | ((conv => whnf); first | refine ⟨_, hN, ?_⟩ | exact rfl | exact ⟨rfl, rfl⟩ | refine ⟨(by kernel_rfl : drawOk _ _ _ _ = true), ?_⟩ | refine ⟨(by kernel_rfl : planOk _ _ _ _ = true), ?_⟩ | refine ⟨rfl, ?_⟩ | refine ⟨by (first | omega | (simp (disch := omega) only [wrapI]; omega) | (simp (disch := omega) only [wrapI]; simp; omega) | (simp; omega)), ?_⟩ | (intro ep) | (refine ifB (fun hb => ?_) (fun hb => ?_) <;> (try simp only [decide_eq_true_eq, decide_eq_false_iff_not, beq_iff_eq, beq_eq_false_iff_ne, bne_iff_ne, bne_eq_false_iff_eq, ne_eq, not_false_eq_true, not_true_eq_false, Bool.not_eq_true, Bool.not_eq_true', Bool.not_eq_false', Int.not_lt, Int.not_le] at hb) <;> (try simp (disch := omega) only [wrapI] at hb) <;> (try (exfalso; omega))) | fail)))
  all_goals (conv => whnf)
  refine wk_lift 6 3 3 rfl ?_
  intro e3
  refine loopY (okx [] [20]) mixed (A := A7) [6, 17, 18, 19] [3] (S := { z : Nat × Nat × List Tn // z.1 ≤ N.length ∧ z.2.2 = Z.take z.1 })
    (fr := fun s => frOf 0 37 [(6, .oslc (.s 3) s.1.2.1 3 0 s.1.2.2.length false), (17, ntsA N), (18, .int .i64 (N.length : Int)), (19, .int .i64 (s.1.1 : Int))])
    (h := fun s => ⟨[.hole, .hole, .hole, .vec s.1.2.1 (s.1.2.2.map tnR)], []⟩) (μ := fun s => N.length - s.1.1)
    ⟨(0, e3, []), by simp, by simp⟩ ?_ ?_
    [6] [3] (S' := Nat) (X := fun _ => 0)
    (frX := fun s => frOf 0 37 [(6, .oslc (.s 3) s 3 0 Z.length false)])
    (hX := fun s => ⟨[.hole, .hole, .hole, .vec s (Z.map tnR)], []⟩)
    [] [] (S2 := Empty) (frR := fun s => frOf 0 37 []) (hR := fun s => ⟨[], []⟩) ?_ ?_ ?_
  · exact rfl
  · exact rfl
  · rintro ⟨⟨j, e3, L⟩, hj, hu⟩
    dsimp only at hj hu
    show aexR _ _ _ (frOf 0 37 [(6, .oslc (.s 3) e3 3 0 L.length false), (17, ntsA N), (18, .int .i64 (N.length : Int)), (19, .int .i64 (j : Int))]) ⟨[.hole, .hole, .hole, .vec e3 (L.map tnR)], []⟩ _
    by_cases g : j < N.length
    · have hm := mapR (f := ntR) g
      have hjz : j < Z.length := by omega
      have hg := hZg j g hjz
      have hnx : L ++ [Z[j]] = Z.take (j + 1) := by rw [List.take_add_one, List.getElem?_eq_getElem hjz, hu]; rfl
      have hLl : L.length ≤ 5600 := by rw [hu, List.length_take]; omega
      rw [hg] at hnx
      clear hZg hg
      generalize N[j] = x at hm hnx
      obtain ⟨xe, xc, xp, xf, xt⟩ := x
      unfold toTn at hnx
      dsimp only at hnx
      have t1 : List.take L.length (List.drop 0 (L.map tnR)) = L.map tnR := by rw [List.drop_zero, List.take_of_length_le (by simp)]
      (repeat' (first | exact rfl | ((conv => whnf); first | refine optS hm ?_ | exact rfl | exact ⟨rfl, rfl⟩ | refine ⟨(by kernel_rfl : drawOk _ _ _ _ = true), ?_⟩ | refine ⟨(by kernel_rfl : planOk _ _ _ _ = true), ?_⟩ | refine ⟨rfl, ?_⟩ | refine ⟨by (first | omega | (simp (disch := omega) only [wrapI]; omega) | (simp (disch := omega) only [wrapI]; simp; omega) | (simp; omega)), ?_⟩ | (intro ep) | (refine ifB (fun hb => ?_) (fun hb => ?_) <;> (try simp only [decide_eq_true_eq, decide_eq_false_iff_not, beq_iff_eq, beq_eq_false_iff_ne, bne_iff_ne, bne_eq_false_iff_eq, ne_eq, not_false_eq_true, not_true_eq_false, Bool.not_eq_true, Bool.not_eq_true', Bool.not_eq_false', Int.not_lt, Int.not_le] at hb) <;> (try simp (disch := omega) only [wrapI] at hb) <;> (try (exfalso; omega))) | fail)))
      all_goals (conv => whnf)
      refine back_of ⟨(j + 1, ep, L ++ [⟨xp, xf, xt⟩]), by dsimp only; omega, hnx⟩ ⟨?_, ?_, by dsimp only; omega⟩
      · show maskF 0 _ _ = frOf 0 37 [(6, .oslc (.s 3) ep 3 0 (L ++ [(⟨xp, xf, xt⟩ : Tn)]).length false), (17, ntsA N), (18, .int .i64 (N.length : Int)), (19, .int .i64 ((j + 1 : Nat) : Int))]
        rw [List.length_append, List.length_singleton]
        (first | exact rfl | (simp (disch := omega) only [wrapI]; exact rfl))
      · show maskH 0 _ _ = ⟨[.hole, .hole, .hole, .vec ep ((L ++ [(⟨xp, xf, xt⟩ : Tn)]).map tnR)], []⟩
        have em : (L ++ [(⟨xp, xf, xt⟩ : Tn)]).map tnR = List.take L.length (List.drop 0 (L.map tnR)) ++ [[.int .i64 xp, .int .i64 xf, .int .i64 xt]] := by rw [t1]; simp [tnR]
        rw [em]
        (first | exact rfl | (simp (disch := omega) only [wrapI]; exact rfl))
    · have hj2 : j = N.length := by omega
      subst hj2
      rw [← hZl, List.take_length] at hu
      subst hu
      (repeat' (first | exact rfl | ((conv => whnf); first | exact rfl | exact ⟨rfl, rfl⟩ | refine ⟨(by kernel_rfl : drawOk _ _ _ _ = true), ?_⟩ | refine ⟨(by kernel_rfl : planOk _ _ _ _ = true), ?_⟩ | refine ⟨rfl, ?_⟩ | refine ⟨by (first | omega | (simp (disch := omega) only [wrapI]; omega) | (simp (disch := omega) only [wrapI]; simp; omega) | (simp; omega)), ?_⟩ | (intro ep) | (refine ifB (fun hb => ?_) (fun hb => ?_) <;> (try simp only [decide_eq_true_eq, decide_eq_false_iff_not, beq_iff_eq, beq_eq_false_iff_ne, bne_iff_ne, bne_eq_false_iff_eq, ne_eq, not_false_eq_true, not_true_eq_false, Bool.not_eq_true, Bool.not_eq_true', Bool.not_eq_false', Int.not_lt, Int.not_le] at hb) <;> (try simp (disch := omega) only [wrapI] at hb) <;> (try (exfalso; omega))) | fail)))
      all_goals (conv => whnf)
      all_goals exact back_of e3 ⟨rfl, rfl, rfl⟩
  · rintro ⟨⟩
  · intro e3
    (repeat' (first | exact rfl | ((conv => whnf); first | exact rfl | exact ⟨rfl, rfl⟩ | refine ⟨(by kernel_rfl : drawOk _ _ _ _ = true), ?_⟩ | refine ⟨(by kernel_rfl : planOk _ _ _ _ = true), ?_⟩ | refine ⟨rfl, ?_⟩ | refine ⟨by (first | omega | (simp (disch := omega) only [wrapI]; omega) | (simp (disch := omega) only [wrapI]; simp; omega) | (simp; omega)), ?_⟩ | (intro ep) | (refine ifB (fun hb => ?_) (fun hb => ?_) <;> (try simp only [decide_eq_true_eq, decide_eq_false_iff_not, beq_iff_eq, beq_eq_false_iff_ne, bne_iff_ne, bne_eq_false_iff_eq, ne_eq, not_false_eq_true, not_true_eq_false, Bool.not_eq_true, Bool.not_eq_true', Bool.not_eq_false', Int.not_lt, Int.not_le] at hb) <;> (try simp (disch := omega) only [wrapI] at hb) <;> (try (exfalso; omega))) | fail)))
    all_goals (conv => whnf)
    refine (sortF82 (zs := Z) (id := .s 3) (ep := e3) rfl (by omega)).mono ?_
    rintro r h' ⟨rfl, rfl⟩
    (repeat' (first | exact rfl | ((conv => whnf); first | exact rfl | exact ⟨rfl, rfl⟩ | refine ⟨(by kernel_rfl : drawOk _ _ _ _ = true), ?_⟩ | refine ⟨(by kernel_rfl : planOk _ _ _ _ = true), ?_⟩ | refine ⟨rfl, ?_⟩ | refine ⟨by (first | omega | (simp (disch := omega) only [wrapI]; omega) | (simp (disch := omega) only [wrapI]; simp; omega) | (simp; omega)), ?_⟩ | (intro ep) | (refine ifB (fun hb => ?_) (fun hb => ?_) <;> (try simp only [decide_eq_true_eq, decide_eq_false_iff_not, beq_iff_eq, beq_eq_false_iff_ne, bne_iff_ne, bne_eq_false_iff_eq, ne_eq, not_false_eq_true, not_true_eq_false, Bool.not_eq_true, Bool.not_eq_true', Bool.not_eq_false', Int.not_lt, Int.not_le] at hb) <;> (try simp (disch := omega) only [wrapI] at hb) <;> (try (exfalso; omega))) | fail)))
    all_goals (conv => whnf)
    refine ⟨Go.Ab.V.pure_map (f := tnR) (sortT Z) fun x => rfl, rfl, ?_⟩
    show AV.tup [.lslc 3 ((sortT Z).map tnR) 0 Z.length false, .int .i64 0] = _
    unfold tnsA
    rw [hsl]
def A32 : Ann := fun _ => {}
set_option maxHeartbeats 1000000 in
set_option maxRecDepth 100000 in
theorem sameTones_self (l : List Tn) (hn : l.length ≤ 100000) : PRet C.P 32 [tnsA l, tnsA l] (.bool true) := by
  refine pret_of ok mixed (A := A32) 0 Tryz.func32 rfl ?_
  (repeat' (first | exact rfl | ((conv => whnf); first | exact rfl | exact ⟨rfl, rfl⟩ | refine ⟨(by kernel_rfl : drawOk _ _ _ _ = true), ?_⟩ | refine ⟨(by kernel_rfl : planOk _ _ _ _ = true), ?_⟩ | refine ⟨rfl, ?_⟩ | refine ⟨by (first | omega | (simp (disch := omega) only [wrapI]; omega) | (simp (disch := omega) only [wrapI]; simp; omega) | (simp; omega)), ?_⟩ | (intro ep) | (refine ifB (fun hb => ?_) (fun hb => ?_) <;> (try simp only [decide_eq_true_eq, decide_eq_false_iff_not, beq_iff_eq, beq_eq_false_iff_ne, bne_iff_ne, bne_eq_false_iff_eq, ne_eq, not_false_eq_true, not_true_eq_false, Bool.not_eq_true, Bool.not_eq_true', Bool.not_eq_false', Int.not_lt, Int.not_le] at hb) <;> (try simp (disch := omega) only [wrapI] at hb) <;> (try (exfalso; omega))) | fail)))
  (conv => whnf)
  refine loopM ok mixed (A := A32) [0, 1, 5] [] (S := { k : Nat // k ≤ l.length })
    (fr := fun s => frOf 0 26 [(0, tnsA l), (1, tnsA l), (5, .int .i64 (s.1 : Int))])
    (h := fun s => ⟨[], []⟩) (μ := fun s => l.length - s.1) ⟨0, by omega⟩ rfl rfl ?_
  rintro ⟨k, hk⟩
  show aexR _ _ _ (frOf 0 26 [(0, tnsA l), (1, tnsA l), (5, .int .i64 (k : Int))]) ⟨[], []⟩ _
  (conv => whnf)
  refine ifB (fun h1 => ?_) (fun h1 => ?_)
  · simp only [decide_eq_true_eq] at h1
    have hm := mapR (f := tnR) (show k < l.length by omega)
    generalize l[k] = x at hm
    obtain ⟨a, b, c⟩ := x
    (repeat' (first | exact rfl | ((conv => whnf); first | exact rfl | exact ⟨rfl, rfl⟩ | refine ⟨(by kernel_rfl : drawOk _ _ _ _ = true), ?_⟩ | refine ⟨(by kernel_rfl : planOk _ _ _ _ = true), ?_⟩ | refine ⟨rfl, ?_⟩ | refine ⟨by (first | omega | (simp (disch := omega) only [wrapI]; omega) | (simp (disch := omega) only [wrapI]; simp; omega) | (simp; omega)), ?_⟩ | (intro ep) | refine optS hm ?_ | (refine ifB (fun hb => ?_) (fun hb => ?_) <;> (try simp only [decide_eq_true_eq, decide_eq_false_iff_not, beq_iff_eq, beq_eq_false_iff_ne, bne_iff_ne, bne_eq_false_iff_eq, ne_eq, not_false_eq_true, not_true_eq_false, Bool.not_eq_true, Bool.not_eq_true', Bool.not_eq_false', Int.not_lt, Int.not_le] at hb) <;> (try simp (disch := omega) only [wrapI] at hb) <;> (try (exfalso; omega))) | fail)))
    · simp at hb
    (conv => whnf)
    refine back_of ⟨k + 1, by omega⟩ ⟨by (first | exact rfl | (simp (disch := omega) only [wrapI]; exact rfl)), rfl, by simp only; omega⟩
  · simp only [decide_eq_false_iff_not] at h1
    (repeat' (first | exact rfl | ((conv => whnf); first | exact rfl | exact ⟨rfl, rfl⟩ | refine ⟨(by kernel_rfl : drawOk _ _ _ _ = true), ?_⟩ | refine ⟨(by kernel_rfl : planOk _ _ _ _ = true), ?_⟩ | refine ⟨rfl, ?_⟩ | refine ⟨by (first | omega | (simp (disch := omega) only [wrapI]; omega) | (simp (disch := omega) only [wrapI]; simp; omega) | (simp; omega)), ?_⟩ | (intro ep) | (refine ifB (fun hb => ?_) (fun hb => ?_) <;> (try simp only [decide_eq_true_eq, decide_eq_false_iff_not, beq_iff_eq, beq_eq_false_iff_ne, bne_iff_ne, bne_eq_false_iff_eq, ne_eq, not_false_eq_true, not_true_eq_false, Bool.not_eq_true, Bool.not_eq_true', Bool.not_eq_false', Int.not_lt, Int.not_le] at hb) <;> (try simp (disch := omega) only [wrapI] at hb) <;> (try (exfalso; omega))) | fail)))
end Go.Ab.V
