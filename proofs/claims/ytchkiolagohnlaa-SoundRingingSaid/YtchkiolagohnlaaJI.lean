/-
  What is proved here serves the law's text: each part says its own claim and its conditions. No condition is left open.
-/
import Derived.Test.YtchkiolagohnlaaJG
import Derived.Test.YtchkiolagohnlaaJH
set_option linter.unusedSimpArgs false
set_option linter.unusedVariables false

/-
  Ringing: the program's and the document's, and the law. The pieces are of the sizes that a statement looks at.
-/
namespace Go.Ab.V
open Go.Proofs

def past (t : Int) (x : Nt) : Bool := decide (x.f ≥ t) || decide (x.t ≤ t)
def A73 : Ann := fun r => match r with
  | 0 => { slots := [(0, 3)] }
  | _ => {}
theorem past73 (u0 u1 : AObj) (e2 : Nat) (tm : Int) (x : Nt) (dy : List AObj) : ACalls C.P 73 [.agg (ntR x), .optr (.s 2) e2 1 0 0] ⟨[u0, u1, .vec e2 [[.int .i64 tm]]], dy⟩
    fun r h' => r = .bool (past tm x) ∧ padTo 3 h'.st = [u0, u1, .vec e2 [[.int .i64 tm]]] ∧ h'.dy = dy := by
  obtain ⟨e, c, p, f, t⟩ := x
  unfold past
  dsimp only
  refine fn_of ok mixed (A := A73) 1 Try.func73 rfl ?_
  by_cases c1 : f ≥ tm
  · rw [decide_eq_true c1]
    (repeat' (first | exact rfl | ((conv => whnf); first | exact rfl | exact ⟨rfl, rfl⟩ | refine ⟨(by kernel_rfl : drawOk _ _ _ _ = true), ?_⟩ | refine ⟨(by kernel_rfl : planOk _ _ _ _ = true), ?_⟩ | refine ⟨rfl, ?_⟩ | refine ⟨by (first | omega | (simp (disch := omega) only [wrapI]; omega) | (simp (disch := omega) only [wrapI]; simp; omega) | (simp; omega)), ?_⟩ | (intro ep) | (refine ifB (fun hb => ?_) (fun hb => ?_) <;> (try simp only [decide_eq_true_eq, decide_eq_false_iff_not, beq_iff_eq, beq_eq_false_iff_ne, bne_iff_ne, bne_eq_false_iff_eq, ne_eq, not_false_eq_true, not_true_eq_false, Bool.not_eq_true, Bool.not_eq_true', Bool.not_eq_false', Int.not_lt, Int.not_le] at hb) <;> (try simp (disch := omega) only [wrapI] at hb) <;> (try (exfalso; omega))) | fail)))
    all_goals (conv => whnf)
    all_goals exact ⟨rfl, rfl, rfl⟩
  · rw [decide_eq_false c1]
    (repeat' (first | exact rfl | ((conv => whnf); first | exact rfl | exact ⟨rfl, rfl⟩ | refine ⟨(by kernel_rfl : drawOk _ _ _ _ = true), ?_⟩ | refine ⟨(by kernel_rfl : planOk _ _ _ _ = true), ?_⟩ | refine ⟨rfl, ?_⟩ | refine ⟨by (first | omega | (simp (disch := omega) only [wrapI]; omega) | (simp (disch := omega) only [wrapI]; simp; omega) | (simp; omega)), ?_⟩ | (intro ep) | (refine ifB (fun hb => ?_) (fun hb => ?_) <;> (try simp only [decide_eq_true_eq, decide_eq_false_iff_not, beq_iff_eq, beq_eq_false_iff_ne, bne_iff_ne, bne_eq_false_iff_eq, ne_eq, not_false_eq_true, not_true_eq_false, Bool.not_eq_true, Bool.not_eq_true', Bool.not_eq_false', Int.not_lt, Int.not_le] at hb) <;> (try simp (disch := omega) only [wrapI] at hb) <;> (try (exfalso; omega))) | fail)))
    all_goals (conv => whnf)
    all_goals exact ⟨rfl, rfl, rfl⟩
/-- what Ringing answers -/
def ringL (p : Pc) (k : Nat) : List Nt := kept (past (on p k)) (notesL p)
def ringV (p : Pc) (ev : Int) : AV := if chk p ≠ 0 then .tup [.nils, .int .i64 (chk p)] else if ev < 0 ∨ (p.evs.length : Int) ≤ ev then .tup [.nils, .int .i64 1] else .tup [ntsA (ringL p ev.toNat), .int .i64 0]
def A37 : Ann := fun r => match r with
  | 0 => { slots := [(0, 0)] }
  | 1 => { slots := [(5, 1)] }
  | 7 => { slots := [(5, 2)] }
  | _ => {}
set_option maxHeartbeats 8000000 in
set_option maxRecDepth 100000 in
theorem ringing37 (p : Pc) (hp : p.Ok) (ev : Int) : PRet C.P 37 [pcA p, .int .i64 ev] (ringV p ev) := by
  unfold ringV
  by_cases hc : chk p ≠ 0
  · rw [if_pos hc]
    have h1 := listen_bad p hp hc
    generalize chk p = e at h1 hc
    refine pret_of ok mixed (A := A37) 3 Try.func37 rfl ?_
    (repeat' (first | exact rfl | ((conv => whnf); first | refine ⟨_, h1, ?_⟩ | exact rfl | exact ⟨rfl, rfl⟩ | refine ⟨(by kernel_rfl : drawOk _ _ _ _ = true), ?_⟩ | refine ⟨(by kernel_rfl : planOk _ _ _ _ = true), ?_⟩ | refine ⟨rfl, ?_⟩ | refine ⟨by (first | omega | (simp (disch := omega) only [wrapI]; omega) | (simp (disch := omega) only [wrapI]; simp; omega) | (simp; omega)), ?_⟩ | (intro ep) | (refine ifB (fun hb => ?_) (fun hb => ?_) <;> (try simp only [decide_eq_true_eq, decide_eq_false_iff_not, beq_iff_eq, beq_eq_false_iff_ne, bne_iff_ne, bne_eq_false_iff_eq, ne_eq, not_false_eq_true, not_true_eq_false, Bool.not_eq_true, Bool.not_eq_true', Bool.not_eq_false', Int.not_lt, Int.not_le] at hb) <;> (try simp (disch := omega) only [wrapI] at hb) <;> (try (exfalso; omega))) | fail)))
  rw [if_neg hc]
  have hc := Decidable.not_not.1 hc
  have v := vp hc
  have h1 := listen_ok p hp hc
  by_cases c1 : ev < 0 ∨ (p.evs.length : Int) ≤ ev
  · rw [if_pos c1]
    refine pret_of ok mixed (A := A37) 3 Try.func37 rfl ?_
    by_cases c2 : ev < 0
    · (repeat' (first | exact rfl | ((conv => whnf); first | refine ⟨_, h1, ?_⟩ | exact rfl | exact ⟨rfl, rfl⟩ | refine ⟨(by kernel_rfl : drawOk _ _ _ _ = true), ?_⟩ | refine ⟨(by kernel_rfl : planOk _ _ _ _ = true), ?_⟩ | refine ⟨rfl, ?_⟩ | refine ⟨by (first | omega | (simp (disch := omega) only [wrapI]; omega) | (simp (disch := omega) only [wrapI]; simp; omega) | (simp; omega)), ?_⟩ | (intro ep) | (refine ifB (fun hb => ?_) (fun hb => ?_) <;> (try simp only [decide_eq_true_eq, decide_eq_false_iff_not, beq_iff_eq, beq_eq_false_iff_ne, bne_iff_ne, bne_eq_false_iff_eq, ne_eq, not_false_eq_true, not_true_eq_false, Bool.not_eq_true, Bool.not_eq_true', Bool.not_eq_false', Int.not_lt, Int.not_le] at hb) <;> (try simp (disch := omega) only [wrapI] at hb) <;> (try (exfalso; omega))) | fail)))
    · (repeat' (first | exact rfl | ((conv => whnf); first | refine ⟨_, h1, ?_⟩ | exact rfl | exact ⟨rfl, rfl⟩ | refine ⟨(by kernel_rfl : drawOk _ _ _ _ = true), ?_⟩ | refine ⟨(by kernel_rfl : planOk _ _ _ _ = true), ?_⟩ | refine ⟨rfl, ?_⟩ | refine ⟨by (first | omega | (simp (disch := omega) only [wrapI]; omega) | (simp (disch := omega) only [wrapI]; simp; omega) | (simp; omega)), ?_⟩ | (intro ep) | (refine ifB (fun hb => ?_) (fun hb => ?_) <;> (try simp only [decide_eq_true_eq, decide_eq_false_iff_not, beq_iff_eq, beq_eq_false_iff_ne, bne_iff_ne, bne_eq_false_iff_eq, ne_eq, not_false_eq_true, not_true_eq_false, Bool.not_eq_true, Bool.not_eq_true', Bool.not_eq_false', Int.not_lt, Int.not_le] at hb) <;> (try simp (disch := omega) only [wrapI] at hb) <;> (try (exfalso; omega))) | fail)))
  · rw [if_neg c1]
    obtain ⟨k, rfl⟩ : ∃ k : Nat, ev = k := ⟨ev.toNat, by omega⟩
    rw [Int.toNat_natCast]
    have hk : k < p.evs.length := by omega
    have hol := ons_len p
    have hlen := v.len
    have hmo := intsR (l := onsets p) (i := k) (by rw [ons_len]; omega)
    rw [on_get (by omega)] at hmo
    have h2 := notes51h p v
    have hl := notes_len v
    unfold ringL
    generalize on p k = tm at hmo
    have hd := fun u0 u1 v1 e2 e9 => del72 u0 u1 v1 e2 tm (past tm) (notesL p) (by omega) (fun x _ dy => past73 u0 u1 e2 tm x dy) e9
    generalize notesL p = N at h2 hl hd
    generalize pressL p = W at h2
    refine psubD_of (okx [51] [72]) mixed (A := A37) 3 Try.func37 rfl rfl ?_
    (repeat' (first | exact rfl | ((conv => whnf); first | refine ⟨_, h1, ?_⟩ | (refine ⟨_, _, h2, ?_⟩; intro eps) | refine optS hmo ?_ | exact rfl | exact ⟨rfl, rfl⟩ | refine ⟨(by kernel_rfl : drawOk _ _ _ _ = true), ?_⟩ | refine ⟨(by kernel_rfl : planOk _ _ _ _ = true), ?_⟩ | refine ⟨rfl, ?_⟩ | refine ⟨by (first | omega | (simp (disch := omega) only [wrapI]; omega) | (simp (disch := omega) only [wrapI]; simp; omega) | (simp; omega)), ?_⟩ | (intro ep) | (refine ifB (fun hb => ?_) (fun hb => ?_) <;> (try simp only [decide_eq_true_eq, decide_eq_false_iff_not, beq_iff_eq, beq_eq_false_iff_ne, bne_iff_ne, bne_eq_false_iff_eq, ne_eq, not_false_eq_true, not_true_eq_false, Bool.not_eq_true, Bool.not_eq_true', Bool.not_eq_false', Int.not_lt, Int.not_le] at hb) <;> (try simp (disch := omega) only [wrapI] at hb) <;> (try (exfalso; omega))) | fail)))
    all_goals (conv => whnf)
    refine ACalls.part (dy := [.vec (eps 0) (N.map ntR), .vec (eps 1) (W.map prR)]) 3 (by exact rfl) (by exact rfl) (by exact rfl) (hd _ _ (.vec (eps 1) (W.map prR)) _ (eps 0)) ?_
    rintro r h' ⟨⟨T, hT, rfl, hp2⟩, hp1⟩
    rw [hp1, hp2]
    generalize kept (past tm) N = K at hT
    (repeat' (first | exact rfl | ((conv => whnf); first | exact rfl | exact ⟨rfl, rfl⟩ | refine ⟨(by kernel_rfl : drawOk _ _ _ _ = true), ?_⟩ | refine ⟨(by kernel_rfl : planOk _ _ _ _ = true), ?_⟩ | refine ⟨rfl, ?_⟩ | refine ⟨by (first | omega | (simp (disch := omega) only [wrapI]; omega) | (simp (disch := omega) only [wrapI]; simp; omega) | (simp; omega)), ?_⟩ | (intro ep) | (refine ifB (fun hb => ?_) (fun hb => ?_) <;> (try simp only [decide_eq_true_eq, decide_eq_false_iff_not, beq_iff_eq, beq_eq_false_iff_ne, bne_iff_ne, bne_eq_false_iff_eq, ne_eq, not_false_eq_true, not_true_eq_false, Bool.not_eq_true, Bool.not_eq_true', Bool.not_eq_false', Int.not_lt, Int.not_le] at hb) <;> (try simp (disch := omega) only [wrapI] at hb) <;> (try (exfalso; omega))) | fail)))
    all_goals (conv => whnf)
    refine ⟨fun o ho => ?_, ?_⟩
    · replace ho : o ∈ [AObj.vec (eps 0) (K.map ntR ++ List.replicate T.length [.int .i64 0, .int .i64 0, .int .i64 0, .int .i64 0, .int .i64 0]), AObj.vec (eps 1) (W.map prR)] := ho
      simp only [List.mem_cons, List.not_mem_nil, or_false] at ho
      rcases ho with rfl | rfl
      · exact pure_zap (Go.Ab.V.pure_map (f := ntR) _ fun x => rfl) rfl
      · exact Go.Ab.V.pure_map (f := prR) _ fun x => rfl
    · have hz : fzV [AObj.vec (eps 0) (K.map ntR ++ List.replicate T.length [.int .i64 0, .int .i64 0, .int .i64 0, .int .i64 0, .int .i64 0]), AObj.vec (eps 1) (W.map prR)] (.tup [.oslc (.d 0) (eps 0) 5 0 K.length false, .int .i64 0])
          = .tup [.lslc 5 (K.map ntR ++ List.replicate T.length [.int .i64 0, .int .i64 0, .int .i64 0, .int .i64 0, .int .i64 0]) 0 K.length false, .int .i64 0] := by simp [fzV, fzC]
      show frzK _ (fzV [AObj.vec (eps 0) (K.map ntR ++ List.replicate T.length [.int .i64 0, .int .i64 0, .int .i64 0, .int .i64 0, .int .i64 0]), AObj.vec (eps 1) (W.map prR)] (.tup [.oslc (.d 0) (eps 0) 5 0 K.length false, .int .i64 0])) _
      rw [hz]
      (conv => whnf)
      exact ⟨rfl, Sub.tup (.cons (sub_pre (by simp)) (SubL.refl _))⟩
def A38 : Ann := fun r => match r with
  | 0 => { slots := [(0, 0)] }
  | 12 => { slots := [(5, 1), (6, 2)] }
  | _ => {}
set_option maxHeartbeats 8000000 in
set_option maxRecDepth 100000 in
theorem refRinging38 (p : Pc) (hp : p.Ok) (hs : p.Sm) (ev : Int) : PRet C.P 38 [pcA p, .int .i64 ev] (ringV p ev) := by
  have hO := refOnsets_spec p hp hs
  unfold onsV at hO
  unfold ringV
  by_cases hc : chk p ≠ 0
  · rw [if_pos hc]
    rw [if_neg hc] at hO
    generalize chk p = e at hO hc
    refine pret_of ok mixed (A := A38) 3 Try.func38 rfl ?_
    (repeat' (first | exact rfl | ((conv => whnf); first | refine ⟨_, hO, ?_⟩ | exact rfl | exact ⟨rfl, rfl⟩ | refine ⟨(by kernel_rfl : drawOk _ _ _ _ = true), ?_⟩ | refine ⟨(by kernel_rfl : planOk _ _ _ _ = true), ?_⟩ | refine ⟨rfl, ?_⟩ | refine ⟨by (first | omega | (simp (disch := omega) only [wrapI]; omega) | (simp (disch := omega) only [wrapI]; simp; omega) | (simp; omega)), ?_⟩ | (intro ep) | (refine ifB (fun hb => ?_) (fun hb => ?_) <;> (try simp only [decide_eq_true_eq, decide_eq_false_iff_not, beq_iff_eq, beq_eq_false_iff_ne, bne_iff_ne, bne_eq_false_iff_eq, ne_eq, not_false_eq_true, not_true_eq_false, Bool.not_eq_true, Bool.not_eq_true', Bool.not_eq_false', Int.not_lt, Int.not_le] at hb) <;> (try simp (disch := omega) only [wrapI] at hb) <;> (try (exfalso; omega))) | fail)))
  rw [if_neg hc]
  have hc := Decidable.not_not.1 hc
  rw [if_pos hc] at hO
  have v := vp hc
  by_cases c1 : ev < 0 ∨ (p.evs.length : Int) ≤ ev
  · rw [if_pos c1]
    refine pret_of ok mixed (A := A38) 3 Try.func38 rfl ?_
    by_cases c2 : ev < 0
    · (repeat' (first | exact rfl | ((conv => whnf); first | refine ⟨_, hO, ?_⟩ | exact rfl | exact ⟨rfl, rfl⟩ | refine ⟨(by kernel_rfl : drawOk _ _ _ _ = true), ?_⟩ | refine ⟨(by kernel_rfl : planOk _ _ _ _ = true), ?_⟩ | refine ⟨rfl, ?_⟩ | refine ⟨by (first | omega | (simp (disch := omega) only [wrapI]; omega) | (simp (disch := omega) only [wrapI]; simp; omega) | (simp; omega)), ?_⟩ | (intro ep) | (refine ifB (fun hb => ?_) (fun hb => ?_) <;> (try simp only [decide_eq_true_eq, decide_eq_false_iff_not, beq_iff_eq, beq_eq_false_iff_ne, bne_iff_ne, bne_eq_false_iff_eq, ne_eq, not_false_eq_true, not_true_eq_false, Bool.not_eq_true, Bool.not_eq_true', Bool.not_eq_false', Int.not_lt, Int.not_le] at hb) <;> (try simp (disch := omega) only [wrapI] at hb) <;> (try (exfalso; omega))) | fail)))
    · (repeat' (first | exact rfl | ((conv => whnf); first | refine ⟨_, hO, ?_⟩ | exact rfl | exact ⟨rfl, rfl⟩ | refine ⟨(by kernel_rfl : drawOk _ _ _ _ = true), ?_⟩ | refine ⟨(by kernel_rfl : planOk _ _ _ _ = true), ?_⟩ | refine ⟨rfl, ?_⟩ | refine ⟨by (first | omega | (simp (disch := omega) only [wrapI]; omega) | (simp (disch := omega) only [wrapI]; simp; omega) | (simp; omega)), ?_⟩ | (intro ep) | (refine ifB (fun hb => ?_) (fun hb => ?_) <;> (try simp only [decide_eq_true_eq, decide_eq_false_iff_not, beq_iff_eq, beq_eq_false_iff_ne, bne_iff_ne, bne_eq_false_iff_eq, ne_eq, not_false_eq_true, not_true_eq_false, Bool.not_eq_true, Bool.not_eq_true', Bool.not_eq_false', Int.not_lt, Int.not_le] at hb) <;> (try simp (disch := omega) only [wrapI] at hb) <;> (try (exfalso; omega))) | fail)))
  rw [if_neg c1]
  obtain ⟨k, rfl⟩ : ∃ k : Nat, ev = k := ⟨ev.toNat, by omega⟩
  rw [Int.toNat_natCast]
  have hk : k < p.evs.length := by omega
  have hol := ons_len p
  have hlen := v.len
  have hmo := intsR (l := onsets p) (i := k) (by rw [ons_len]; omega)
  rw [on_get (by omega)] at hmo
  have h2 := refNotes19 p hp hs
  unfold notesV at h2
  rw [if_pos hc] at h2
  have hl := notes_len v
  obtain ⟨Z, hZ⟩ : ∃ Z, Z = ringL p k := ⟨_, rfl⟩
  rw [← hZ]
  unfold ringL at hZ
  generalize on p k = tm at hmo hZ
  generalize notesL p = N at h2 hl hZ
  refine pret_of ok mixed (A := A38) 3 Try.func38 rfl ?_
  (repeat' (first | exact rfl | ((conv => whnf); first | refine ⟨_, hO, ?_⟩ | refine ⟨_, h2, ?_⟩ | exact rfl | exact ⟨rfl, rfl⟩ | refine ⟨(by kernel_rfl : drawOk _ _ _ _ = true), ?_⟩ | refine ⟨(by kernel_rfl : planOk _ _ _ _ = true), ?_⟩ | refine ⟨rfl, ?_⟩ | refine ⟨by (first | omega | (simp (disch := omega) only [wrapI]; omega) | (simp (disch := omega) only [wrapI]; simp; omega) | (simp; omega)), ?_⟩ | (intro ep) | (refine ifB (fun hb => ?_) (fun hb => ?_) <;> (try simp only [decide_eq_true_eq, decide_eq_false_iff_not, beq_iff_eq, beq_eq_false_iff_ne, bne_iff_ne, bne_eq_false_iff_eq, ne_eq, not_false_eq_true, not_true_eq_false, Bool.not_eq_true, Bool.not_eq_true', Bool.not_eq_false', Int.not_lt, Int.not_le] at hb) <;> (try simp (disch := omega) only [wrapI] at hb) <;> (try (exfalso; omega))) | fail)))
  all_goals (conv => whnf)
  refine wk_lift 10 2 5 rfl ?_
  intro e2
  refine loopY ok mixed (A := A38) [1, 6, 8, 10, 11] [2] (S := { z : Nat × Nat × List Nt // z.1 ≤ N.length ∧ z.2.2 ++ kept (past tm) (N.drop z.1) = Z ∧ z.2.2.length ≤ z.1 })
    (fr := fun s => frOf 0 70 [(1, .int .i64 (k : Int)), (6, intsA (onsets p)), (8, ntsA N), (10, .oslc (.s 2) s.1.2.1 5 0 s.1.2.2.length false), (11, .int .i64 (s.1.1 : Int))])
    (h := fun s => ⟨[.hole, .hole, .vec s.1.2.1 (s.1.2.2.map ntR)], []⟩) (μ := fun s => N.length - s.1.1)
    ⟨(0, e2, []), by simp, hZ.symm, by simp⟩ ?_ ?_
    [10] [2] (S' := { z : Nat × List Nt // z.2 = Z }) (X := fun _ => 0)
    (frX := fun s => frOf 0 70 [(10, .oslc (.s 2) s.1.1 5 0 s.1.2.length false)])
    (hX := fun s => ⟨[.hole, .hole, .vec s.1.1 (s.1.2.map ntR)], []⟩)
    [] [] (S2 := Empty) (frR := fun s => frOf 0 70 []) (hR := fun s => ⟨[], []⟩) ?_ ?_ ?_
  · exact rfl
  · exact rfl
  · rintro ⟨⟨j, e2, L⟩, hj, hu, hL⟩
    dsimp only at hj hu hL
    show aexR _ _ _ (frOf 0 70 [(1, .int .i64 (k : Int)), (6, intsA (onsets p)), (8, ntsA N), (10, .oslc (.s 2) e2 5 0 L.length false), (11, .int .i64 (j : Int))]) ⟨[.hole, .hole, .vec e2 (L.map ntR)], []⟩ _
    by_cases g : j < N.length
    · have hm := mapR (f := ntR) g
      rw [kept_cons _ g] at hu
      generalize N[j] = x at hm hu
      obtain ⟨xe, xc, xp, xf, xt⟩ := x
      unfold past at hu
      dsimp only at hu
      have t1 : List.take L.length (List.drop 0 (L.map ntR)) = L.map ntR := by rw [List.drop_zero, List.take_of_length_le (by simp)]
      by_cases c2 : xf < tm
      · by_cases c3 : tm < xt
        · rw [if_neg (by simp; omega), List.append_cons] at hu
          (repeat' (first | exact rfl | ((conv => whnf); first | refine optS hm ?_ | refine optS hmo ?_ | exact rfl | exact ⟨rfl, rfl⟩ | refine ⟨(by kernel_rfl : drawOk _ _ _ _ = true), ?_⟩ | refine ⟨(by kernel_rfl : planOk _ _ _ _ = true), ?_⟩ | refine ⟨rfl, ?_⟩ | refine ⟨by (first | omega | (simp (disch := omega) only [wrapI]; omega) | (simp (disch := omega) only [wrapI]; simp; omega) | (simp; omega)), ?_⟩ | (intro ep) | (refine ifB (fun hb => ?_) (fun hb => ?_) <;> (try simp only [decide_eq_true_eq, decide_eq_false_iff_not, beq_iff_eq, beq_eq_false_iff_ne, bne_iff_ne, bne_eq_false_iff_eq, ne_eq, not_false_eq_true, not_true_eq_false, Bool.not_eq_true, Bool.not_eq_true', Bool.not_eq_false', Int.not_lt, Int.not_le] at hb) <;> (try simp (disch := omega) only [wrapI] at hb) <;> (try (exfalso; omega))) | fail)))
          all_goals (conv => whnf)
          refine back_of ⟨(j + 1, ep, L ++ [⟨xe, xc, xp, xf, xt⟩]), by dsimp only; omega, hu, by dsimp only; rw [List.length_append, List.length_singleton]; omega⟩ ⟨?_, ?_, by dsimp only; omega⟩
          · show maskF 0 _ _ = frOf 0 70 [(1, .int .i64 (k : Int)), (6, intsA (onsets p)), (8, ntsA N), (10, .oslc (.s 2) ep 5 0 (L ++ [(⟨xe, xc, xp, xf, xt⟩ : Nt)]).length false), (11, .int .i64 ((j + 1 : Nat) : Int))]
            rw [List.length_append, List.length_singleton]
            (first | exact rfl | (simp (disch := omega) only [wrapI]; exact rfl))
          · show maskH 0 _ _ = ⟨[.hole, .hole, .vec ep ((L ++ [(⟨xe, xc, xp, xf, xt⟩ : Nt)]).map ntR)], []⟩
            have em : (L ++ [(⟨xe, xc, xp, xf, xt⟩ : Nt)]).map ntR = List.take L.length (List.drop 0 (L.map ntR)) ++ [[.int .i64 xe, .int .i64 xc, .int .i64 xp, .int .i64 xf, .int .i64 xt]] := by rw [t1]; simp [ntR]
            rw [em]
            (first | exact rfl | (simp (disch := omega) only [wrapI]; exact rfl))
        · rw [if_pos (by simp; omega)] at hu
          (repeat' (first | exact rfl | ((conv => whnf); first | refine optS hm ?_ | refine optS hmo ?_ | exact rfl | exact ⟨rfl, rfl⟩ | refine ⟨(by kernel_rfl : drawOk _ _ _ _ = true), ?_⟩ | refine ⟨(by kernel_rfl : planOk _ _ _ _ = true), ?_⟩ | refine ⟨rfl, ?_⟩ | refine ⟨by (first | omega | (simp (disch := omega) only [wrapI]; omega) | (simp (disch := omega) only [wrapI]; simp; omega) | (simp; omega)), ?_⟩ | (intro ep) | (refine ifB (fun hb => ?_) (fun hb => ?_) <;> (try simp only [decide_eq_true_eq, decide_eq_false_iff_not, beq_iff_eq, beq_eq_false_iff_ne, bne_iff_ne, bne_eq_false_iff_eq, ne_eq, not_false_eq_true, not_true_eq_false, Bool.not_eq_true, Bool.not_eq_true', Bool.not_eq_false', Int.not_lt, Int.not_le] at hb) <;> (try simp (disch := omega) only [wrapI] at hb) <;> (try (exfalso; omega))) | fail)))
          all_goals (conv => whnf)
          all_goals exact back_of ⟨(j + 1, e2, L), by dsimp only; omega, hu, by dsimp only; omega⟩ ⟨by (first | exact rfl | (simp (disch := omega) only [wrapI]; exact rfl)), rfl, by dsimp only; omega⟩
      · rw [if_pos (by simp; omega)] at hu
        (repeat' (first | exact rfl | ((conv => whnf); first | refine optS hm ?_ | refine optS hmo ?_ | exact rfl | exact ⟨rfl, rfl⟩ | refine ⟨(by kernel_rfl : drawOk _ _ _ _ = true), ?_⟩ | refine ⟨(by kernel_rfl : planOk _ _ _ _ = true), ?_⟩ | refine ⟨rfl, ?_⟩ | refine ⟨by (first | omega | (simp (disch := omega) only [wrapI]; omega) | (simp (disch := omega) only [wrapI]; simp; omega) | (simp; omega)), ?_⟩ | (intro ep) | (refine ifB (fun hb => ?_) (fun hb => ?_) <;> (try simp only [decide_eq_true_eq, decide_eq_false_iff_not, beq_iff_eq, beq_eq_false_iff_ne, bne_iff_ne, bne_eq_false_iff_eq, ne_eq, not_false_eq_true, not_true_eq_false, Bool.not_eq_true, Bool.not_eq_true', Bool.not_eq_false', Int.not_lt, Int.not_le] at hb) <;> (try simp (disch := omega) only [wrapI] at hb) <;> (try (exfalso; omega))) | fail)))
        all_goals (conv => whnf)
        all_goals exact back_of ⟨(j + 1, e2, L), by dsimp only; omega, hu, by dsimp only; omega⟩ ⟨by (first | exact rfl | (simp (disch := omega) only [wrapI]; exact rfl)), rfl, by dsimp only; omega⟩
    · have hj2 : j = N.length := by omega
      subst hj2
      rw [List.drop_length, show kept (past tm) [] = [] from rfl, List.append_nil] at hu
      (repeat' (first | exact rfl | ((conv => whnf); first | exact rfl | exact ⟨rfl, rfl⟩ | refine ⟨(by kernel_rfl : drawOk _ _ _ _ = true), ?_⟩ | refine ⟨(by kernel_rfl : planOk _ _ _ _ = true), ?_⟩ | refine ⟨rfl, ?_⟩ | refine ⟨by (first | omega | (simp (disch := omega) only [wrapI]; omega) | (simp (disch := omega) only [wrapI]; simp; omega) | (simp; omega)), ?_⟩ | (intro ep) | (refine ifB (fun hb => ?_) (fun hb => ?_) <;> (try simp only [decide_eq_true_eq, decide_eq_false_iff_not, beq_iff_eq, beq_eq_false_iff_ne, bne_iff_ne, bne_eq_false_iff_eq, ne_eq, not_false_eq_true, not_true_eq_false, Bool.not_eq_true, Bool.not_eq_true', Bool.not_eq_false', Int.not_lt, Int.not_le] at hb) <;> (try simp (disch := omega) only [wrapI] at hb) <;> (try (exfalso; omega))) | fail)))
      all_goals (conv => whnf)
      all_goals exact back_of ⟨(e2, L), hu⟩ ⟨rfl, rfl, rfl⟩
  · rintro ⟨⟩
  · rintro ⟨⟨e2, L⟩, hz⟩
    dsimp only at hz
    subst hz
    (repeat' (first | exact rfl | ((conv => whnf); first | exact rfl | exact ⟨rfl, rfl⟩ | refine ⟨(by kernel_rfl : drawOk _ _ _ _ = true), ?_⟩ | refine ⟨(by kernel_rfl : planOk _ _ _ _ = true), ?_⟩ | refine ⟨rfl, ?_⟩ | refine ⟨by (first | omega | (simp (disch := omega) only [wrapI]; omega) | (simp (disch := omega) only [wrapI]; simp; omega) | (simp; omega)), ?_⟩ | (intro ep) | (refine ifB (fun hb => ?_) (fun hb => ?_) <;> (try simp only [decide_eq_true_eq, decide_eq_false_iff_not, beq_iff_eq, beq_eq_false_iff_ne, bne_iff_ne, bne_eq_false_iff_eq, ne_eq, not_false_eq_true, not_true_eq_false, Bool.not_eq_true, Bool.not_eq_true', Bool.not_eq_false', Int.not_lt, Int.not_le] at hb) <;> (try simp (disch := omega) only [wrapI] at hb) <;> (try (exfalso; omega))) | fail)))
    all_goals (conv => whnf)
    exact ⟨Go.Ab.V.pure_map (f := ntR) L fun x => rfl, rfl, rfl⟩
def A10 : Ann := fun r => match r with
  | 0 => { slots := [(0, 0)] }
  | _ => {}
set_option maxHeartbeats 4000000 in
set_option maxRecDepth 100000 in
theorem law_ringing (p : Pc) (hp : p.Ok) (ev : Int) : ACalls C.P 10 [pcA p, .int .i64 ev] Heap.nil fun r _ => r = .bool true := by
  have hb0 := big_spec p hp
  cases hb : bigB p with
  | true =>
    rw [hb] at hb0
    refine fn_of ok mixed (A := A10) 1 Try.func10 rfl ?_
    (repeat' (first | exact rfl | ((conv => whnf); first | refine ⟨_, works_spec, ?_⟩ | refine ⟨_, hb0, ?_⟩ | exact rfl | exact ⟨rfl, rfl⟩ | refine ⟨(by kernel_rfl : drawOk _ _ _ _ = true), ?_⟩ | refine ⟨(by kernel_rfl : planOk _ _ _ _ = true), ?_⟩ | refine ⟨rfl, ?_⟩ | refine ⟨by (first | omega | (simp (disch := omega) only [wrapI]; omega) | (simp (disch := omega) only [wrapI]; simp; omega) | (simp; omega)), ?_⟩ | (intro ep) | (refine ifB (fun hb => ?_) (fun hb => ?_) <;> (try simp only [decide_eq_true_eq, decide_eq_false_iff_not, beq_iff_eq, beq_eq_false_iff_ne, bne_iff_ne, bne_eq_false_iff_eq, ne_eq, not_false_eq_true, not_true_eq_false, Bool.not_eq_true, Bool.not_eq_true', Bool.not_eq_false', Int.not_lt, Int.not_le] at hb) <;> (try simp (disch := omega) only [wrapI] at hb) <;> (try (exfalso; omega))) | fail)))
  | false =>
    have hs := Pc.Sm.of_big hb
    have hcp := copy_spec p hs
    rw [hb] at hb0
    have h1 := ringing37 p hp ev
    have h2 := refRinging38 p hp hs ev
    unfold ringV at h1 h2
    by_cases hc : chk p ≠ 0
    · rw [if_pos hc] at h1 h2
      have h3 := sameNotes_nil
      generalize chk p = e at h1 h2
      refine fn_of ok mixed (A := A10) 1 Try.func10 rfl ?_
      (repeat' (first | exact rfl | ((conv => whnf); first | refine ⟨_, works_spec, ?_⟩ | refine ⟨_, hb0, ?_⟩ | refine ⟨_, hcp, ?_⟩ | refine ⟨_, h1, ?_⟩ | refine ⟨_, h2, ?_⟩ | refine ⟨_, h3, ?_⟩ | exact rfl | exact ⟨rfl, rfl⟩ | refine ⟨(by kernel_rfl : drawOk _ _ _ _ = true), ?_⟩ | refine ⟨(by kernel_rfl : planOk _ _ _ _ = true), ?_⟩ | refine ⟨rfl, ?_⟩ | refine ⟨by (first | omega | (simp (disch := omega) only [wrapI]; omega) | (simp (disch := omega) only [wrapI]; simp; omega) | (simp; omega)), ?_⟩ | (intro ep) | (refine ifB (fun hb => ?_) (fun hb => ?_) <;> (try simp only [decide_eq_true_eq, decide_eq_false_iff_not, beq_iff_eq, beq_eq_false_iff_ne, bne_iff_ne, bne_eq_false_iff_eq, ne_eq, not_false_eq_true, not_true_eq_false, Bool.not_eq_true, Bool.not_eq_true', Bool.not_eq_false', Int.not_lt, Int.not_le] at hb) <;> (try simp (disch := omega) only [wrapI] at hb) <;> (try (exfalso; omega))) | fail)))
    · rw [if_neg hc] at h1 h2
      by_cases ht : ev < 0 ∨ (p.evs.length : Int) ≤ ev
      · rw [if_pos ht] at h1 h2
        have h3 := sameNotes_nil
        refine fn_of ok mixed (A := A10) 1 Try.func10 rfl ?_
        (repeat' (first | exact rfl | ((conv => whnf); first | refine ⟨_, works_spec, ?_⟩ | refine ⟨_, hb0, ?_⟩ | refine ⟨_, hcp, ?_⟩ | refine ⟨_, h1, ?_⟩ | refine ⟨_, h2, ?_⟩ | refine ⟨_, h3, ?_⟩ | exact rfl | exact ⟨rfl, rfl⟩ | refine ⟨(by kernel_rfl : drawOk _ _ _ _ = true), ?_⟩ | refine ⟨(by kernel_rfl : planOk _ _ _ _ = true), ?_⟩ | refine ⟨rfl, ?_⟩ | refine ⟨by (first | omega | (simp (disch := omega) only [wrapI]; omega) | (simp (disch := omega) only [wrapI]; simp; omega) | (simp; omega)), ?_⟩ | (intro ep) | (refine ifB (fun hb => ?_) (fun hb => ?_) <;> (try simp only [decide_eq_true_eq, decide_eq_false_iff_not, beq_iff_eq, beq_eq_false_iff_ne, bne_iff_ne, bne_eq_false_iff_eq, ne_eq, not_false_eq_true, not_true_eq_false, Bool.not_eq_true, Bool.not_eq_true', Bool.not_eq_false', Int.not_lt, Int.not_le] at hb) <;> (try simp (disch := omega) only [wrapI] at hb) <;> (try (exfalso; omega))) | fail)))
      · rw [if_neg ht] at h1 h2
        have h3 := sameNotes_self (ringL p ev.toNat) (by
          have := notes_len (vp (Decidable.not_not.1 hc))
          have := List.length_filter_le (fun x => !past (on p ev.toNat) x) (notesL p)
          unfold ringL kept
          omega)
        generalize ringL p ev.toNat = L at h1 h2 h3
        refine fn_of ok mixed (A := A10) 1 Try.func10 rfl ?_
        (repeat' (first | exact rfl | ((conv => whnf); first | refine ⟨_, works_spec, ?_⟩ | refine ⟨_, hb0, ?_⟩ | refine ⟨_, hcp, ?_⟩ | refine ⟨_, h1, ?_⟩ | refine ⟨_, h2, ?_⟩ | refine ⟨_, h3, ?_⟩ | exact rfl | exact ⟨rfl, rfl⟩ | refine ⟨(by kernel_rfl : drawOk _ _ _ _ = true), ?_⟩ | refine ⟨(by kernel_rfl : planOk _ _ _ _ = true), ?_⟩ | refine ⟨rfl, ?_⟩ | refine ⟨by (first | omega | (simp (disch := omega) only [wrapI]; omega) | (simp (disch := omega) only [wrapI]; simp; omega) | (simp; omega)), ?_⟩ | (intro ep) | (refine ifB (fun hb => ?_) (fun hb => ?_) <;> (try simp only [decide_eq_true_eq, decide_eq_false_iff_not, beq_iff_eq, beq_eq_false_iff_ne, bne_iff_ne, bne_eq_false_iff_eq, ne_eq, not_false_eq_true, not_true_eq_false, Bool.not_eq_true, Bool.not_eq_true', Bool.not_eq_false', Int.not_lt, Int.not_le] at hb) <;> (try simp (disch := omega) only [wrapI] at hb) <;> (try (exfalso; omega))) | fail)))
end Go.Ab.V
