/-
  What is proved here serves the law's text: each part says its own claim and its conditions. No condition is left open.
-/
import Derived.Test.YtchkiolagohnlaaJN
import Derived.Test.YtchkiolagohnlaaJJ
import Derived.Test.YtchkiolagohnlaaKU
import Derived.Test.YtchkiolagohnlaaJE
set_option linter.unusedSimpArgs false
set_option linter.unusedVariables false

/-
  Clashes, and the law of sonorities. The pieces are of the sizes that a statement looks at.
-/
namespace Go.Ab.V
open Go.Proofs

theorem sonP_mem {S : List Nt} {x : Sn} : ∀ {C : List Int}, x ∈ sonP S C → ∃ t, x.l = sndF S t 128 0
  | [], h => by cases h
  | [a], h => by cases h
  | a :: b :: r, h => by
    rw [sonP] at h
    rcases List.mem_cons.1 h with rfl | h
    · exact ⟨a, rfl⟩
    · exact sonP_mem h
theorem snd_bd {S : List Nt} {t : Int} : (sndF S t 128 0).length ≤ 128 ∧ ∀ y ∈ sndF S t 128 0, 0 ≤ y ∧ y < 128 := by
  refine ⟨sndF_len S t 128 0, fun y hy => ?_⟩
  have := ((sndF_mem S t 128 0 y).1 hy).2
  omega
theorem son_bd {p : Pc} {x : Sn} (h : x ∈ sonL p) : x.l.length ≤ 128 ∧ ∀ y ∈ x.l, 0 ≤ y ∧ y < 128 := by
  obtain ⟨t, e⟩ := sonP_mem h
  rw [e]
  exact snd_bd
theorem son_len {p : Pc} (v : Vp p) : (sonL p).length ≤ 401 := by
  have h1 := sonP_len (stringsL p) (timL p)
  have h2 := timL_len v
  unfold sonL
  omega
def conB (x : Sn) : Bool := rc x.l
def A81 : Ann := fun r => match r with
  | 0 => { slots := [(0, 0)] }
  | _ => {}
theorem con81 (x : Sn) (hl : x.l.length ≤ 128 ∧ ∀ y ∈ x.l, 0 ≤ y ∧ y < 128) : PRet C.P 81 [.agg (snR x)] (.bool (conB x)) := by
  obtain ⟨f, t, l⟩ := x
  dsimp only at hl
  have h1 := conc27 l (by omega) (fun y hy => by have := hl.2 y hy; omega)
  unfold conB
  dsimp only
  generalize rc l = b at h1
  refine pret_of ok mixed (A := A81) 1 Try.func81 rfl ?_
  (repeat' (first | exact rfl | ((conv => whnf); first | refine ⟨_, h1, ?_⟩ | exact rfl | exact ⟨rfl, rfl⟩ | refine ⟨(by kernel_rfl : drawOk _ _ _ _ = true), ?_⟩ | refine ⟨(by kernel_rfl : planOk _ _ _ _ = true), ?_⟩ | refine ⟨rfl, ?_⟩ | refine ⟨by (first | omega | (simp (disch := omega) only [wrapI]; omega) | (simp (disch := omega) only [wrapI]; simp; omega) | (simp; omega)), ?_⟩ | (intro ep) | (refine ifB (fun hb => ?_) (fun hb => ?_) <;> (try simp only [decide_eq_true_eq, decide_eq_false_iff_not, beq_iff_eq, beq_eq_false_iff_ne, bne_iff_ne, bne_eq_false_iff_eq, ne_eq, not_false_eq_true, not_true_eq_false, Bool.not_eq_true, Bool.not_eq_true', Bool.not_eq_false', Int.not_lt, Int.not_le] at hb) <;> (try simp (disch := omega) only [wrapI] at hb) <;> (try (exfalso; omega))) | fail)))
def clL (p : Pc) : List Sn := kept conB (sonL p)
def clV (p : Pc) : AV := if chk p = 0 then .tup [snsA (clL p), .int .i64 0] else .tup [.nils, .int .i64 (chk p)]
def A44 : Ann := fun r => match r with
  | 0 => { slots := [(0, 0)] }
  | _ => {}
set_option maxHeartbeats 8000000 in
set_option maxRecDepth 100000 in
theorem clashes44 (p : Pc) (hp : p.Ok) : PRet C.P 44 [pcA p] (clV p) := by
  unfold clV
  by_cases hc : chk p = 0
  · rw [if_pos hc]
    have v := vp hc
    have h2 := son41h p hp hc
    have hl := son_len v
    unfold clL
    have hd := fun e9 => del80 conB (sonL p) (by omega) (fun x hx => con81 x (son_bd hx)) e9
    generalize sonL p = N at h2 hl hd
    refine psubD_of (okx [41] [80]) mixed (A := A44) 1 Try.func44 rfl rfl ?_
    (repeat' (first | exact rfl | ((conv => whnf); first | (refine ⟨_, _, h2, ?_⟩; intro eps) | exact rfl | exact ⟨rfl, rfl⟩ | refine ⟨(by kernel_rfl : drawOk _ _ _ _ = true), ?_⟩ | refine ⟨(by kernel_rfl : planOk _ _ _ _ = true), ?_⟩ | refine ⟨rfl, ?_⟩ | refine ⟨by (first | omega | (simp (disch := omega) only [wrapI]; omega) | (simp (disch := omega) only [wrapI]; simp; omega) | (simp; omega)), ?_⟩ | (intro ep) | (refine ifB (fun hb => ?_) (fun hb => ?_) <;> (try simp only [decide_eq_true_eq, decide_eq_false_iff_not, beq_iff_eq, beq_eq_false_iff_ne, bne_iff_ne, bne_eq_false_iff_eq, ne_eq, not_false_eq_true, not_true_eq_false, Bool.not_eq_true, Bool.not_eq_true', Bool.not_eq_false', Int.not_lt, Int.not_le] at hb) <;> (try simp (disch := omega) only [wrapI] at hb) <;> (try (exfalso; omega))) | fail)))
    all_goals (conv => whnf)
    refine ACalls.part (dy := [.vec (eps 0) (N.map snR)]) 0 (by exact rfl) (by exact rfl) (by exact rfl) (hd (eps 0)) ?_
    rintro r h' ⟨⟨T, hT, rfl, hp2⟩, hp1⟩
    rw [hp1, hp2]
    generalize kept conB N = K at hT
    (repeat' (first | exact rfl | ((conv => whnf); first | exact rfl | exact ⟨rfl, rfl⟩ | refine ⟨(by kernel_rfl : drawOk _ _ _ _ = true), ?_⟩ | refine ⟨(by kernel_rfl : planOk _ _ _ _ = true), ?_⟩ | refine ⟨rfl, ?_⟩ | refine ⟨by (first | omega | (simp (disch := omega) only [wrapI]; omega) | (simp (disch := omega) only [wrapI]; simp; omega) | (simp; omega)), ?_⟩ | (intro ep) | (refine ifB (fun hb => ?_) (fun hb => ?_) <;> (try simp only [decide_eq_true_eq, decide_eq_false_iff_not, beq_iff_eq, beq_eq_false_iff_ne, bne_iff_ne, bne_eq_false_iff_eq, ne_eq, not_false_eq_true, not_true_eq_false, Bool.not_eq_true, Bool.not_eq_true', Bool.not_eq_false', Int.not_lt, Int.not_le] at hb) <;> (try simp (disch := omega) only [wrapI] at hb) <;> (try (exfalso; omega))) | fail)))
    all_goals (conv => whnf)
    refine ⟨fun o ho => ?_, ?_⟩
    · replace ho : o ∈ [AObj.vec (eps 0) (K.map snR ++ List.replicate T.length [.int .i64 0, .int .i64 0, .nils])] := ho
      simp only [List.mem_cons, List.not_mem_nil, or_false] at ho
      subst ho
      exact pure_zap (pure_sns _) rfl
    · have hz : fzV [AObj.vec (eps 0) (K.map snR ++ List.replicate T.length [.int .i64 0, .int .i64 0, .nils])] (.tup [.oslc (.d 0) (eps 0) 3 0 K.length false, .int .i64 0])
          = .tup [.lslc 3 (K.map snR ++ List.replicate T.length [.int .i64 0, .int .i64 0, .nils]) 0 K.length false, .int .i64 0] := by simp [fzV, fzC]
      show frzK _ (fzV [AObj.vec (eps 0) (K.map snR ++ List.replicate T.length [.int .i64 0, .int .i64 0, .nils])] (.tup [.oslc (.d 0) (eps 0) 3 0 K.length false, .int .i64 0])) _
      rw [hz]
      (conv => whnf)
      exact ⟨rfl, Sub.tup (.cons (sub_pre (by simp)) (SubL.refl _))⟩
  · rw [if_neg hc]
    have h1 := son_bad p hp hc
    generalize chk p = e at h1 hc
    refine pret_of ok mixed (A := A44) 1 Try.func44 rfl ?_
    (repeat' (first | exact rfl | ((conv => whnf); first | refine ⟨_, h1, ?_⟩ | exact rfl | exact ⟨rfl, rfl⟩ | refine ⟨(by kernel_rfl : drawOk _ _ _ _ = true), ?_⟩ | refine ⟨(by kernel_rfl : planOk _ _ _ _ = true), ?_⟩ | refine ⟨rfl, ?_⟩ | refine ⟨by (first | omega | (simp (disch := omega) only [wrapI]; omega) | (simp (disch := omega) only [wrapI]; simp; omega) | (simp; omega)), ?_⟩ | (intro ep) | (refine ifB (fun hb => ?_) (fun hb => ?_) <;> (try simp only [decide_eq_true_eq, decide_eq_false_iff_not, beq_iff_eq, beq_eq_false_iff_ne, bne_iff_ne, bne_eq_false_iff_eq, ne_eq, not_false_eq_true, not_true_eq_false, Bool.not_eq_true, Bool.not_eq_true', Bool.not_eq_false', Int.not_lt, Int.not_le] at hb) <;> (try simp (disch := omega) only [wrapI] at hb) <;> (try (exfalso; omega))) | fail)))
def A45 : Ann := fun r => match r with
  | 0 => { slots := [(0, 0)] }
  | 9 => { slots := [(5, 1), (6, 2)] }
  | _ => {}
set_option maxHeartbeats 8000000 in
set_option maxRecDepth 100000 in
theorem refClashes45 (p : Pc) (hp : p.Ok) (hs : p.Sm) : PRet C.P 45 [pcA p] (clV p) := by
  have hN := refSon43 p hp hs
  unfold sonV at hN
  unfold clV
  by_cases hc : ¬ chk p = 0
  · rw [if_neg hc] at hN ⊢
    generalize chk p = e at hN hc
    refine pret_of ok mixed (A := A45) 3 Try.func45 rfl ?_
    (repeat' (first | exact rfl | ((conv => whnf); first | refine ⟨_, hN, ?_⟩ | exact rfl | exact ⟨rfl, rfl⟩ | refine ⟨(by kernel_rfl : drawOk _ _ _ _ = true), ?_⟩ | refine ⟨(by kernel_rfl : planOk _ _ _ _ = true), ?_⟩ | refine ⟨rfl, ?_⟩ | refine ⟨by (first | omega | (simp (disch := omega) only [wrapI]; omega) | (simp (disch := omega) only [wrapI]; simp; omega) | (simp; omega)), ?_⟩ | (intro ep) | (refine ifB (fun hb => ?_) (fun hb => ?_) <;> (try simp only [decide_eq_true_eq, decide_eq_false_iff_not, beq_iff_eq, beq_eq_false_iff_ne, bne_iff_ne, bne_eq_false_iff_eq, ne_eq, not_false_eq_true, not_true_eq_false, Bool.not_eq_true, Bool.not_eq_true', Bool.not_eq_false', Int.not_lt, Int.not_le] at hb) <;> (try simp (disch := omega) only [wrapI] at hb) <;> (try (exfalso; omega))) | fail)))
  have hc := Decidable.not_not.1 hc
  rw [if_pos hc] at hN ⊢
  have hl := son_len (vp hc)
  have hbd := fun x (hx : x ∈ sonL p) => son_bd hx
  obtain ⟨Z, hZ⟩ : ∃ Z, Z = clL p := ⟨_, rfl⟩
  rw [← hZ]
  unfold clL at hZ
  generalize sonL p = N at hN hl hZ hbd
  refine pret_of ok mixed (A := A45) 3 Try.func45 rfl ?_
  (repeat' (first | exact rfl | ((conv => whnf); first | refine ⟨_, hN, ?_⟩ | exact rfl | exact ⟨rfl, rfl⟩ | refine ⟨(by kernel_rfl : drawOk _ _ _ _ = true), ?_⟩ | refine ⟨(by kernel_rfl : planOk _ _ _ _ = true), ?_⟩ | refine ⟨rfl, ?_⟩ | refine ⟨by (first | omega | (simp (disch := omega) only [wrapI]; omega) | (simp (disch := omega) only [wrapI]; simp; omega) | (simp; omega)), ?_⟩ | (intro ep) | (refine ifB (fun hb => ?_) (fun hb => ?_) <;> (try simp only [decide_eq_true_eq, decide_eq_false_iff_not, beq_iff_eq, beq_eq_false_iff_ne, bne_iff_ne, bne_eq_false_iff_eq, ne_eq, not_false_eq_true, not_true_eq_false, Bool.not_eq_true, Bool.not_eq_true', Bool.not_eq_false', Int.not_lt, Int.not_le] at hb) <;> (try simp (disch := omega) only [wrapI] at hb) <;> (try (exfalso; omega))) | fail)))
  all_goals (conv => whnf)
  refine wk_lift 6 2 3 rfl ?_
  intro e2
  refine loopY ok mixed (A := A45) [4, 6, 7] [2] (S := { z : Nat × Nat × List Sn // z.1 ≤ N.length ∧ z.2.2 ++ kept conB (N.drop z.1) = Z ∧ z.2.2.length ≤ z.1 })
    (fr := fun s => frOf 0 37 [(4, snsA N), (6, .oslc (.s 2) s.1.2.1 3 0 s.1.2.2.length false), (7, .int .i64 (s.1.1 : Int))])
    (h := fun s => ⟨[.hole, .hole, .vec s.1.2.1 (s.1.2.2.map snR)], []⟩) (μ := fun s => N.length - s.1.1)
    ⟨(0, e2, []), by simp, hZ.symm, by simp⟩ ?_ ?_
    [6] [2] (S' := { z : Nat × List Sn // z.2 = Z }) (X := fun _ => 0)
    (frX := fun s => frOf 0 37 [(6, .oslc (.s 2) s.1.1 3 0 s.1.2.length false)])
    (hX := fun s => ⟨[.hole, .hole, .vec s.1.1 (s.1.2.map snR)], []⟩)
    [] [] (S2 := Empty) (frR := fun s => frOf 0 37 []) (hR := fun s => ⟨[], []⟩) ?_ ?_ ?_
  · exact rfl
  · exact rfl
  · rintro ⟨⟨j, e2, L⟩, hj, hu, hL⟩
    dsimp only at hj hu hL
    show aexR _ _ _ (frOf 0 37 [(4, snsA N), (6, .oslc (.s 2) e2 3 0 L.length false), (7, .int .i64 (j : Int))]) ⟨[.hole, .hole, .vec e2 (L.map snR)], []⟩ _
    by_cases g : j < N.length
    · have hm := mapR (f := snR) g
      have hb := hbd N[j] (List.getElem_mem g)
      rw [kept_cons _ g] at hu
      generalize N[j] = x at hm hu hb
      obtain ⟨xf, xt, xl⟩ := x
      dsimp only at hb
      have h2 := refConc28 xl (by omega) (fun y hy => by have := hb.2 y hy; omega)
      unfold conB at hu
      dsimp only at hu
      generalize rc xl = b at h2 hu
      clear hb
      have t1 : List.take L.length (List.drop 0 (L.map snR)) = L.map snR := by rw [List.drop_zero, List.take_of_length_le (by simp)]
      cases b with
      | false =>
        rw [if_neg (by simp), List.append_cons] at hu
        (repeat' (first | exact rfl | ((conv => whnf); first | refine optS hm ?_ | refine ⟨_, h2, ?_⟩ | exact rfl | exact ⟨rfl, rfl⟩ | refine ⟨(by kernel_rfl : drawOk _ _ _ _ = true), ?_⟩ | refine ⟨(by kernel_rfl : planOk _ _ _ _ = true), ?_⟩ | refine ⟨rfl, ?_⟩ | refine ⟨by (first | omega | (simp (disch := omega) only [wrapI]; omega) | (simp (disch := omega) only [wrapI]; simp; omega) | (simp; omega)), ?_⟩ | (intro ep) | (refine ifB (fun hb => ?_) (fun hb => ?_) <;> (try simp only [decide_eq_true_eq, decide_eq_false_iff_not, beq_iff_eq, beq_eq_false_iff_ne, bne_iff_ne, bne_eq_false_iff_eq, ne_eq, not_false_eq_true, not_true_eq_false, Bool.not_eq_true, Bool.not_eq_true', Bool.not_eq_false', Int.not_lt, Int.not_le] at hb) <;> (try simp (disch := omega) only [wrapI] at hb) <;> (try (exfalso; omega))) | fail)))
        all_goals (conv => whnf)
        refine back_of ⟨(j + 1, ep, L ++ [⟨xf, xt, xl⟩]), by dsimp only; omega, hu, by dsimp only; rw [List.length_append, List.length_singleton]; omega⟩ ⟨?_, ?_, by dsimp only; omega⟩
        · show maskF 0 _ _ = frOf 0 37 [(4, snsA N), (6, .oslc (.s 2) ep 3 0 (L ++ [(⟨xf, xt, xl⟩ : Sn)]).length false), (7, .int .i64 ((j + 1 : Nat) : Int))]
          rw [List.length_append, List.length_singleton]
          (first | exact rfl | (simp (disch := omega) only [wrapI]; exact rfl))
        · show maskH 0 _ _ = ⟨[.hole, .hole, .vec ep ((L ++ [(⟨xf, xt, xl⟩ : Sn)]).map snR)], []⟩
          have em : (L ++ [(⟨xf, xt, xl⟩ : Sn)]).map snR = List.take L.length (List.drop 0 (L.map snR)) ++ [[.int .i64 xf, .int .i64 xt, intsA xl]] := by rw [t1]; simp [snR]
          rw [em]
          (first | exact rfl | (simp (disch := omega) only [wrapI]; exact rfl))
      | true =>
        rw [if_pos rfl] at hu
        (repeat' (first | exact rfl | ((conv => whnf); first | refine optS hm ?_ | refine ⟨_, h2, ?_⟩ | exact rfl | exact ⟨rfl, rfl⟩ | refine ⟨(by kernel_rfl : drawOk _ _ _ _ = true), ?_⟩ | refine ⟨(by kernel_rfl : planOk _ _ _ _ = true), ?_⟩ | refine ⟨rfl, ?_⟩ | refine ⟨by (first | omega | (simp (disch := omega) only [wrapI]; omega) | (simp (disch := omega) only [wrapI]; simp; omega) | (simp; omega)), ?_⟩ | (intro ep) | (refine ifB (fun hb => ?_) (fun hb => ?_) <;> (try simp only [decide_eq_true_eq, decide_eq_false_iff_not, beq_iff_eq, beq_eq_false_iff_ne, bne_iff_ne, bne_eq_false_iff_eq, ne_eq, not_false_eq_true, not_true_eq_false, Bool.not_eq_true, Bool.not_eq_true', Bool.not_eq_false', Int.not_lt, Int.not_le] at hb) <;> (try simp (disch := omega) only [wrapI] at hb) <;> (try (exfalso; omega))) | fail)))
        all_goals (conv => whnf)
        all_goals exact back_of ⟨(j + 1, e2, L), by dsimp only; omega, hu, by dsimp only; omega⟩ ⟨by (first | exact rfl | (simp (disch := omega) only [wrapI]; exact rfl)), rfl, by dsimp only; omega⟩
    · have hj2 : j = N.length := by omega
      subst hj2
      rw [List.drop_length, show kept conB [] = [] from rfl, List.append_nil] at hu
      (repeat' (first | exact rfl | ((conv => whnf); first | exact rfl | exact ⟨rfl, rfl⟩ | refine ⟨(by kernel_rfl : drawOk _ _ _ _ = true), ?_⟩ | refine ⟨(by kernel_rfl : planOk _ _ _ _ = true), ?_⟩ | refine ⟨rfl, ?_⟩ | refine ⟨by (first | omega | (simp (disch := omega) only [wrapI]; omega) | (simp (disch := omega) only [wrapI]; simp; omega) | (simp; omega)), ?_⟩ | (intro ep) | (refine ifB (fun hb => ?_) (fun hb => ?_) <;> (try simp only [decide_eq_true_eq, decide_eq_false_iff_not, beq_iff_eq, beq_eq_false_iff_ne, bne_iff_ne, bne_eq_false_iff_eq, ne_eq, not_false_eq_true, not_true_eq_false, Bool.not_eq_true, Bool.not_eq_true', Bool.not_eq_false', Int.not_lt, Int.not_le] at hb) <;> (try simp (disch := omega) only [wrapI] at hb) <;> (try (exfalso; omega))) | fail)))
      all_goals (conv => whnf)
      all_goals exact back_of ⟨(e2, L), hu⟩ ⟨rfl, rfl, rfl⟩
  · rintro ⟨⟩
  · rintro ⟨⟨e2, L⟩, hz⟩
    dsimp only at hz
    subst hz
    (repeat' (first | exact rfl | ((conv => whnf); first | exact rfl | exact ⟨rfl, rfl⟩ | refine ⟨(by kernel_rfl : drawOk _ _ _ _ = true), ?_⟩ | refine ⟨(by kernel_rfl : planOk _ _ _ _ = true), ?_⟩ | refine ⟨rfl, ?_⟩ | refine ⟨by (first | omega | (simp (disch := omega) only [wrapI]; omega) | (simp (disch := omega) only [wrapI]; simp; omega) | (simp; omega)), ?_⟩ | (intro ep) | (refine ifB (fun hb => ?_) (fun hb => ?_) <;> (try simp only [decide_eq_true_eq, decide_eq_false_iff_not, beq_iff_eq, beq_eq_false_iff_ne, bne_iff_ne, bne_eq_false_iff_eq, ne_eq, not_false_eq_true, not_true_eq_false, Bool.not_eq_true, Bool.not_eq_true', Bool.not_eq_false', Int.not_lt, Int.not_le] at hb) <;> (try simp (disch := omega) only [wrapI] at hb) <;> (try (exfalso; omega))) | fail)))
    all_goals (conv => whnf)
    exact ⟨pure_sns L, rfl, rfl⟩
def A46 : Ann := fun _ => {}
theorem sameSon_nil : PRet C.P 46 [.nils, .nils] (.bool true) := by
  refine pret_of ok mixed (A := A46) 0 Try.func46 rfl ?_
  (repeat' (first | exact rfl | ((conv => whnf); first | exact rfl | exact ⟨rfl, rfl⟩ | refine ⟨(by kernel_rfl : drawOk _ _ _ _ = true), ?_⟩ | refine ⟨(by kernel_rfl : planOk _ _ _ _ = true), ?_⟩ | refine ⟨rfl, ?_⟩ | refine ⟨by (first | omega | (simp (disch := omega) only [wrapI]; omega) | (simp (disch := omega) only [wrapI]; simp; omega) | (simp; omega)), ?_⟩ | (intro ep) | refine loopU ok mixed (A := A46) 2 ?_ | (refine ifB (fun hb => ?_) (fun hb => ?_) <;> (try simp only [decide_eq_true_eq, decide_eq_false_iff_not, beq_iff_eq, beq_eq_false_iff_ne, bne_iff_ne, bne_eq_false_iff_eq, ne_eq, not_false_eq_true, not_true_eq_false, Bool.not_eq_true, Bool.not_eq_true', Bool.not_eq_false', Int.not_lt, Int.not_le] at hb) <;> (try simp (disch := omega) only [wrapI] at hb) <;> (try (exfalso; omega))) | fail)))
set_option maxHeartbeats 4000000 in
set_option maxRecDepth 100000 in
theorem sameSon_self (l : List Sn) (hn : l.length ≤ 100000) (hl : ∀ x ∈ l, x.l.length ≤ 100000) : PRet C.P 46 [snsA l, snsA l] (.bool true) := by
  refine pret_of ok mixed (A := A46) 0 Try.func46 rfl ?_
  (repeat' (first | exact rfl | ((conv => whnf); first | exact rfl | exact ⟨rfl, rfl⟩ | refine ⟨(by kernel_rfl : drawOk _ _ _ _ = true), ?_⟩ | refine ⟨(by kernel_rfl : planOk _ _ _ _ = true), ?_⟩ | refine ⟨rfl, ?_⟩ | refine ⟨by (first | omega | (simp (disch := omega) only [wrapI]; omega) | (simp (disch := omega) only [wrapI]; simp; omega) | (simp; omega)), ?_⟩ | (intro ep) | (refine ifB (fun hb => ?_) (fun hb => ?_) <;> (try simp only [decide_eq_true_eq, decide_eq_false_iff_not, beq_iff_eq, beq_eq_false_iff_ne, bne_iff_ne, bne_eq_false_iff_eq, ne_eq, not_false_eq_true, not_true_eq_false, Bool.not_eq_true, Bool.not_eq_true', Bool.not_eq_false', Int.not_lt, Int.not_le] at hb) <;> (try simp (disch := omega) only [wrapI] at hb) <;> (try (exfalso; omega))) | fail)))
  (conv => whnf)
  refine loopM ok mixed (A := A46) [0, 1, 5] [] (S := { k : Nat // k ≤ l.length })
    (fr := fun s => frOf 0 55 [(0, snsA l), (1, snsA l), (5, .int .i64 (s.1 : Int))])
    (h := fun s => ⟨[], []⟩) (μ := fun s => l.length - s.1) ⟨0, by omega⟩ rfl rfl ?_
  rintro ⟨k, hk⟩
  show aexR _ _ _ (frOf 0 55 [(0, snsA l), (1, snsA l), (5, .int .i64 (k : Int))]) ⟨[], []⟩ _
  (conv => whnf)
  refine ifB (fun h1 => ?_) (fun h1 => ?_)
  · simp only [decide_eq_true_eq] at h1
    have hm := mapR (f := snR) (show k < l.length by omega)
    have hx := hl l[k] (List.getElem_mem _)
    generalize l[k] = x at hm hx
    obtain ⟨a, b, c⟩ := x
    have hs := sameInts_self c hx
    (repeat' (first | exact rfl | ((conv => whnf); first | exact rfl | exact ⟨rfl, rfl⟩ | refine ⟨(by kernel_rfl : drawOk _ _ _ _ = true), ?_⟩ | refine ⟨(by kernel_rfl : planOk _ _ _ _ = true), ?_⟩ | refine ⟨rfl, ?_⟩ | refine ⟨by (first | omega | (simp (disch := omega) only [wrapI]; omega) | (simp (disch := omega) only [wrapI]; simp; omega) | (simp; omega)), ?_⟩ | (intro ep) | refine optS hm ?_ | refine ⟨_, hs, ?_⟩ | (refine ifB (fun hb => ?_) (fun hb => ?_) <;> (try simp only [decide_eq_true_eq, decide_eq_false_iff_not, beq_iff_eq, beq_eq_false_iff_ne, bne_iff_ne, bne_eq_false_iff_eq, ne_eq, not_false_eq_true, not_true_eq_false, Bool.not_eq_true, Bool.not_eq_true', Bool.not_eq_false', Int.not_lt, Int.not_le] at hb) <;> (try simp (disch := omega) only [wrapI] at hb) <;> (try (exfalso; omega))) | fail)))
    (conv => whnf)
    refine back_of ⟨k + 1, by omega⟩ ⟨by (first | exact rfl | (simp (disch := omega) only [wrapI]; exact rfl)), rfl, by simp only; omega⟩
  · simp only [decide_eq_false_iff_not] at h1
    (repeat' (first | exact rfl | ((conv => whnf); first | exact rfl | exact ⟨rfl, rfl⟩ | refine ⟨(by kernel_rfl : drawOk _ _ _ _ = true), ?_⟩ | refine ⟨(by kernel_rfl : planOk _ _ _ _ = true), ?_⟩ | refine ⟨rfl, ?_⟩ | refine ⟨by (first | omega | (simp (disch := omega) only [wrapI]; omega) | (simp (disch := omega) only [wrapI]; simp; omega) | (simp; omega)), ?_⟩ | (intro ep) | (refine ifB (fun hb => ?_) (fun hb => ?_) <;> (try simp only [decide_eq_true_eq, decide_eq_false_iff_not, beq_iff_eq, beq_eq_false_iff_ne, bne_iff_ne, bne_eq_false_iff_eq, ne_eq, not_false_eq_true, not_true_eq_false, Bool.not_eq_true, Bool.not_eq_true', Bool.not_eq_false', Int.not_lt, Int.not_le] at hb) <;> (try simp (disch := omega) only [wrapI] at hb) <;> (try (exfalso; omega))) | fail)))
def A13 : Ann := fun r => match r with
  | 0 => { slots := [(0, 0)] }
  | _ => {}
set_option maxHeartbeats 4000000 in
set_option maxRecDepth 100000 in
theorem law_sonorities (p : Pc) (hp : p.Ok) : ACalls C.P 13 [pcA p] Heap.nil fun r _ => r = .bool true := by
  have hb0 := long_spec p hp
  cases hb : longB p with
  | true =>
    rw [hb] at hb0
    refine fn_of ok mixed (A := A13) 1 Try.func13 rfl ?_
    (repeat' (first | exact rfl | ((conv => whnf); first | refine ⟨_, works_spec, ?_⟩ | refine ⟨_, hb0, ?_⟩ | exact rfl | exact ⟨rfl, rfl⟩ | refine ⟨(by kernel_rfl : drawOk _ _ _ _ = true), ?_⟩ | refine ⟨(by kernel_rfl : planOk _ _ _ _ = true), ?_⟩ | refine ⟨rfl, ?_⟩ | refine ⟨by (first | omega | (simp (disch := omega) only [wrapI]; omega) | (simp (disch := omega) only [wrapI]; simp; omega) | (simp; omega)), ?_⟩ | (intro ep) | (refine ifB (fun hb => ?_) (fun hb => ?_) <;> (try simp only [decide_eq_true_eq, decide_eq_false_iff_not, beq_iff_eq, beq_eq_false_iff_ne, bne_iff_ne, bne_eq_false_iff_eq, ne_eq, not_false_eq_true, not_true_eq_false, Bool.not_eq_true, Bool.not_eq_true', Bool.not_eq_false', Int.not_lt, Int.not_le] at hb) <;> (try simp (disch := omega) only [wrapI] at hb) <;> (try (exfalso; omega))) | fail)))
  | false =>
    have hs := Pc.Sm.of_big (longB_no hb).1
    have hcp := copy_spec p hs
    rw [hb] at hb0
    have h1 := son41 p hp
    have h2 := refSon43 p hp hs
    have h3 := clashes44 p hp
    have h4 := refClashes45 p hp hs
    unfold sonV at h1 h2
    unfold clV at h3 h4
    by_cases hc : chk p = 0
    · rw [if_pos hc] at h1 h2 h3 h4
      have hln := son_len (vp hc)
      have hlb := fun x (hx : x ∈ sonL p) => (son_bd hx).1
      have h5 := sameSon_self (sonL p) (by omega) (fun x hx => by have := hlb x hx; omega)
      have h6 := sameSon_self (clL p) (by have := List.length_filter_le (fun x => !conB x) (sonL p); unfold clL kept; omega) (fun x hx => by
        have := hlb x ((List.mem_filter.1 hx).1); omega)
      generalize sonL p = N at h1 h2 h5
      generalize clL p = M at h3 h4 h6
      refine fn_of ok mixed (A := A13) 1 Try.func13 rfl ?_
      (repeat' (first | exact rfl | ((conv => whnf); first | refine ⟨_, works_spec, ?_⟩ | refine ⟨_, hb0, ?_⟩ | refine ⟨_, hcp, ?_⟩ | refine ⟨_, h1, ?_⟩ | refine ⟨_, h2, ?_⟩ | refine ⟨_, h3, ?_⟩ | refine ⟨_, h4, ?_⟩ | refine ⟨_, h5, ?_⟩ | refine ⟨_, h6, ?_⟩ | exact rfl | exact ⟨rfl, rfl⟩ | refine ⟨(by kernel_rfl : drawOk _ _ _ _ = true), ?_⟩ | refine ⟨(by kernel_rfl : planOk _ _ _ _ = true), ?_⟩ | refine ⟨rfl, ?_⟩ | refine ⟨by (first | omega | (simp (disch := omega) only [wrapI]; omega) | (simp (disch := omega) only [wrapI]; simp; omega) | (simp; omega)), ?_⟩ | (intro ep) | (refine ifB (fun hb => ?_) (fun hb => ?_) <;> (try simp only [decide_eq_true_eq, decide_eq_false_iff_not, beq_iff_eq, beq_eq_false_iff_ne, bne_iff_ne, bne_eq_false_iff_eq, ne_eq, not_false_eq_true, not_true_eq_false, Bool.not_eq_true, Bool.not_eq_true', Bool.not_eq_false', Int.not_lt, Int.not_le] at hb) <;> (try simp (disch := omega) only [wrapI] at hb) <;> (try (exfalso; omega))) | fail)))
    · rw [if_neg hc] at h1 h2 h3 h4
      have h5 := sameSon_nil
      have h6 := True.intro
      generalize chk p = e at h1 h2 h3 h4
      refine fn_of ok mixed (A := A13) 1 Try.func13 rfl ?_
      (repeat' (first | exact rfl | ((conv => whnf); first | refine ⟨_, works_spec, ?_⟩ | refine ⟨_, hb0, ?_⟩ | refine ⟨_, hcp, ?_⟩ | refine ⟨_, h1, ?_⟩ | refine ⟨_, h2, ?_⟩ | refine ⟨_, h3, ?_⟩ | refine ⟨_, h4, ?_⟩ | refine ⟨_, h5, ?_⟩ | refine ⟨_, h6, ?_⟩ | exact rfl | exact ⟨rfl, rfl⟩ | refine ⟨(by kernel_rfl : drawOk _ _ _ _ = true), ?_⟩ | refine ⟨(by kernel_rfl : planOk _ _ _ _ = true), ?_⟩ | refine ⟨rfl, ?_⟩ | refine ⟨by (first | omega | (simp (disch := omega) only [wrapI]; omega) | (simp (disch := omega) only [wrapI]; simp; omega) | (simp; omega)), ?_⟩ | (intro ep) | (refine ifB (fun hb => ?_) (fun hb => ?_) <;> (try simp only [decide_eq_true_eq, decide_eq_false_iff_not, beq_iff_eq, beq_eq_false_iff_ne, bne_iff_ne, bne_eq_false_iff_eq, ne_eq, not_false_eq_true, not_true_eq_false, Bool.not_eq_true, Bool.not_eq_true', Bool.not_eq_false', Int.not_lt, Int.not_le] at hb) <;> (try simp (disch := omega) only [wrapI] at hb) <;> (try (exfalso; omega))) | fail)))
end Go.Ab.V
