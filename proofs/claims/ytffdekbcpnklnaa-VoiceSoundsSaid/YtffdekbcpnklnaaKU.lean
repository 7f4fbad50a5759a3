/-
  What is proved here serves the law's text: each part says its own claim and its conditions. No condition is left open.
-/
import Derived.Test.YtffdekbcpnklnaaKS
import Derived.Test.YtffdekbcpnklnaaKT
import Derived.Test.YtffdekbcpnklnaaKN
import Derived.Test.YtffdekbcpnklnaaKR
import Derived.Test.YtffdekbcpnklnaaKO
set_option linter.unusedSimpArgs false
set_option linter.unusedVariables false

/-
  The library's sort of tones by the program's order, as a call in abstract terms. No condition but the lengths.
-/
namespace Go.Ab.V
open Go.Proofs Go.Sort

def encT (x : Tn) : List Value := [.int .i64 x.p, .int .i64 x.f, .int .i64 x.t]
theorem ltOf3 : (Go.Proofs.ltOf cmp3) = bef := by funext x y; exact cmp3_lt x y
theorem sortF62 {h : Heap} {id : Id} {ep : Nat} {zs : List Tn} (ho : h[id]? = some (.vec ep (zs.map tnR))) (hl : zs.length < 4611686018427387904) :
    ACalls C.P 62 [.oslc id ep 3 0 zs.length false, .fn (.func 63) [] []] h fun r h' => r = .tup [] ∧ h' = h.set id (.vec ep ((sortT zs).map tnR)) := by
  refine sortF_acalls (P := Try.prog) (f := 62) (g := 63) (R := tnR) (E := encT) (k := 3) (srt := sortT) sortT_len (fun _ => rfl) (fun σ x j c v hc hv => ?_) (fun σ x j c hc => ?_) (fun blk off cap zs w hH hb hz => ?_) (fun p cap w => ?_) ho hl
  · obtain ⟨a, b, d⟩ := x
    match j, hc with
    | 0, hc => cases hc; cases hv; rfl
    | 1, hc => cases hc; cases hv; rfl
    | 2, hc => cases hc; cases hv; rfl
    | j + 3, hc => simp [tnR] at hc
  · obtain ⟨a, b, d⟩ := x
    match j, hc with
    | 0, hc => cases hc; exact ⟨_, rfl, rfl, .int⟩
    | 1, hc => cases hc; exact ⟨_, rfl, rfl, .int⟩
    | 2, hc => cases hc; exact ⟨_, rfl, rfl, .int⟩
    | j + 3, hc => simp [tnR] at hc
  · have eg : ∀ args w, (callFunc 63 args).run Try.prog w = .ok (.enter 63 args) w := enters_of Try.func63 (by kernel_rfl) rfl
    have hcon := AnyQ.slices_SortFunc_total Try.laysSortF 3 Try.isAgg83 Try.sizeOf83 encT (fun _ => rfl) (fun x v hv => by simp [encT] at hv; rcases hv with rfl | rfl | rfl <;> rfl) cmp3 (by rw [ltOf3]; exact bef_swo) 63 #[] blk off cap zs.toArray w eg
      (fun m os dk _ x y => order63 x y _) hH hb (by simpa using hz) (fun x y h1 h2 => by rw [ltOf3] at h1 h2; exact bef_tot h1 h2)
    rw [ltOf3] at hcon
    change Calls Try.prog 62 _ _ _ at hcon
    refine (show Calls Try.prog 62 #[.slice (some ⟨blk, off, none⟩) zs.length cap, .func (.func 63) #[] #[]] w _ from hcon).mono ?_
    rintro e w' ⟨rfl, n, os, rfl⟩
    exact ⟨rfl, n, os, rfl⟩
  · have hcon := AnyF.slices_SortFunc_none Try.laysSortF p cap (.func (.func 63) #[] #[]) w
    exact hcon
end Go.Ab.V

/-
  Sounds: the program's function. No condition but the lengths.
-/
namespace Go.Ab.V
open Go.Proofs

def soundsV (P : List (List Tn)) : AV := if chkP P ≠ 0 then .tup [.nils, .int .i64 (chkP P)] else .tup [tnsA (sortT P.flatten), .int .i64 0]
theorem tot_le : ∀ {P : List (List Tn)}, (∀ p ∈ P, p.length ≤ 400) → tot P ≤ 400 * P.length
  | [], _ => by simp [tot]
  | p :: r, h => by
    have h1 := h p (by simp)
    have h2 := tot_le (P := r) fun q hq => h q (List.mem_cons_of_mem _ hq)
    simp only [tot, List.length_cons]
    omega
theorem chkP_tot {P : List (List Tn)} (h : chkP P = 0) : P.length ≤ 6 ∧ tot P ≤ 2400 := by
  unfold chkP at h
  split at h
  · omega
  rename_i h6
  split at h
  · omega
  rename_i hb
  have : ∀ p ∈ P, p.length ≤ 400 := fun p hp => by
    simp only [anyB, Bool.not_eq_true, List.any_eq_false, decide_eq_true_eq] at hb
    have := hb p hp
    omega
  have := tot_le this
  omega
def A33 : Ann := fun _ => {}
set_option maxHeartbeats 8000000 in
set_option maxRecDepth 100000 in
theorem sounds33 (P : List (List Tn)) (hl : P.length ≤ 9223372036854775807) (hp : ∀ p ∈ P, p.length ≤ 9223372036854775807) : PRet C.P 33 [prtsA P] (soundsV P) := by
  have h1 := checkParts_spec P hl hp
  unfold soundsV
  by_cases c1 : chkP P ≠ 0
  · rw [if_pos c1]
    generalize chkP P = b at h1 c1
    refine pret_of ok mixed (A := A33) 0 Try.func33 rfl ?_
    (repeat' (first | exact rfl | ((conv => whnf); first | refine ⟨_, h1, ?_⟩ | exact rfl | exact ⟨rfl, rfl⟩ | refine ⟨(by kernel_rfl : drawOk _ _ _ _ = true), ?_⟩ | refine ⟨(by kernel_rfl : planOk _ _ _ _ = true), ?_⟩ | refine ⟨rfl, ?_⟩ | refine ⟨by (first | omega | (simp (disch := omega) only [wrapI]; omega) | (simp (disch := omega) only [wrapI]; simp; omega) | (simp; omega)), ?_⟩ | (intro ep) | (refine ifB (fun hb => ?_) (fun hb => ?_) <;> (try simp only [decide_eq_true_eq, decide_eq_false_iff_not, beq_iff_eq, beq_eq_false_iff_ne, bne_iff_ne, bne_eq_false_iff_eq, ne_eq, not_false_eq_true, not_true_eq_false, Bool.not_eq_true, Bool.not_eq_true', Bool.not_eq_false', Int.not_lt, Int.not_le] at hb) <;> (try simp (disch := omega) only [wrapI] at hb) <;> (try (exfalso; omega))) | fail)))
  rw [if_neg c1]
  have c1 : chkP P = 0 := by omega
  rw [c1] at h1
  obtain ⟨h6, ht⟩ := chkP_tot c1
  have hc := concat61 P (by omega) (by omega)
  have hf := tot_flat P
  rw [← hf] at hc ht
  obtain ⟨zs, hz⟩ : ∃ zs, zs = P.flatten := ⟨_, rfl⟩
  rw [← hz] at hc ht ⊢
  have hsl := sortT_len zs
  refine pretD_of (okx [61] [62]) mixed (A := A33) 0 Try.func33 rfl ?_
  (repeat' (first | exact rfl | ((conv => whnf); first | refine ⟨_, h1, ?_⟩ | (refine ⟨_, _, hc, ?_⟩; intro eps) | exact rfl | exact ⟨rfl, rfl⟩ | refine ⟨(by kernel_rfl : drawOk _ _ _ _ = true), ?_⟩ | refine ⟨(by kernel_rfl : planOk _ _ _ _ = true), ?_⟩ | refine ⟨rfl, ?_⟩ | refine ⟨by (first | omega | (simp (disch := omega) only [wrapI]; omega) | (simp (disch := omega) only [wrapI]; simp; omega) | (simp; omega)), ?_⟩ | (intro ep) | (refine ifB (fun hb => ?_) (fun hb => ?_) <;> (try simp only [decide_eq_true_eq, decide_eq_false_iff_not, beq_iff_eq, beq_eq_false_iff_ne, bne_iff_ne, bne_eq_false_iff_eq, ne_eq, not_false_eq_true, not_true_eq_false, Bool.not_eq_true, Bool.not_eq_true', Bool.not_eq_false', Int.not_lt, Int.not_le] at hb) <;> (try simp (disch := omega) only [wrapI] at hb) <;> (try (exfalso; omega))) | fail)))
  all_goals (conv => whnf)
  refine (sortF62 (zs := zs) (id := .d 0) (ep := eps 0) rfl (by omega)).mono ?_
  rintro r h' ⟨rfl, rfl⟩
  (repeat' (first | exact rfl | ((conv => whnf); first | exact rfl | exact ⟨rfl, rfl⟩ | refine ⟨(by kernel_rfl : drawOk _ _ _ _ = true), ?_⟩ | refine ⟨(by kernel_rfl : planOk _ _ _ _ = true), ?_⟩ | refine ⟨rfl, ?_⟩ | refine ⟨by (first | omega | (simp (disch := omega) only [wrapI]; omega) | (simp (disch := omega) only [wrapI]; simp; omega) | (simp; omega)), ?_⟩ | (intro ep) | (refine ifB (fun hb => ?_) (fun hb => ?_) <;> (try simp only [decide_eq_true_eq, decide_eq_false_iff_not, beq_iff_eq, beq_eq_false_iff_ne, bne_iff_ne, bne_eq_false_iff_eq, ne_eq, not_false_eq_true, not_true_eq_false, Bool.not_eq_true, Bool.not_eq_true', Bool.not_eq_false', Int.not_lt, Int.not_le] at hb) <;> (try simp (disch := omega) only [wrapI] at hb) <;> (try (exfalso; omega))) | fail)))
  all_goals (conv => whnf)
  rw [← hsl]
  refine ⟨fun o ho => ?_, ?_⟩
  · replace ho : o ∈ [AObj.vec (eps 0) ((sortT zs).map tnR)] := ho
    simp only [List.mem_singleton] at ho
    subst ho
    exact pure_map (sortT zs) fun x => rfl
  · have hz : fzC [AObj.vec (eps 0) ((sortT zs).map tnR)] (.oslc (.d 0) (eps 0) 3 0 (sortT zs).length false) = .lslc 3 ((sortT zs).map tnR) 0 (sortT zs).length false := by simp [fzC]
    show frzK ⟨[], []⟩ (.tup [fzC [AObj.vec (eps 0) ((sortT zs).map tnR)] (.oslc (.d 0) (eps 0) 3 0 (sortT zs).length false), .int .i64 0]) _
    rw [hz]
    (conv => whnf)
    exact ⟨rfl, rfl⟩
end Go.Ab.V

/-
  Sounds, as the document says it. No condition but the lengths.
-/
namespace Go.Ab.V
open Go.Proofs

def A64 : Ann := fun r => match r with
  | 0 => { slots := [(0, 0), (1, 1)] }
  | _ => {}
set_option maxHeartbeats 2000000 in
theorem before64 (x y : Tn) : PRet C.P 64 [.agg (tnR x), .agg (tnR y)] (.bool (bef x y)) := by
  obtain ⟨xp, xf, xt⟩ := x
  obtain ⟨yp, yf, yt⟩ := y
  by_cases c1 : xf = yf
  · by_cases c2 : xp = yp
    · refine pret_of ok mixed (A := A64) 2 Try.func64 rfl ?_
      (repeat' (first | exact rfl | ((conv => whnf); first | exact rfl | exact ⟨rfl, rfl⟩ | refine ⟨(by kernel_rfl : drawOk _ _ _ _ = true), ?_⟩ | refine ⟨(by kernel_rfl : planOk _ _ _ _ = true), ?_⟩ | refine ⟨rfl, ?_⟩ | refine ⟨by (first | omega | (simp (disch := omega) only [wrapI]; omega) | (simp (disch := omega) only [wrapI]; simp; omega) | (simp; omega)), ?_⟩ | (intro ep) | (refine ifB (fun hb => ?_) (fun hb => ?_) <;> (try simp only [decide_eq_true_eq, decide_eq_false_iff_not, beq_iff_eq, beq_eq_false_iff_ne, bne_iff_ne, bne_eq_false_iff_eq, ne_eq, not_false_eq_true, not_true_eq_false, Bool.not_eq_true, Bool.not_eq_true', Bool.not_eq_false', Int.not_lt, Int.not_le] at hb) <;> (try simp (disch := omega) only [wrapI] at hb) <;> (try (exfalso; omega))) | fail)))
      all_goals (conv => whnf)
      all_goals (unfold bef; simp [c1, c2])
    · refine pret_of ok mixed (A := A64) 2 Try.func64 rfl ?_
      (repeat' (first | exact rfl | ((conv => whnf); first | exact rfl | exact ⟨rfl, rfl⟩ | refine ⟨(by kernel_rfl : drawOk _ _ _ _ = true), ?_⟩ | refine ⟨(by kernel_rfl : planOk _ _ _ _ = true), ?_⟩ | refine ⟨rfl, ?_⟩ | refine ⟨by (first | omega | (simp (disch := omega) only [wrapI]; omega) | (simp (disch := omega) only [wrapI]; simp; omega) | (simp; omega)), ?_⟩ | (intro ep) | (refine ifB (fun hb => ?_) (fun hb => ?_) <;> (try simp only [decide_eq_true_eq, decide_eq_false_iff_not, beq_iff_eq, beq_eq_false_iff_ne, bne_iff_ne, bne_eq_false_iff_eq, ne_eq, not_false_eq_true, not_true_eq_false, Bool.not_eq_true, Bool.not_eq_true', Bool.not_eq_false', Int.not_lt, Int.not_le] at hb) <;> (try simp (disch := omega) only [wrapI] at hb) <;> (try (exfalso; omega))) | fail)))
      all_goals (conv => whnf)
      all_goals (unfold bef; simp [c1, c2])
  · refine pret_of ok mixed (A := A64) 2 Try.func64 rfl ?_
    (repeat' (first | exact rfl | ((conv => whnf); first | exact rfl | exact ⟨rfl, rfl⟩ | refine ⟨(by kernel_rfl : drawOk _ _ _ _ = true), ?_⟩ | refine ⟨(by kernel_rfl : planOk _ _ _ _ = true), ?_⟩ | refine ⟨rfl, ?_⟩ | refine ⟨by (first | omega | (simp (disch := omega) only [wrapI]; omega) | (simp (disch := omega) only [wrapI]; simp; omega) | (simp; omega)), ?_⟩ | (intro ep) | (refine ifB (fun hb => ?_) (fun hb => ?_) <;> (try simp only [decide_eq_true_eq, decide_eq_false_iff_not, beq_iff_eq, beq_eq_false_iff_ne, bne_iff_ne, bne_eq_false_iff_eq, ne_eq, not_false_eq_true, not_true_eq_false, Bool.not_eq_true, Bool.not_eq_true', Bool.not_eq_false', Int.not_lt, Int.not_le] at hb) <;> (try simp (disch := omega) only [wrapI] at hb) <;> (try (exfalso; omega))) | fail)))
    all_goals (conv => whnf)
    all_goals (unfold bef; simp [c1])
theorem swap_rows {c : List Tn} {j : Nat} (h : j + 1 < c.length) {a b : Tn} (ha : c[j] = a) (hb : c[j + 1] = b) : ((c.map tnR).set (j + 1) (tnR a)).set j (tnR b) = (((c.set (j + 1) (c.getD j tz)).set j (c.getD (j + 1) tz)).map tnR) := by
  have h1 : c.getD j tz = a := by rw [List.getD_eq_getElem?_getD, List.getElem?_eq_getElem (by omega)]; exact ha
  have h2 : c.getD (j + 1) tz = b := by rw [List.getD_eq_getElem?_getD, List.getElem?_eq_getElem h]; exact hb
  rw [h1, h2, List.map_set, List.map_set]
theorem bub_succ {c : List Tn} {j : Nat} (h : j + 1 < c.length) : bub (j + 1) c = if bef c[j + 1] c[j] = true then bub j ((c.set (j + 1) (c.getD j tz)).set j (c.getD (j + 1) tz)) else c := by
  rw [bub]
  have h1 : c.getD j tz = c[j] := by rw [List.getD_eq_getElem?_getD, List.getElem?_eq_getElem (by omega)]; rfl
  have h2 : c.getD (j + 1) tz = c[j + 1] := by rw [List.getD_eq_getElem?_getD, List.getElem?_eq_getElem h]; rfl
  rw [h1, h2]
def A34 : Ann := fun r => match r with
  | 11 => { slots := [(8, 0), (9, 1)] }
  | _ => {}
set_option maxHeartbeats 16000000 in
set_option maxRecDepth 100000 in
theorem refSounds34 (P : List (List Tn)) (hl : P.length ≤ 9223372036854775807) (hp : ∀ p ∈ P, p.length ≤ 9223372036854775807) : PRet C.P 34 [prtsA P] (soundsV P) := by
  have h1 := refCheckParts_spec P hl hp
  unfold soundsV
  by_cases c1 : chkP P ≠ 0
  · rw [if_pos c1]
    generalize chkP P = b at h1 c1
    refine pret_of ok mixed (A := A34) 2 Try.func34 rfl ?_
    (repeat' (first | exact rfl | ((conv => whnf); first | refine ⟨_, h1, ?_⟩ | exact rfl | exact ⟨rfl, rfl⟩ | refine ⟨(by kernel_rfl : drawOk _ _ _ _ = true), ?_⟩ | refine ⟨(by kernel_rfl : planOk _ _ _ _ = true), ?_⟩ | refine ⟨rfl, ?_⟩ | refine ⟨by (first | omega | (simp (disch := omega) only [wrapI]; omega) | (simp (disch := omega) only [wrapI]; simp; omega) | (simp; omega)), ?_⟩ | (intro ep) | (refine ifB (fun hb => ?_) (fun hb => ?_) <;> (try simp only [decide_eq_true_eq, decide_eq_false_iff_not, beq_iff_eq, beq_eq_false_iff_ne, bne_iff_ne, bne_eq_false_iff_eq, ne_eq, not_false_eq_true, not_true_eq_false, Bool.not_eq_true, Bool.not_eq_true', Bool.not_eq_false', Int.not_lt, Int.not_le] at hb) <;> (try simp (disch := omega) only [wrapI] at hb) <;> (try (exfalso; omega))) | fail)))
  rw [if_neg c1]
  have c1 : chkP P = 0 := by omega
  rw [c1] at h1
  obtain ⟨h6, ht⟩ := chkP_tot c1
  obtain ⟨R, hR⟩ : ∃ R, R = sortT P.flatten := ⟨_, rfl⟩
  rw [← hR]
  rw [← insL_sort] at hR
  refine pret_of ok mixed (A := A34) 2 Try.func34 rfl ?_
  (repeat' (first | exact rfl | ((conv => whnf); first | refine ⟨_, h1, ?_⟩ | exact rfl | exact ⟨rfl, rfl⟩ | refine ⟨(by kernel_rfl : drawOk _ _ _ _ = true), ?_⟩ | refine ⟨(by kernel_rfl : planOk _ _ _ _ = true), ?_⟩ | refine ⟨rfl, ?_⟩ | refine ⟨by (first | omega | (simp (disch := omega) only [wrapI]; omega) | (simp (disch := omega) only [wrapI]; simp; omega) | (simp; omega)), ?_⟩ | (intro ep) | (refine ifB (fun hb => ?_) (fun hb => ?_) <;> (try simp only [decide_eq_true_eq, decide_eq_false_iff_not, beq_iff_eq, beq_eq_false_iff_ne, bne_iff_ne, bne_eq_false_iff_eq, ne_eq, not_false_eq_true, not_true_eq_false, Bool.not_eq_true, Bool.not_eq_true', Bool.not_eq_false', Int.not_lt, Int.not_le] at hb) <;> (try simp (disch := omega) only [wrapI] at hb) <;> (try (exfalso; omega))) | fail)))
  all_goals (conv => whnf)
  refine wk_lift 5 1 3 rfl ?_
  intro e1
  refine loopY ok mixed (A := A34) [0, 5, 6] [1] (S := { z : Nat × Nat × List Tn // z.1 ≤ P.length ∧ z.2.2.length + tot (P.drop z.1) ≤ 2400 ∧ insL z.2.2 (P.drop z.1).flatten = R })
    (fr := fun s => frOf 0 75 [(0, prtsA P), (5, .oslc (.s 1) s.1.2.1 3 0 s.1.2.2.length false), (6, .int .i64 (s.1.1 : Int))])
    (h := fun s => ⟨[.hole, .vec s.1.2.1 (s.1.2.2.map tnR)], []⟩) (μ := fun s => P.length - s.1.1) ⟨(0, e1, []), Nat.zero_le _, by simpa using ht, by simp [hR]⟩ ?_ ?_
    [5] [1] (S' := Nat) (X := fun _ => 0) (frX := fun s => frOf 0 75 [(5, .oslc (.s 1) s 3 0 R.length false)]) (hX := fun s => ⟨[.hole, .vec s (R.map tnR)], []⟩)
    [] [] (S2 := Empty) (frR := fun s => frOf 0 75 []) (hR := fun s => ⟨[], []⟩) ?_ ?_ ?_
  · exact rfl
  · exact rfl
  · rintro ⟨⟨i, e, a⟩, hi, hb, hu⟩
    simp only at hi hb hu
    show aexR _ _ _ (frOf 0 75 [(0, prtsA P), (5, .oslc (.s 1) e 3 0 a.length false), (6, .int .i64 (i : Int))]) ⟨[.hole, .vec e (a.map tnR)], []⟩ _
    (conv => whnf)
    refine ifB (fun g1 => ?_) (fun g1 => ?_)
    · simp only [decide_eq_true_eq] at g1
      have hi2 : i < P.length := by omega
      have hm1 := mapR (f := fun p => [tnsA p]) hi2
      rw [List.drop_eq_getElem_cons hi2, List.flatten_cons, insL_app] at hu
      rw [List.drop_eq_getElem_cons hi2, tot] at hb
      generalize P[i] = p at hm1 hu hb
      obtain ⟨M, hM⟩ : ∃ M, M = insL a p := ⟨_, rfl⟩
      have hMl : M.length = a.length + p.length := by rw [hM, insL_len]
      rw [← hM] at hu
      have hm2 : True := trivial
      have hbf : True := trivial
      (repeat' (first | exact rfl | ((conv => whnf); first | refine optS hm1 ?_ | refine optS hm2 ?_ | refine PRet.calls hbf ?_ | exact rfl | exact ⟨rfl, rfl⟩ | refine ⟨(by kernel_rfl : drawOk _ _ _ _ = true), ?_⟩ | refine ⟨(by kernel_rfl : planOk _ _ _ _ = true), ?_⟩ | refine ⟨rfl, ?_⟩ | refine ⟨by (first | omega | (simp (disch := omega) only [wrapI]; omega) | (simp (disch := omega) only [wrapI]; simp; omega) | (simp; omega)), ?_⟩ | (intro ep) | (refine ifB (fun hb => ?_) (fun hb => ?_) <;> (try simp only [decide_eq_true_eq, decide_eq_false_iff_not, beq_iff_eq, beq_eq_false_iff_ne, bne_iff_ne, bne_eq_false_iff_eq, ne_eq, not_false_eq_true, not_true_eq_false, Bool.not_eq_true, Bool.not_eq_true', Bool.not_eq_false', Int.not_lt, Int.not_le] at hb) <;> (try simp (disch := omega) only [wrapI] at hb) <;> (try (exfalso; omega))) | fail)))
      all_goals (conv => whnf)
      refine loopY ok mixed (A := A34) [0, 5, 6, 7] [1] (S := { z : Nat × Nat × List Tn // z.1 ≤ p.length ∧ z.2.2.length = a.length + z.1 ∧ insL z.2.2 (p.drop z.1) = M })
        (fr := fun s => frOf 0 75 [(0, prtsA P), (5, .oslc (.s 1) s.1.2.1 3 0 s.1.2.2.length false), (6, .int .i64 (i : Int)), (7, .int .i64 (s.1.1 : Int))])
        (h := fun s => ⟨[.hole, .vec s.1.2.1 (s.1.2.2.map tnR)], []⟩) (μ := fun s => p.length - s.1.1) ⟨(0, e, a), Nat.zero_le _, by simp, by simp [hM]⟩ ?_ ?_
        [0, 5, 6] [1] (S' := Nat) (X := fun _ => 2) (frX := fun s => frOf 0 75 [(0, prtsA P), (5, .oslc (.s 1) s 3 0 M.length false), (6, .int .i64 (i : Int))]) (hX := fun s => ⟨[.hole, .vec s (M.map tnR)], []⟩)
        [] [] (S2 := Empty) (frR := fun s => frOf 0 75 []) (hR := fun s => ⟨[], []⟩) ?_ ?_ ?_
      · exact rfl
      · exact rfl
      · rintro ⟨⟨k, e', b⟩, hk, hbl, hv⟩
        simp only at hk hbl hv
        show aexR _ _ _ (frOf 0 75 [(0, prtsA P), (5, .oslc (.s 1) e' 3 0 b.length false), (6, .int .i64 (i : Int)), (7, .int .i64 (k : Int))]) ⟨[.hole, .vec e' (b.map tnR)], []⟩ _
        (repeat' (first | exact rfl | ((conv => whnf); first | refine optS hm1 ?_ | exact rfl | exact ⟨rfl, rfl⟩ | refine ⟨(by kernel_rfl : drawOk _ _ _ _ = true), ?_⟩ | refine ⟨(by kernel_rfl : planOk _ _ _ _ = true), ?_⟩ | refine ⟨rfl, ?_⟩ | refine ⟨by (first | omega | (simp (disch := omega) only [wrapI]; omega) | (simp (disch := omega) only [wrapI]; simp; omega) | (simp; omega)), ?_⟩ | (intro ep) | fail)))
        all_goals (conv => whnf)
        refine ifB (fun g2 => ?_) (fun g2 => ?_)
        · simp only [decide_eq_true_eq] at g2
          have hk2 : k < p.length := by omega
          have hm2 := mapR (f := tnR) hk2
          rw [List.drop_eq_getElem_cons hk2] at hv
          generalize p[k] = x at hm2 hv
          replace hv : insL (ins b x) (p.drop (k + 1)) = M := hv
          have hil := ins_len b x
          obtain ⟨Q, hQ⟩ : ∃ Q, Q = ins b x := ⟨_, rfl⟩
          rw [← hQ] at hv hil
          unfold ins at hQ
          have hw1 : IntKind.i64.wrap ((b.length : Int) + 1 - 1) = (b.length : Int) := by rw [wrapI (by omega) (by omega)]; omega
          (repeat' (first | exact rfl | ((conv => whnf); first | refine optS hm1 ?_ | refine optS hm2 ?_ | exact rfl | exact ⟨rfl, rfl⟩ | refine ⟨(by kernel_rfl : drawOk _ _ _ _ = true), ?_⟩ | refine ⟨(by kernel_rfl : planOk _ _ _ _ = true), ?_⟩ | refine ⟨rfl, ?_⟩ | refine ⟨by (first | omega | (simp (disch := omega) only [wrapI]; omega) | (simp (disch := omega) only [wrapI]; simp; omega) | (simp; omega)), ?_⟩ | (intro ep) | (refine ifB (fun hb => ?_) (fun hb => ?_) <;> (try simp only [decide_eq_true_eq, decide_eq_false_iff_not, beq_iff_eq, beq_eq_false_iff_ne, bne_iff_ne, bne_eq_false_iff_eq, ne_eq, not_false_eq_true, not_true_eq_false, Bool.not_eq_true, Bool.not_eq_true', Bool.not_eq_false', Int.not_lt, Int.not_le] at hb) <;> (try simp (disch := omega) only [wrapI] at hb) <;> (try (exfalso; omega))) | fail)))
          all_goals (conv => whnf)
          refine loopY ok mixed (A := A34) [0, 5, 6, 7, 8] [1] (S := { z : Nat × List Tn // z.1 ≤ b.length ∧ z.2.length = b.length + 1 ∧ bub z.1 z.2 = Q })
            (fr := fun s => frOf 0 75 [(0, prtsA P), (5, .oslc (.s 1) ep 3 0 (b.length + 1) false), (6, .int .i64 (i : Int)), (7, .int .i64 (k : Int)), (8, .int .i64 (s.1.1 : Int))])
            (h := fun s => ⟨[.hole, .vec ep (s.1.2.map tnR)], []⟩) (μ := fun s => s.1.1) ⟨(b.length, b ++ [x]), by simp, by simp, hQ.symm⟩ ?_ ?_
            [0, 5, 6, 7] [1] (S' := Unit) (X := fun _ => 4) (frX := fun s => frOf 0 75 [(0, prtsA P), (5, .oslc (.s 1) ep 3 0 (b.length + 1) false), (6, .int .i64 (i : Int)), (7, .int .i64 (k : Int))]) (hX := fun s => ⟨[.hole, .vec ep (Q.map tnR)], []⟩)
            [] [] (S2 := Empty) (frR := fun s => frOf 0 75 []) (hR := fun s => ⟨[], []⟩) ?_ ?_ ?_
          · show maskF 0 _ _ = frOf 0 75 [(0, prtsA P), (5, .oslc (.s 1) ep 3 0 (b.length + 1) false), (6, .int .i64 (i : Int)), (7, .int .i64 (k : Int)), (8, .int .i64 (b.length : Int))]
            have hw2 : IntKind.i64.wrap (((b.length + 1 : Nat) : Int) - 1) = (b.length : Int) := by rw [wrapI (by omega) (by omega)]; omega
            rw [← hw2]
            exact rfl
          · show _ = (⟨[.hole, .vec ep ((b ++ [x]).map tnR)], []⟩ : Heap)
            have t3 : List.take b.length (List.drop 0 (b.map tnR)) = b.map tnR := by rw [List.drop_zero, List.take_of_length_le (by simp)]
            rw [show (b ++ [x]).map tnR = List.take b.length (List.drop 0 (b.map tnR)) ++ [tnR x] by rw [t3]; simp]
            exact rfl
          · rintro ⟨⟨j, c⟩, hj, hcl, hq⟩
            simp only at hj hcl hq
            show aexR _ _ _ (frOf 0 75 [(0, prtsA P), (5, .oslc (.s 1) ep 3 0 (b.length + 1) false), (6, .int .i64 (i : Int)), (7, .int .i64 (k : Int)), (8, .int .i64 (j : Int))]) ⟨[.hole, .vec ep (c.map tnR)], []⟩ _
            cases j with
            | zero =>
              replace hq : c = Q := hq
              subst hq
              (repeat' (first | exact rfl | ((conv => whnf); first | exact rfl | exact ⟨rfl, rfl⟩ | refine ⟨(by kernel_rfl : drawOk _ _ _ _ = true), ?_⟩ | refine ⟨(by kernel_rfl : planOk _ _ _ _ = true), ?_⟩ | refine ⟨rfl, ?_⟩ | refine ⟨by (first | omega | (simp (disch := omega) only [wrapI]; omega) | (simp (disch := omega) only [wrapI]; simp; omega) | (simp; omega)), ?_⟩ | (intro ep) | (refine ifB (fun hb => ?_) (fun hb => ?_) <;> (try simp only [decide_eq_true_eq, decide_eq_false_iff_not, beq_iff_eq, beq_eq_false_iff_ne, bne_iff_ne, bne_eq_false_iff_eq, ne_eq, not_false_eq_true, not_true_eq_false, Bool.not_eq_true, Bool.not_eq_true', Bool.not_eq_false', Int.not_lt, Int.not_le] at hb) <;> (try simp (disch := omega) only [wrapI] at hb) <;> (try (exfalso; omega))) | fail)))
              all_goals (conv => whnf)
              all_goals exact back_of () ⟨rfl, rfl, rfl⟩
            | succ j =>
              have hj1 : j + 1 < c.length := by omega
              have hm1 := mapR (f := tnR) hj1
              have hm2 := mapR (f := tnR) (show j < c.length by omega)
              have hbf := before64 c[j + 1] c[j]
              have hwj : IntKind.i64.wrap (((j + 1 : Nat) : Int) - 1) = (j : Int) := by rw [wrapI (by omega) (by omega)]; omega
              rw [← hwj] at hm2
              rw [bub_succ hj1] at hq
              have hsw := swap_rows hj1 (a := c[j]) (b := c[j + 1]) rfl rfl
              obtain ⟨y, hy⟩ : ∃ y, y = c[j + 1] := ⟨_, rfl⟩
              obtain ⟨z, hz⟩ : ∃ z, z = c[j] := ⟨_, rfl⟩
              rw [← hy] at hm1 hbf hq hsw
              rw [← hz] at hm2 hbf hq hsw
              obtain ⟨c', hc'⟩ : ∃ c', c' = (c.set (j + 1) (c.getD j tz)).set j (c.getD (j + 1) tz) := ⟨_, rfl⟩
              rw [← hc'] at hq hsw
              have hcl' : c'.length = c.length := by rw [hc']; simp
              cases hv2 : bef y z with
              | true =>
                rw [hv2] at hbf hq
                rw [if_pos rfl] at hq
                have hm3 : ((c.map tnR).set (0 + (((j + 1 : Nat) : Int)).toNat) [.int .i64 z.p, .int .i64 z.f, .int .i64 z.t])[0 + (IntKind.i64.wrap (((j + 1 : Nat) : Int) - 1)).toNat]? = some [.int .i64 z.p, .int .i64 z.f, .int .i64 z.t] := by
                  rw [List.getElem?_set_ne (by rw [hwj]; omega)]; exact hm2
                (repeat' (first | exact rfl | ((conv => whnf); first | refine optS hm1 ?_ | refine optS hm2 ?_ | refine optS hm3 ?_ | refine PRet.calls hbf ?_ | exact rfl | exact ⟨rfl, rfl⟩ | refine ⟨(by kernel_rfl : drawOk _ _ _ _ = true), ?_⟩ | refine ⟨(by kernel_rfl : planOk _ _ _ _ = true), ?_⟩ | refine ⟨rfl, ?_⟩ | refine ⟨by (first | omega | (simp (disch := omega) only [wrapI]; omega) | (simp (disch := omega) only [wrapI]; simp; omega) | (simp; omega)), ?_⟩ | (intro ep) | (refine ifB (fun hb => ?_) (fun hb => ?_) <;> (try simp only [decide_eq_true_eq, decide_eq_false_iff_not, beq_iff_eq, beq_eq_false_iff_ne, bne_iff_ne, bne_eq_false_iff_eq, ne_eq, not_false_eq_true, not_true_eq_false, Bool.not_eq_true, Bool.not_eq_true', Bool.not_eq_false', Int.not_lt, Int.not_le] at hb) <;> (try simp (disch := omega) only [wrapI] at hb) <;> (try (exfalso; omega))) | fail)))
                all_goals (conv => whnf)
                have e8 : 0 + (IntKind.i64.wrap (((j + 1 : Nat) : Int) - 1)).toNat = j := by rw [hwj]; omega
                have e9 : 0 + (((j + 1 : Nat) : Int)).toNat = j + 1 := by omega
                refine back_of ⟨(j, c'), by simp only; omega, by simp only; omega, hq⟩ ⟨?_, ?_, by simp only; omega⟩
                · show maskF 0 _ _ = frOf 0 75 [(0, prtsA P), (5, .oslc (.s 1) ep 3 0 (b.length + 1) false), (6, .int .i64 (i : Int)), (7, .int .i64 (k : Int)), (8, .int .i64 (j : Int))]
                  rw [← hwj]
                  exact rfl
                · show (⟨[.hole, .vec ep (((c.map tnR).set (0 + (((j + 1 : Nat) : Int)).toNat) (tnR z)).set (0 + (IntKind.i64.wrap (((j + 1 : Nat) : Int) - 1)).toNat) (tnR y))], []⟩ : Heap) = ⟨[.hole, .vec ep (c'.map tnR)], []⟩
                  rw [e8, e9, hsw]
              | false =>
                rw [hv2] at hbf hq
                rw [if_neg (by simp)] at hq
                subst hq
                (repeat' (first | exact rfl | ((conv => whnf); first | refine optS hm1 ?_ | refine optS hm2 ?_ | refine PRet.calls hbf ?_ | exact rfl | exact ⟨rfl, rfl⟩ | refine ⟨(by kernel_rfl : drawOk _ _ _ _ = true), ?_⟩ | refine ⟨(by kernel_rfl : planOk _ _ _ _ = true), ?_⟩ | refine ⟨rfl, ?_⟩ | refine ⟨by (first | omega | (simp (disch := omega) only [wrapI]; omega) | (simp (disch := omega) only [wrapI]; simp; omega) | (simp; omega)), ?_⟩ | (intro ep) | (refine ifB (fun hb => ?_) (fun hb => ?_) <;> (try simp only [decide_eq_true_eq, decide_eq_false_iff_not, beq_iff_eq, beq_eq_false_iff_ne, bne_iff_ne, bne_eq_false_iff_eq, ne_eq, not_false_eq_true, not_true_eq_false, Bool.not_eq_true, Bool.not_eq_true', Bool.not_eq_false', Int.not_lt, Int.not_le] at hb) <;> (try simp (disch := omega) only [wrapI] at hb) <;> (try (exfalso; omega))) | fail)))
                all_goals (conv => whnf)
                all_goals exact back_of () ⟨rfl, rfl, rfl⟩
          · rintro ⟨⟩
          · intro u
            (repeat' (first | exact rfl | ((conv => whnf); first | exact rfl | exact ⟨rfl, rfl⟩ | refine ⟨(by kernel_rfl : drawOk _ _ _ _ = true), ?_⟩ | refine ⟨(by kernel_rfl : planOk _ _ _ _ = true), ?_⟩ | refine ⟨rfl, ?_⟩ | refine ⟨by (first | omega | (simp (disch := omega) only [wrapI]; omega) | (simp (disch := omega) only [wrapI]; simp; omega) | (simp; omega)), ?_⟩ | (intro ep) | fail)))
            all_goals (conv => whnf)
            refine back_of ⟨(k + 1, ep, Q), by simp only; omega, by simp only; omega, hv⟩ ⟨?_, rfl, by simp only; omega⟩
            show maskF 0 _ _ = frOf 0 75 [(0, prtsA P), (5, .oslc (.s 1) ep 3 0 Q.length false), (6, .int .i64 (i : Int)), (7, .int .i64 ((k + 1 : Nat) : Int))]
            rw [hil]
            (first | exact rfl | (simp (disch := omega) only [wrapI]; exact rfl))
        · simp only [decide_eq_false_iff_not] at g2
          rw [List.drop_eq_nil_of_le (by omega)] at hv
          replace hv : b = M := hv
          subst hv
          (repeat' (first | exact rfl | ((conv => whnf); first | exact rfl | exact ⟨rfl, rfl⟩ | refine ⟨(by kernel_rfl : drawOk _ _ _ _ = true), ?_⟩ | refine ⟨(by kernel_rfl : planOk _ _ _ _ = true), ?_⟩ | refine ⟨rfl, ?_⟩ | refine ⟨by (first | omega | (simp (disch := omega) only [wrapI]; omega) | (simp (disch := omega) only [wrapI]; simp; omega) | (simp; omega)), ?_⟩ | (intro ep) | fail)))
          all_goals (conv => whnf)
          all_goals exact back_of e' ⟨rfl, rfl, rfl⟩
      · rintro ⟨⟩
      · intro e'
        (repeat' (first | exact rfl | ((conv => whnf); first | exact rfl | exact ⟨rfl, rfl⟩ | refine ⟨(by kernel_rfl : drawOk _ _ _ _ = true), ?_⟩ | refine ⟨(by kernel_rfl : planOk _ _ _ _ = true), ?_⟩ | refine ⟨rfl, ?_⟩ | refine ⟨by (first | omega | (simp (disch := omega) only [wrapI]; omega) | (simp (disch := omega) only [wrapI]; simp; omega) | (simp; omega)), ?_⟩ | (intro ep) | fail)))
        all_goals (conv => whnf)
        all_goals exact back_of ⟨(i + 1, e', M), by simp only; omega, by simp only; omega, hu⟩ ⟨by (first | exact rfl | (simp (disch := omega) only [wrapI]; exact rfl)), rfl, by simp only; omega⟩
    · simp only [decide_eq_false_iff_not] at g1
      rw [List.drop_eq_nil_of_le (by omega)] at hu
      replace hu : a = R := hu
      subst hu
      (repeat' (first | exact rfl | ((conv => whnf); first | exact rfl | exact ⟨rfl, rfl⟩ | refine ⟨(by kernel_rfl : drawOk _ _ _ _ = true), ?_⟩ | refine ⟨(by kernel_rfl : planOk _ _ _ _ = true), ?_⟩ | refine ⟨rfl, ?_⟩ | refine ⟨by (first | omega | (simp (disch := omega) only [wrapI]; omega) | (simp (disch := omega) only [wrapI]; simp; omega) | (simp; omega)), ?_⟩ | (intro ep) | fail)))
      all_goals (conv => whnf)
      all_goals exact back_of e ⟨rfl, rfl, rfl⟩
  · rintro ⟨⟩
  · intro e
    (repeat' (first | exact rfl | ((conv => whnf); first | exact rfl | exact ⟨rfl, rfl⟩ | refine ⟨(by kernel_rfl : drawOk _ _ _ _ = true), ?_⟩ | refine ⟨(by kernel_rfl : planOk _ _ _ _ = true), ?_⟩ | refine ⟨rfl, ?_⟩ | refine ⟨by (first | omega | (simp (disch := omega) only [wrapI]; omega) | (simp (disch := omega) only [wrapI]; simp; omega) | (simp; omega)), ?_⟩ | (intro ep) | fail)))
    all_goals (conv => whnf)
    exact ⟨pure_tns R, rfl, rfl⟩
end Go.Ab.V
