/-
  What is proved here serves the law's text: each part says its own claim and its conditions. No condition is left open.
-/
import Derived.Test.YtchkiolagohnlaaJE
import Derived.Test.YtchkiolagohnlaaJF
import Derived.Test.YtchkiolagohnlaaJD
import Derived.Test.YtchkiolagohnlaaJB
import Derived.Test.YtchkiolagohnlaaKV
import Derived.Test.YtchkiolagohnlaaJG
set_option linter.unusedSimpArgs false
set_option linter.unusedVariables false

/-
  Presses: the program's, and the law. No condition but the machine's sizes.
-/
namespace Go.Ab.V
open Go.Proofs

def opn (x : Pr) : Bool := decide (x.f = 0)
def A62 : Ann := fun r => match r with
  | 0 => { slots := [(0, 0)] }
  | _ => {}
theorem opn62 (x : Pr) : PRet C.P 62 [.agg (prR x)] (.bool (opn x)) := by
  obtain ⟨e, c, f, a, b⟩ := x
  unfold opn
  dsimp only
  refine pret_of ok mixed (A := A62) 1 Try.func62 rfl ?_
  (repeat' (first | exact rfl | ((conv => whnf); first | exact rfl | exact ⟨rfl, rfl⟩ | refine ⟨(by kernel_rfl : drawOk _ _ _ _ = true), ?_⟩ | refine ⟨(by kernel_rfl : planOk _ _ _ _ = true), ?_⟩ | refine ⟨rfl, ?_⟩ | refine ⟨by (first | omega | (simp (disch := omega) only [wrapI]; omega) | (simp (disch := omega) only [wrapI]; simp; omega) | (simp; omega)), ?_⟩ | (intro ep) | (refine ifB (fun hb => ?_) (fun hb => ?_) <;> (try simp only [decide_eq_true_eq, decide_eq_false_iff_not, beq_iff_eq, beq_eq_false_iff_ne, bne_iff_ne, bne_eq_false_iff_eq, ne_eq, not_false_eq_true, not_true_eq_false, Bool.not_eq_true, Bool.not_eq_true', Bool.not_eq_false', Int.not_lt, Int.not_le] at hb) <;> (try simp (disch := omega) only [wrapI] at hb) <;> (try (exfalso; omega))) | fail)))
theorem kept_app {α : Type} (q : α → Bool) (l m : List α) : kept q (l ++ m) = kept q l ++ kept q m := by unfold kept; rw [List.filter_append]
theorem kept_press (p : Pc) : ∀ (l : List Evt) (k : Nat), (∀ e ∈ l, ∀ s ∈ e.stops, 0 ≤ s.f) → kept opn (newL (pressOf p) k l) = pressF p k l
  | [], k, _ => rfl
  | e :: r, k, h => by
    rw [newL, kept_app, pressF, kept_press p r (k + 1) fun x hx => h x (List.mem_cons_of_mem _ hx)]
    congr 1
    have hs := h e (by simp)
    generalize e.stops = l at hs
    induction l with
    | nil => rfl
    | cons s l ih =>
      have h0 := hs s (by simp)
      have ih := ih fun x hx => hs x (List.mem_cons_of_mem _ hx)
      unfold kept prF at ih ⊢
      rw [List.map_cons, List.filter_cons, List.filter_cons]
      have e1 : (!opn (pressOf p k s)) = decide (0 < s.f) := by
        show (!decide (s.f = 0)) = decide (0 < s.f)
        rw [Bool.eq_iff_iff]
        simp
        omega
      rw [e1, ih]
      by_cases c : 0 < s.f <;> simp [c]
theorem kept_pressL {p : Pc} (v : Vp p) : kept opn (pressL p) = pressF p 0 p.evs := kept_press p p.evs 0 fun e he s hs => by
  obtain ⟨k, hk, rfl⟩ := List.getElem_of_mem he
  exact (v.sp k hk s hs).2.1.1
theorem press_len {p : Pc} (v : Vp p) : (pressL p).length ≤ 5600 := by
  have h1 := newL_len (g := pressOf p) (l := p.evs) (k := 0) (fun e he => by
    obtain ⟨k, hk, rfl⟩ := List.getElem_of_mem he
    exact v.sl k hk)
  have h2 := v.len
  have h3 : pressL p = newL (pressOf p) 0 p.evs := rfl
  rw [h3]
  omega
theorem pure_zap {l : List (List AV)} {n : Nat} {z : List AV} (h : pureRows l) (hz : z.all AV.pure1 = true) : pureRows (l ++ List.replicate n z) := by
  intro row hr c hc
  rcases List.mem_append.1 hr with h1 | h1
  · exact h row h1 c hc
  · rw [(List.mem_replicate.1 h1).2] at hc
    exact List.all_eq_true.1 hz c hc
def A29 : Ann := fun r => match r with
  | 0 => { slots := [(0, 0)] }
  | 1 => { slots := [(5, 1)] }
  | _ => {}
set_option maxHeartbeats 8000000 in
set_option maxRecDepth 100000 in
theorem presses29 (p : Pc) (hp : p.Ok) : PRet C.P 29 [pcA p] (pressesV p) := by
  unfold pressesV
  by_cases hc : chk p = 0
  · rw [if_pos hc]
    have v := vp hc
    have h1 := listen_ok p hp hc
    have h2 := notes51h p v
    rw [← kept_pressL v]
    have hl := press_len v
    have hd := fun y0 e9 => del61 y0 opn (pressL p) (by omega) (fun x _ => opn62 x) e9
    generalize notesL p = N at h2
    generalize pressL p = W at h2 hl hd
    refine psubD_of (okx [51] [61]) mixed (A := A29) 2 Try.func29 rfl rfl ?_
    (repeat' (first | exact rfl | ((conv => whnf); first | refine ⟨_, h1, ?_⟩ | (refine ⟨_, _, h2, ?_⟩; intro eps) | exact rfl | exact ⟨rfl, rfl⟩ | refine ⟨(by kernel_rfl : drawOk _ _ _ _ = true), ?_⟩ | refine ⟨(by kernel_rfl : planOk _ _ _ _ = true), ?_⟩ | refine ⟨rfl, ?_⟩ | refine ⟨by (first | omega | (simp (disch := omega) only [wrapI]; omega) | (simp (disch := omega) only [wrapI]; simp; omega) | (simp; omega)), ?_⟩ | (intro ep) | (refine ifB (fun hb => ?_) (fun hb => ?_) <;> (try simp only [decide_eq_true_eq, decide_eq_false_iff_not, beq_iff_eq, beq_eq_false_iff_ne, bne_iff_ne, bne_eq_false_iff_eq, ne_eq, not_false_eq_true, not_true_eq_false, Bool.not_eq_true, Bool.not_eq_true', Bool.not_eq_false', Int.not_lt, Int.not_le] at hb) <;> (try simp (disch := omega) only [wrapI] at hb) <;> (try (exfalso; omega))) | fail)))
    all_goals (conv => whnf)
    refine ACalls.part (dy := [.vec (eps 0) (N.map ntR), .vec (eps 1) (W.map prR)]) 0 (by exact rfl) (by exact rfl) (by exact rfl) (hd (.vec (eps 0) (N.map ntR)) (eps 1)) ?_
    rintro r h' ⟨⟨T, hT, rfl, hp2⟩, hp1⟩
    rw [hp1, hp2]
    generalize kept opn W = K at hT
    (repeat' (first | exact rfl | ((conv => whnf); first | exact rfl | exact ⟨rfl, rfl⟩ | refine ⟨(by kernel_rfl : drawOk _ _ _ _ = true), ?_⟩ | refine ⟨(by kernel_rfl : planOk _ _ _ _ = true), ?_⟩ | refine ⟨rfl, ?_⟩ | refine ⟨by (first | omega | (simp (disch := omega) only [wrapI]; omega) | (simp (disch := omega) only [wrapI]; simp; omega) | (simp; omega)), ?_⟩ | (intro ep) | (refine ifB (fun hb => ?_) (fun hb => ?_) <;> (try simp only [decide_eq_true_eq, decide_eq_false_iff_not, beq_iff_eq, beq_eq_false_iff_ne, bne_iff_ne, bne_eq_false_iff_eq, ne_eq, not_false_eq_true, not_true_eq_false, Bool.not_eq_true, Bool.not_eq_true', Bool.not_eq_false', Int.not_lt, Int.not_le] at hb) <;> (try simp (disch := omega) only [wrapI] at hb) <;> (try (exfalso; omega))) | fail)))
    all_goals (conv => whnf)
    refine ⟨fun o ho => ?_, ?_⟩
    · replace ho : o ∈ [AObj.vec (eps 0) (N.map ntR), AObj.vec (eps 1) (K.map prR ++ List.replicate T.length [.int .i64 0, .int .i64 0, .int .i64 0, .int .i64 0, .int .i64 0])] := ho
      simp only [List.mem_cons, List.not_mem_nil, or_false] at ho
      rcases ho with rfl | rfl
      · exact Go.Ab.V.pure_map (f := ntR) _ fun x => rfl
      · exact pure_zap (Go.Ab.V.pure_map (f := prR) _ fun x => rfl) rfl
    · have hz : fzV [AObj.vec (eps 0) (N.map ntR), AObj.vec (eps 1) (K.map prR ++ List.replicate T.length [.int .i64 0, .int .i64 0, .int .i64 0, .int .i64 0, .int .i64 0])] (.tup [.oslc (.d 1) (eps 1) 5 0 K.length false, .int .i64 0])
          = .tup [.lslc 5 (K.map prR ++ List.replicate T.length [.int .i64 0, .int .i64 0, .int .i64 0, .int .i64 0, .int .i64 0]) 0 K.length false, .int .i64 0] := by simp [fzV, fzC]
      show frzK _ (fzV [AObj.vec (eps 0) (N.map ntR), AObj.vec (eps 1) (K.map prR ++ List.replicate T.length [.int .i64 0, .int .i64 0, .int .i64 0, .int .i64 0, .int .i64 0])] (.tup [.oslc (.d 1) (eps 1) 5 0 K.length false, .int .i64 0])) _
      rw [hz]
      (conv => whnf)
      exact ⟨rfl, Sub.tup (.cons (sub_pre (by simp)) (SubL.refl _))⟩
  · rw [if_neg hc]
    have h1 := listen_bad p hp hc
    generalize chk p = e at h1 hc
    refine pret_of ok mixed (A := A29) 2 Try.func29 rfl ?_
    (repeat' (first | exact rfl | ((conv => whnf); first | refine ⟨_, h1, ?_⟩ | exact rfl | exact ⟨rfl, rfl⟩ | refine ⟨(by kernel_rfl : drawOk _ _ _ _ = true), ?_⟩ | refine ⟨(by kernel_rfl : planOk _ _ _ _ = true), ?_⟩ | refine ⟨rfl, ?_⟩ | refine ⟨by (first | omega | (simp (disch := omega) only [wrapI]; omega) | (simp (disch := omega) only [wrapI]; simp; omega) | (simp; omega)), ?_⟩ | (intro ep) | (refine ifB (fun hb => ?_) (fun hb => ?_) <;> (try simp only [decide_eq_true_eq, decide_eq_false_iff_not, beq_iff_eq, beq_eq_false_iff_ne, bne_iff_ne, bne_eq_false_iff_eq, ne_eq, not_false_eq_true, not_true_eq_false, Bool.not_eq_true, Bool.not_eq_true', Bool.not_eq_false', Int.not_lt, Int.not_le] at hb) <;> (try simp (disch := omega) only [wrapI] at hb) <;> (try (exfalso; omega))) | fail)))
/-! ### the law -/
def A7 : Ann := fun r => match r with
  | 0 => { slots := [(0, 0)] }
  | 3 => { slots := [(2, 1)] }
  | _ => {}
set_option maxHeartbeats 8000000 in
set_option maxRecDepth 100000 in
theorem law_presses (p : Pc) (hp : p.Ok) : ACalls C.P 7 [pcA p] Heap.nil fun r _ => r = .bool true := by
  have hb0 := big_spec p hp
  cases hb : bigB p with
  | true =>
    rw [hb] at hb0
    have hcp := True.intro
    have h1 := True.intro
    have h2 := True.intro
    have h3 := True.intro
    refine fn_of ok mixed (A := A7) 2 Try.func7 rfl ?_
    (repeat' (first | exact rfl | ((conv => whnf); first | refine ⟨_, works_spec, ?_⟩ | refine ⟨_, hb0, ?_⟩ | refine ⟨_, hcp, ?_⟩ | refine ⟨_, h1, ?_⟩ | refine ⟨_, h2, ?_⟩ | refine ⟨_, h3, ?_⟩ | exact rfl | exact ⟨rfl, rfl⟩ | refine ⟨(by kernel_rfl : drawOk _ _ _ _ = true), ?_⟩ | refine ⟨(by kernel_rfl : planOk _ _ _ _ = true), ?_⟩ | refine ⟨rfl, ?_⟩ | refine ⟨by (first | omega | (simp (disch := omega) only [wrapI]; omega) | (simp (disch := omega) only [wrapI]; simp; omega) | (simp; omega)), ?_⟩ | (intro ep) | (refine ifB (fun hb => ?_) (fun hb => ?_) <;> (try simp only [decide_eq_true_eq, decide_eq_false_iff_not, beq_iff_eq, beq_eq_false_iff_ne, bne_iff_ne, bne_eq_false_iff_eq, ne_eq, not_false_eq_true, not_true_eq_false, Bool.not_eq_true, Bool.not_eq_true', Bool.not_eq_false', Int.not_lt, Int.not_le] at hb) <;> (try simp (disch := omega) only [wrapI] at hb) <;> (try (exfalso; omega))) | fail)))
  | false =>
    have hs := Pc.Sm.of_big hb
    have hcp := copy_spec p hs
    rw [hb] at hb0
    have h1 := presses29 p hp
    have h2 := refPresses30 p hp hs
    have h3 := refSame_spec p p hs.two
    rw [decide_eq_true rfl] at h3
    unfold pressesV at h1 h2
    by_cases hc : chk p = 0
    · rw [if_pos hc] at h1 h2
      have hl : (pressF p 0 p.evs).length ≤ 5600 := by
        have := press_len (vp hc)
        rw [← kept_pressL (vp hc)]
        have := List.length_filter_le (fun x => !opn x) (pressL p)
        unfold kept
        omega
      generalize pressF p 0 p.evs = L at h1 h2 hl
      refine fn_of ok mixed (A := A7) 2 Try.func7 rfl ?_
      (repeat' (first | exact rfl | ((conv => whnf); first | refine ⟨_, works_spec, ?_⟩ | refine ⟨_, hb0, ?_⟩ | refine ⟨_, hcp, ?_⟩ | refine ⟨_, h1, ?_⟩ | refine ⟨_, h2, ?_⟩ | refine ⟨_, h3, ?_⟩ | exact rfl | exact ⟨rfl, rfl⟩ | refine ⟨(by kernel_rfl : drawOk _ _ _ _ = true), ?_⟩ | refine ⟨(by kernel_rfl : planOk _ _ _ _ = true), ?_⟩ | refine ⟨rfl, ?_⟩ | refine ⟨by (first | omega | (simp (disch := omega) only [wrapI]; omega) | (simp (disch := omega) only [wrapI]; simp; omega) | (simp; omega)), ?_⟩ | (intro ep) | (refine ifB (fun hb => ?_) (fun hb => ?_) <;> (try simp only [decide_eq_true_eq, decide_eq_false_iff_not, beq_iff_eq, beq_eq_false_iff_ne, bne_iff_ne, bne_eq_false_iff_eq, ne_eq, not_false_eq_true, not_true_eq_false, Bool.not_eq_true, Bool.not_eq_true', Bool.not_eq_false', Int.not_lt, Int.not_le] at hb) <;> (try simp (disch := omega) only [wrapI] at hb) <;> (try (exfalso; omega))) | fail)))
      all_goals (conv => whnf)
      refine loopY ok mixed (A := A7) [4, 6, 8] [] (S := { k : Nat // k ≤ L.length })
        (fr := fun s => frOf 0 110 [(4, prsA L), (6, prsA L), (8, .int .i64 (s.1 : Int))])
        (h := fun s => ⟨[.hole, .hole], []⟩) (μ := fun s => L.length - s.1) ⟨0, Nat.zero_le _⟩ ?_ ?_
        [] [] (S' := Unit) (X := fun _ => 0) (frX := fun s => frOf 0 110 []) (hX := fun s => ⟨[.hole, .hole], []⟩)
        [] [] (S2 := Empty) (frR := fun s => frOf 0 110 []) (hR := fun s => ⟨[.hole, .hole], []⟩) ?_ ?_ ?_
      · exact rfl
      · exact rfl
      · rintro ⟨k, hk⟩
        show aexR _ _ _ (frOf 0 110 [(4, prsA L), (6, prsA L), (8, .int .i64 (k : Int))]) ⟨[.hole, .hole], []⟩ _
        by_cases g : k < L.length
        · have hm := mapR (f := prR) g
          generalize L[k] = x at hm
          obtain ⟨a, b, c, d, e⟩ := x
          (repeat' (first | exact rfl | ((conv => whnf); first | refine optS hm ?_ | exact rfl | exact ⟨rfl, rfl⟩ | refine ⟨(by kernel_rfl : drawOk _ _ _ _ = true), ?_⟩ | refine ⟨(by kernel_rfl : planOk _ _ _ _ = true), ?_⟩ | refine ⟨rfl, ?_⟩ | refine ⟨by (first | omega | (simp (disch := omega) only [wrapI]; omega) | (simp (disch := omega) only [wrapI]; simp; omega) | (simp; omega)), ?_⟩ | (intro ep) | (refine ifB (fun hb => ?_) (fun hb => ?_) <;> (try simp only [decide_eq_true_eq, decide_eq_false_iff_not, beq_iff_eq, beq_eq_false_iff_ne, bne_iff_ne, bne_eq_false_iff_eq, ne_eq, not_false_eq_true, not_true_eq_false, Bool.not_eq_true, Bool.not_eq_true', Bool.not_eq_false', Int.not_lt, Int.not_le] at hb) <;> (try simp (disch := omega) only [wrapI] at hb) <;> (try (exfalso; omega))) | fail)))
          all_goals (try (exfalso; simp at hb; done))
          all_goals (conv => whnf)
          all_goals exact back_of ⟨k + 1, by omega⟩ ⟨by (first | exact rfl | (simp (disch := omega) only [wrapI]; exact rfl)), rfl, by dsimp only; omega⟩
        · (repeat' (first | exact rfl | ((conv => whnf); first | exact rfl | exact ⟨rfl, rfl⟩ | refine ⟨(by kernel_rfl : drawOk _ _ _ _ = true), ?_⟩ | refine ⟨(by kernel_rfl : planOk _ _ _ _ = true), ?_⟩ | refine ⟨rfl, ?_⟩ | refine ⟨by (first | omega | (simp (disch := omega) only [wrapI]; omega) | (simp (disch := omega) only [wrapI]; simp; omega) | (simp; omega)), ?_⟩ | (intro ep) | (refine ifB (fun hb => ?_) (fun hb => ?_) <;> (try simp only [decide_eq_true_eq, decide_eq_false_iff_not, beq_iff_eq, beq_eq_false_iff_ne, bne_iff_ne, bne_eq_false_iff_eq, ne_eq, not_false_eq_true, not_true_eq_false, Bool.not_eq_true, Bool.not_eq_true', Bool.not_eq_false', Int.not_lt, Int.not_le] at hb) <;> (try simp (disch := omega) only [wrapI] at hb) <;> (try (exfalso; omega))) | fail)))
          all_goals (conv => whnf)
          all_goals exact back_of () ⟨rfl, rfl, rfl⟩
      · rintro ⟨⟩
      · rintro ⟨⟩
        (repeat' (first | exact rfl | ((conv => whnf); first | refine ⟨_, works_spec, ?_⟩ | refine ⟨_, hb0, ?_⟩ | refine ⟨_, hcp, ?_⟩ | refine ⟨_, h1, ?_⟩ | refine ⟨_, h2, ?_⟩ | refine ⟨_, h3, ?_⟩ | exact rfl | exact ⟨rfl, rfl⟩ | refine ⟨(by kernel_rfl : drawOk _ _ _ _ = true), ?_⟩ | refine ⟨(by kernel_rfl : planOk _ _ _ _ = true), ?_⟩ | refine ⟨rfl, ?_⟩ | refine ⟨by (first | omega | (simp (disch := omega) only [wrapI]; omega) | (simp (disch := omega) only [wrapI]; simp; omega) | (simp; omega)), ?_⟩ | (intro ep) | (refine ifB (fun hb => ?_) (fun hb => ?_) <;> (try simp only [decide_eq_true_eq, decide_eq_false_iff_not, beq_iff_eq, beq_eq_false_iff_ne, bne_iff_ne, bne_eq_false_iff_eq, ne_eq, not_false_eq_true, not_true_eq_false, Bool.not_eq_true, Bool.not_eq_true', Bool.not_eq_false', Int.not_lt, Int.not_le] at hb) <;> (try simp (disch := omega) only [wrapI] at hb) <;> (try (exfalso; omega))) | fail)))
    · rw [if_neg hc] at h1 h2
      generalize chk p = e at h1 h2
      refine fn_of ok mixed (A := A7) 2 Try.func7 rfl ?_
      (repeat' (first | exact rfl | ((conv => whnf); first | refine ⟨_, works_spec, ?_⟩ | refine ⟨_, hb0, ?_⟩ | refine ⟨_, hcp, ?_⟩ | refine ⟨_, h1, ?_⟩ | refine ⟨_, h2, ?_⟩ | refine ⟨_, h3, ?_⟩ | exact rfl | exact ⟨rfl, rfl⟩ | refine ⟨(by kernel_rfl : drawOk _ _ _ _ = true), ?_⟩ | refine ⟨(by kernel_rfl : planOk _ _ _ _ = true), ?_⟩ | refine ⟨rfl, ?_⟩ | refine ⟨by (first | omega | (simp (disch := omega) only [wrapI]; omega) | (simp (disch := omega) only [wrapI]; simp; omega) | (simp; omega)), ?_⟩ | (intro ep) | refine loopU ok mixed (A := A7) 2 ?_ | (refine ifB (fun hb => ?_) (fun hb => ?_) <;> (try simp only [decide_eq_true_eq, decide_eq_false_iff_not, beq_iff_eq, beq_eq_false_iff_ne, bne_iff_ne, bne_eq_false_iff_eq, ne_eq, not_false_eq_true, not_true_eq_false, Bool.not_eq_true, Bool.not_eq_true', Bool.not_eq_false', Int.not_lt, Int.not_le] at hb) <;> (try simp (disch := omega) only [wrapI] at hb) <;> (try (exfalso; omega))) | fail)))
end Go.Ab.V
