/-
  What is proved here serves the law's text: each part says its own claim and its conditions. No condition is left open.
-/
import Derived.Test.YtchkiolagohnlaaGreatKR
import Derived.Test.YtchkiolagohnlaaGreatKS
set_option linter.unusedSimpArgs false
set_option linter.unusedVariables false

/-
  The pitches that sound at a time: the program's walk. No condition but the length.
-/
namespace Go.Ab.V
open Go.Proofs

def A41 : Ann := fun r => match r with
  | 1 => { slots := [(0, 0)] }
  | 4 => { slots := [(2, 1)] }
  | 12 => { slots := [(2, 2), (3, 3)] }
  | _ => {}
abbrev X57 := okx [] [42]
theorem nodup_le : ∀ (n : Nat) (l : List Nat), l.Nodup → (∀ i ∈ l, i < n) → l.length ≤ n
  | 0, l, _, h => by
    cases l with
    | nil => exact Nat.le_refl _
    | cons a l => exact absurd (h a (by simp)) (by omega)
  | n + 1, l, hn, h => by
    by_cases hm : n ∈ l
    · have h1 := nodup_le n (l.erase n) (hn.erase n) fun i hi => by
        have h2 := (hn.mem_erase_iff.1 hi)
        have := h i h2.2
        omega
      rw [List.length_erase_of_mem hm] at h1
      omega
    · have := nodup_le n l hn fun i hi => by
        have := h i hi
        have : i ≠ n := by rintro rfl; exact hm hi
        omega
      omega
def outL (R : List (Int × Int)) (idx : List Nat) : List Int := idx.reverse.map fun i => (keysL R).getD i 0
theorem outL_len (R : List (Int × Int)) (idx : List Nat) : (outL R idx).length = idx.length := by simp [outL]
theorem outL_cons (R : List (Int × Int)) (i : Nat) (idx : List Nat) : outL R (i :: idx) = outL R idx ++ [(keysL R).getD i 0] := by simp [outL]
set_option maxHeartbeats 8000000 in
set_option maxRecDepth 100000 in
theorem pitches57 (l : List Nt) (t : Int) (hl : l.length ≤ 100000) : PRet C.P 41 [ntsA l, .int .i64 t] (intsA (pit t l)) := by
  obtain ⟨R, hR⟩ : ∃ R, R = kvs t [] l := ⟨_, rfl⟩
  have hRl : R.length ≤ 100000 := by have := kvs_len t l []; rw [← hR] at this; simp at this; omega
  have hRn : (keysL R).Nodup := by rw [hR]; exact nodup_kvs t l [] (by simp [keysL])
  have hpit : pit t l = srt (keysL R) := by rw [hR]; rfl
  refine pret_wk X57 4 Tryz.func41 rfl ?_
  refine wk_seq (wk_aex X57 mixed (A := A41) ?_)
  (repeat' ((conv => whnf); first | exact rfl | exact ⟨rfl, rfl⟩ | refine ⟨(by kernel_rfl : drawOk _ _ _ _ = true), ?_⟩ | refine ⟨(by kernel_rfl : planOk _ _ _ _ = true), ?_⟩ | refine ⟨rfl, ?_⟩ | refine ⟨by (first | omega | (simp (disch := omega) only [wrapI]; omega) | (simp (disch := omega) only [wrapI]; simp; omega) | (simp; omega)), ?_⟩ | (intro ep) | fail))
  refine wk_seq (wk_aex X57 mixed (A := A41) ?_)
  (repeat' ((conv => whnf); first | (intro eM) | exact rfl | exact ⟨rfl, rfl⟩ | refine ⟨(by kernel_rfl : drawOk _ _ _ _ = true), ?_⟩ | refine ⟨(by kernel_rfl : planOk _ _ _ _ = true), ?_⟩ | refine ⟨rfl, ?_⟩ | refine ⟨by (first | omega | (simp (disch := omega) only [wrapI]; omega) | (simp (disch := omega) only [wrapI]; simp; omega) | (simp; omega)), ?_⟩ | (intro ep) | fail))
  refine wk_seq (wk_aex X57 mixed (A := A41) ?_)
  (repeat' ((conv => whnf); first | exact rfl | exact ⟨rfl, rfl⟩ | refine ⟨(by kernel_rfl : drawOk _ _ _ _ = true), ?_⟩ | refine ⟨(by kernel_rfl : planOk _ _ _ _ = true), ?_⟩ | refine ⟨rfl, ?_⟩ | refine ⟨by (first | omega | (simp (disch := omega) only [wrapI]; omega) | (simp (disch := omega) only [wrapI]; simp; omega) | (simp; omega)), ?_⟩ | (intro ep) | fail))
  (conv => whnf)
  refine loopY X57 mixed (A := A41) [1, 5, 11, 12, 13] [0] (S := { z : Nat × List (Int × Int) // z.1 ≤ l.length ∧ kvs t z.2 (l.drop z.1) = R })
    (fr := fun s => frOf 0 46 [(1, .int .i64 t), (5, .mp (.s 0) eM), (11, ntsA l), (12, .int .i64 (l.length : Int)), (13, .int .i64 (s.1.1 : Int))])
    (h := fun s => ⟨[.map eM (s.1.2.map kvR), .hole, .hole, .hole], []⟩) (μ := fun s => l.length - s.1.1) ⟨(0, []), Nat.zero_le _, hR.symm⟩ ?_ ?_
    [5] [0] (S' := Unit) (X := fun _ => 0) (frX := fun s => frOf 0 46 [(5, .mp (.s 0) eM)]) (hX := fun s => ⟨[.map eM (R.map kvR), .hole, .hole, .hole], []⟩)
    [] [] (S2 := Empty) (frR := fun s => frOf 0 46 []) (hR := fun s => ⟨[], []⟩) ?_ ?_ ?_
  · exact rfl
  · exact rfl
  · rintro ⟨⟨k, kv⟩, hk, hu⟩
    simp only at hk hu
    show aexR _ _ _ (frOf 0 46 [(1, .int .i64 t), (5, .mp (.s 0) eM), (11, ntsA l), (12, .int .i64 (l.length : Int)), (13, .int .i64 (k : Int))]) ⟨[.map eM (kv.map kvR), .hole, .hole, .hole], []⟩ _
    (conv => whnf)
    refine ifB (fun g1 => ?_) (fun g1 => ?_)
    · simp only [decide_eq_true_eq] at g1
      have h1 : k < l.length := by omega
      have hm := mapR (f := ntR) h1
      rw [List.drop_eq_getElem_cons h1, kvs] at hu
      generalize l[k] = x at hm hu
      obtain ⟨xe, xc, xp, xf, xt⟩ := x
      simp only at hu
      replace hm : (l.map ntR)[0 + ((k : Nat) : Int).toNat]? = some [.int .i64 xe, .int .i64 xc, .int .i64 xp, .int .i64 xf, .int .i64 xt] := hm
      by_cases c1 : xf ≤ t ∧ t < xt
      · rw [if_pos c1] at hu
        cases hf : fnd 0 kv xp with
        | none =>
          have e1 := ups_none hf
          (repeat' (first | exact rfl | ((conv => whnf); first | refine optS hm ?_ | (refine findI_kv ?_; rw [hf]) | exact rfl | exact ⟨rfl, rfl⟩ | refine ⟨(by kernel_rfl : drawOk _ _ _ _ = true), ?_⟩ | refine ⟨(by kernel_rfl : planOk _ _ _ _ = true), ?_⟩ | refine ⟨rfl, ?_⟩ | refine ⟨by (first | omega | (simp (disch := omega) only [wrapI]; omega) | (simp (disch := omega) only [wrapI]; simp; omega) | (simp; omega)), ?_⟩ | (intro ep) | (refine ifB (fun hb => ?_) (fun hb => ?_) <;> (try simp only [decide_eq_true_eq, decide_eq_false_iff_not, beq_iff_eq, beq_eq_false_iff_ne, bne_iff_ne, bne_eq_false_iff_eq, ne_eq, not_false_eq_true, not_true_eq_false, Bool.not_eq_true, Bool.not_eq_true', Bool.not_eq_false', Int.not_lt, Int.not_le] at hb) <;> (try simp (disch := omega) only [wrapI] at hb) <;> (try (exfalso; omega))) | fail)))
          all_goals (conv => whnf)
          all_goals refine back_of ⟨(k + 1, ups kv xp), by simp only; omega, hu⟩ ⟨by (first | exact rfl | (simp (disch := omega) only [wrapI]; exact rfl)), ?_, by simp only; omega⟩
          all_goals show maskH 0 _ _ = ⟨[.map eM ((ups kv xp).map kvR), .hole, .hole, .hole], []⟩
          all_goals rw [e1, List.map_append]
          all_goals exact rfl
        | some y =>
          obtain ⟨j, c⟩ := y
          obtain ⟨_, e1⟩ := ups_some hf
          rw [Nat.sub_zero] at e1
          (repeat' (first | exact rfl | ((conv => whnf); first | refine optS hm ?_ | (refine findI_kv ?_; rw [hf]) | exact rfl | exact ⟨rfl, rfl⟩ | refine ⟨(by kernel_rfl : drawOk _ _ _ _ = true), ?_⟩ | refine ⟨(by kernel_rfl : planOk _ _ _ _ = true), ?_⟩ | refine ⟨rfl, ?_⟩ | refine ⟨by (first | omega | (simp (disch := omega) only [wrapI]; omega) | (simp (disch := omega) only [wrapI]; simp; omega) | (simp; omega)), ?_⟩ | (intro ep) | (refine ifB (fun hb => ?_) (fun hb => ?_) <;> (try simp only [decide_eq_true_eq, decide_eq_false_iff_not, beq_iff_eq, beq_eq_false_iff_ne, bne_iff_ne, bne_eq_false_iff_eq, ne_eq, not_false_eq_true, not_true_eq_false, Bool.not_eq_true, Bool.not_eq_true', Bool.not_eq_false', Int.not_lt, Int.not_le] at hb) <;> (try simp (disch := omega) only [wrapI] at hb) <;> (try (exfalso; omega))) | fail)))
          all_goals (conv => whnf)
          all_goals refine back_of ⟨(k + 1, ups kv xp), by simp only; omega, hu⟩ ⟨by (first | exact rfl | (simp (disch := omega) only [wrapI]; exact rfl)), ?_, by simp only; omega⟩
          all_goals show maskH 0 _ _ = ⟨[.map eM ((ups kv xp).map kvR), .hole, .hole, .hole], []⟩
          all_goals rw [e1, List.map_set]
          all_goals exact rfl
      · rw [if_neg c1] at hu
        (repeat' (first | exact rfl | ((conv => whnf); first | refine optS hm ?_ | exact rfl | exact ⟨rfl, rfl⟩ | refine ⟨(by kernel_rfl : drawOk _ _ _ _ = true), ?_⟩ | refine ⟨(by kernel_rfl : planOk _ _ _ _ = true), ?_⟩ | refine ⟨rfl, ?_⟩ | refine ⟨by (first | omega | (simp (disch := omega) only [wrapI]; omega) | (simp (disch := omega) only [wrapI]; simp; omega) | (simp; omega)), ?_⟩ | (intro ep) | (refine ifB (fun hb => ?_) (fun hb => ?_) <;> (try simp only [decide_eq_true_eq, decide_eq_false_iff_not, beq_iff_eq, beq_eq_false_iff_ne, bne_iff_ne, bne_eq_false_iff_eq, ne_eq, not_false_eq_true, not_true_eq_false, Bool.not_eq_true, Bool.not_eq_true', Bool.not_eq_false', Int.not_lt, Int.not_le] at hb) <;> (try simp (disch := omega) only [wrapI] at hb) <;> (try (exfalso; omega))) | fail)))
        all_goals (conv => whnf)
        all_goals exact back_of ⟨(k + 1, kv), by simp only; omega, hu⟩ ⟨by (first | exact rfl | (simp (disch := omega) only [wrapI]; exact rfl)), rfl, by simp only; omega⟩
    · simp only [decide_eq_false_iff_not] at g1
      rw [List.drop_eq_nil_of_le (by omega), kvs] at hu
      subst hu
      (repeat' (first | exact rfl | ((conv => whnf); first | exact rfl | exact ⟨rfl, rfl⟩ | refine ⟨(by kernel_rfl : drawOk _ _ _ _ = true), ?_⟩ | refine ⟨(by kernel_rfl : planOk _ _ _ _ = true), ?_⟩ | refine ⟨rfl, ?_⟩ | refine ⟨by (first | omega | (simp (disch := omega) only [wrapI]; omega) | (simp (disch := omega) only [wrapI]; simp; omega) | (simp; omega)), ?_⟩ | (intro ep) | fail)))
      all_goals (conv => whnf)
      all_goals exact back_of () ⟨rfl, rfl, rfl⟩
  · rintro ⟨⟩
  · intro u
    (conv => whnf)
    refine wk_seq (wk_aex X57 mixed (A := A41) ?_)
    (repeat' ((conv => whnf); first | exact rfl | exact ⟨rfl, rfl⟩ | refine ⟨(by kernel_rfl : drawOk _ _ _ _ = true), ?_⟩ | refine ⟨(by kernel_rfl : planOk _ _ _ _ = true), ?_⟩ | refine ⟨rfl, ?_⟩ | refine ⟨by (first | omega | (simp (disch := omega) only [wrapI]; omega) | (simp (disch := omega) only [wrapI]; simp; omega) | (simp; omega)), ?_⟩ | (intro ep) | fail))
    (conv => whnf)
    refine wk_lift 8 3 1 rfl ?_
    intro e3
    refine wk_seq (wk_rangeMap X57 mixed (A := A41) (sb := slotF []) (ss := slotF []) (se := slotF []) rfl rfl rfl rfl rfl rfl rfl rfl rfl rfl rfl rfl rfl rfl rfl
      [8, 34] [3] (S := { z : Nat × List Nat // z.2.Nodup ∧ ∀ i ∈ z.2, i < R.length })
      (fun epI s => frOf 0 46 [(8, .oslc (.s 3) s.1.1 1 0 (outL R s.1.2).length false), (34, .optr (.s 0) epI 1 0 0)])
      (fun s => ⟨[.hole, .hole, .hole, .vec s.1.1 (ints (outL R s.1.2))], []⟩) (fun s => s.1.2) ⟨(e3, []), by simp, by simp⟩ rfl (R.map kvR) (.s 0) (kt := 3) (vt := 3) rfl ?_ (fun epI s => rfl) ?_ ?_)
    · (conv => whnf)
      exact ⟨.s 0, eM, rfl, rfl, fun epI => rfl, rfl⟩
    · rintro epI ⟨⟨e, idx⟩, hn, hbd⟩ i k v hni hes
      simp only at hni hn hbd
      have hi : i < R.length := by have := (List.getElem?_eq_some_iff.1 hes).1; simpa using this
      have hkey : (keysL R).getD i 0 = R[i].1 := by simp [keysL, List.getD, hi]
      have hlen := nodup_le R.length (i :: idx) (List.nodup_cons.2 ⟨hni, hn⟩) (fun x hx => by rcases List.mem_cons.1 hx with rfl | hx; exact hi; exact hbd x hx)
      simp only [List.length_cons] at hlen
      have hol := outL_len R idx
      rw [List.getElem?_map, List.getElem?_eq_getElem hi] at hes
      simp only [Option.map_some, Option.some.injEq] at hes
      generalize R[i] = q at hes hkey
      obtain ⟨q1, q2⟩ := q
      cases hes
      show runOrd _ _ _ _ ((frOf 0 46 [(8, .oslc (.s 3) e 1 0 (outL R idx).length false), (34, .optr (.s 0) epI 1 0 0)]).set 35 (.tup [.bool true, .int .i64 q1, .int .i64 q2])) ⟨[.hole, .hole, .hole, .vec e (ints (outL R idx))], []⟩ _
      obtain ⟨O, hO⟩ : ∃ O, O = outL R idx := ⟨_, rfl⟩
      rw [← hO] at hol ⊢
      (repeat' (first | exact rfl | ((conv => whnf); first | exact rfl | exact ⟨rfl, rfl⟩ | refine ⟨(by kernel_rfl : drawOk _ _ _ _ = true), ?_⟩ | refine ⟨(by kernel_rfl : planOk _ _ _ _ = true), ?_⟩ | refine ⟨rfl, ?_⟩ | refine ⟨by (first | omega | (simp (disch := omega) only [wrapI]; omega) | (simp (disch := omega) only [wrapI]; simp; omega) | (simp; omega)), ?_⟩ | (intro ep) | (refine ifB (fun hb => ?_) (fun hb => ?_) <;> (try simp only [decide_eq_true_eq, decide_eq_false_iff_not, beq_iff_eq, beq_eq_false_iff_ne, bne_iff_ne, bne_eq_false_iff_eq, ne_eq, not_false_eq_true, not_true_eq_false, Bool.not_eq_true, Bool.not_eq_true', Bool.not_eq_false', Int.not_lt, Int.not_le] at hb) <;> (try simp (disch := omega) only [wrapI] at hb) <;> (try (exfalso; omega))) | fail)))
      all_goals (conv => whnf)
      refine back_of ⟨(ep, i :: idx), List.nodup_cons.2 ⟨hni, hn⟩, fun x hx => by rcases List.mem_cons.1 hx with rfl | hx; exact hi; exact hbd x hx⟩ ⟨?_, ?_, rfl⟩
      · show maskF 0 _ _ = frOf 0 46 [(8, .oslc (.s 3) ep 1 0 (outL R (i :: idx)).length false), (34, .optr (.s 0) epI 1 0 0)]
        rw [outL_cons, ← hO, hkey, List.length_append, List.length_singleton]
        exact rfl
      · show maskH 0 _ _ = ⟨[.hole, .hole, .hole, .vec ep (ints (outL R (i :: idx)))], []⟩
        have t3 : List.take O.length (List.drop 0 (ints O)) = ints O := by rw [List.drop_zero, List.take_of_length_le (by simp [ints])]
        rw [outL_cons, ← hO, hkey]
        rw [show ints (O ++ [q1]) = List.take O.length (List.drop 0 (ints O)) ++ [[.int .i64 q1]] by rw [t3]; simp [ints]]
        exact rfl
    · rintro epI ⟨⟨e, idx⟩, hn, hbd⟩ hall
      simp only at hn hbd hall
      have hperm : (outL R idx).Perm (keysL R) := by
        unfold outL
        refine ((List.reverse_perm idx).map _).trans (pick_perm hn hbd fun i hi => hall i (by simpa using hi))
      have hs : srt (outL R idx) = pit t l := by rw [hpit]; exact srt_perm hperm
      have hol := outL_len R idx
      have hlen := nodup_le R.length idx hn hbd
      show runOrd _ _ _ _ ((frOf 0 46 [(8, .oslc (.s 3) e 1 0 (outL R idx).length false), (34, .optr (.s 0) epI 1 0 0)]).set 35 (.tup [.bool false])) ⟨[.hole, .hole, .hole, .vec e (ints (outL R idx))], []⟩ _
      obtain ⟨O, hO⟩ : ∃ O, O = outL R idx := ⟨_, rfl⟩
      rw [← hO] at hol hs ⊢
      have hsl : (srt O).length = O.length := List.length_mergeSort _
      (repeat' (first | exact rfl | ((conv => whnf); first | exact rfl | exact ⟨rfl, rfl⟩ | refine ⟨(by kernel_rfl : drawOk _ _ _ _ = true), ?_⟩ | refine ⟨(by kernel_rfl : planOk _ _ _ _ = true), ?_⟩ | refine ⟨rfl, ?_⟩ | refine ⟨by (first | omega | (simp (disch := omega) only [wrapI]; omega) | (simp (disch := omega) only [wrapI]; simp; omega) | (simp; omega)), ?_⟩ | (intro ep) | fail)))
      refine wk_aex X57 mixed (A := A41) ?_
      (repeat' (first | exact rfl | ((conv => whnf); first | exact rfl | exact ⟨rfl, rfl⟩ | refine ⟨(by kernel_rfl : drawOk _ _ _ _ = true), ?_⟩ | refine ⟨(by kernel_rfl : planOk _ _ _ _ = true), ?_⟩ | refine ⟨rfl, ?_⟩ | refine ⟨by (first | omega | (simp (disch := omega) only [wrapI]; omega) | (simp (disch := omega) only [wrapI]; simp; omega) | (simp; omega)), ?_⟩ | (intro ep) | (refine ifB (fun hb => ?_) (fun hb => ?_) <;> (try simp only [decide_eq_true_eq, decide_eq_false_iff_not, beq_iff_eq, beq_eq_false_iff_ne, bne_iff_ne, bne_eq_false_iff_eq, ne_eq, not_false_eq_true, not_true_eq_false, Bool.not_eq_true, Bool.not_eq_true', Bool.not_eq_false', Int.not_lt, Int.not_le] at hb) <;> (try simp (disch := omega) only [wrapI] at hb) <;> (try (exfalso; omega))) | fail)))
      all_goals (conv => whnf)
      refine (sort59 (zs := O) (id := .s 3) (ep := e) rfl (by omega)).mono ?_
      rintro r h' ⟨rfl, rfl⟩
      (repeat' (first | exact rfl | ((conv => whnf); first | exact rfl | exact ⟨rfl, rfl⟩ | refine ⟨(by kernel_rfl : drawOk _ _ _ _ = true), ?_⟩ | refine ⟨(by kernel_rfl : planOk _ _ _ _ = true), ?_⟩ | refine ⟨rfl, ?_⟩ | refine ⟨by (first | omega | (simp (disch := omega) only [wrapI]; omega) | (simp (disch := omega) only [wrapI]; simp; omega) | (simp; omega)), ?_⟩ | (intro ep) | (refine ifB (fun hb => ?_) (fun hb => ?_) <;> (try simp only [decide_eq_true_eq, decide_eq_false_iff_not, beq_iff_eq, beq_eq_false_iff_ne, bne_iff_ne, bne_eq_false_iff_eq, ne_eq, not_false_eq_true, not_true_eq_false, Bool.not_eq_true, Bool.not_eq_true', Bool.not_eq_false', Int.not_lt, Int.not_le] at hb) <;> (try simp (disch := omega) only [wrapI] at hb) <;> (try (exfalso; omega))) | fail)))
      all_goals (conv => whnf)
      exact ⟨Go.Ab.pure_map (f := fun x : Int => [AV.int .i64 x]) (srt O) fun x => rfl, rfl, by rw [← hs, ← hsl]; rfl⟩
end Go.Ab.V
