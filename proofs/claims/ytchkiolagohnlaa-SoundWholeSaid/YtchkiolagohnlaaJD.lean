/-
  What is proved here serves the law's text: each part says its own claim and its conditions. No condition is left open.
-/
import Derived.Test.YtchkiolagohnlaaJC
import Derived.Test.YtchkiolagohnlaaKT
set_option linter.unusedSimpArgs false
set_option linter.unusedVariables false

/-
  What sounds at a time: the document's list is the program's. The pieces are valid.
-/
namespace Go.Ab.V
open Go.Proofs

/-- does a pitch sound? -/
def snd (l : List Nt) (t x : Int) : Bool := l.any fun n => decide (n.p = x) && (decide (n.f ≤ t) && decide (t < n.t))
def sndF (l : List Nt) (t : Int) : Nat → Nat → List Int
  | 0, _ => []
  | n + 1, k => if snd l t k = true then (k : Int) :: sndF l t n (k + 1) else sndF l t n (k + 1)
theorem sndF_mem (l : List Nt) (t : Int) : ∀ (n k : Nat) (x : Int), x ∈ sndF l t n k ↔ snd l t x = true ∧ (k : Int) ≤ x ∧ x < (k + n : Nat)
  | 0, k, x => by simp [sndF]
  | n + 1, k, x => by
    have ih := sndF_mem l t n (k + 1) x
    unfold sndF
    split
    · rename_i h
      rw [List.mem_cons, ih]
      constructor
      · rintro (rfl | h1)
        · exact ⟨h, by omega, by omega⟩
        · exact ⟨h1.1, by omega, by omega⟩
      · rintro ⟨h1, h2, h3⟩
        by_cases e : x = k
        · exact .inl e
        · exact .inr ⟨h1, by omega, by omega⟩
    · rename_i h
      rw [ih]
      constructor
      · rintro ⟨h1, h2, h3⟩
        exact ⟨h1, by omega, by omega⟩
      · rintro ⟨h1, h2, h3⟩
        have : x ≠ k := fun e => h (e ▸ h1)
        exact ⟨h1, by omega, by omega⟩
theorem sndF_asc (l : List Nt) (t : Int) : ∀ (n k : Nat), (sndF l t n k).Pairwise (· < ·)
  | 0, k => .nil
  | n + 1, k => by
    have ih := sndF_asc l t n (k + 1)
    unfold sndF
    split
    · refine List.pairwise_cons.2 ⟨fun x hx => ?_, ih⟩
      have := (sndF_mem l t n (k + 1) x).1 hx
      omega
    · exact ih
theorem sndF_len (l : List Nt) (t : Int) : ∀ (n k : Nat), (sndF l t n k).length ≤ n
  | 0, k => by simp [sndF]
  | n + 1, k => by
    have ih := sndF_len l t n (k + 1)
    unfold sndF
    split
    · rw [List.length_cons]; omega
    · omega
theorem snd_iff {l : List Nt} {t x : Int} : snd l t x = true ↔ ∃ n ∈ l, (n.f ≤ t ∧ t < n.t) ∧ n.p = x := by
  unfold snd
  rw [List.any_eq_true]
  constructor
  · rintro ⟨n, hn, h⟩
    simp only [Bool.and_eq_true, decide_eq_true_eq] at h
    exact ⟨n, hn, h.2, h.1⟩
  · rintro ⟨n, hn, h1, h2⟩
    exact ⟨n, hn, by simp only [Bool.and_eq_true, decide_eq_true_eq]; exact ⟨h2, h1⟩⟩
theorem srt_of {l m : List Int} (hp : m.Perm l) (hs : m.Pairwise (· ≤ ·)) : srt l = m := by
  rw [← srt_perm hp]
  exact List.mergeSort_of_pairwise (le := fun x y : Int => decide (x ≤ y)) (hs.imp fun h => by simpa using h)
theorem pit_snd {l : List Nt} (t : Int) (h : ∀ n ∈ l, 0 ≤ n.p ∧ n.p ≤ 127) : pit t l = sndF l t 128 0 := by
  unfold pit
  have ha := sndF_asc l t 128 0
  refine srt_of ?_ (ha.imp fun h => Int.le_of_lt h)
  refine (List.perm_ext_iff_of_nodup (ha.imp fun h => Int.ne_of_lt h) (nodup_kvs t l [] (by simp [keysL]))).2 fun x => ?_
  rw [sndF_mem, snd_iff, keys_kvs]
  constructor
  · rintro ⟨h1, _⟩; exact .inr h1
  · rintro (h1 | ⟨n, hn, h1, h2⟩)
    · simp [keysL] at h1
    · have := h n hn
      exact ⟨⟨n, hn, h1, h2⟩, by omega, by omega⟩

/-! ### pitches are at most 127 -/
theorem chkSteps_asc : ∀ (l : List Int) (last : Int), chkSteps last l = true → l.Pairwise (· < ·)
  | [], _, _ => .nil
  | s :: r, last, h => by
    simp only [chkSteps, Bool.and_eq_true, decide_eq_true_eq] at h
    exact List.pairwise_cons.2 ⟨fun x hx => (chkSteps_bd r s h.2 x hx).1, chkSteps_asc r s h.2⟩
theorem steps_mono {i : Ins} (h : chkSteps 0 i.steps = true) {a b : Nat} (hab : a ≤ b) (hb : b < i.steps.length) : i.steps.getD a 0 ≤ i.steps.getD b 0 := by
  rw [List.getD, List.getD, List.getElem?_eq_getElem hb, List.getElem?_eq_getElem (show a < i.steps.length by omega)]
  simp only [Option.getD_some]
  rcases Nat.lt_or_ge a b with h1 | h1
  · exact Int.le_of_lt (List.pairwise_iff_getElem.1 (chkSteps_asc _ _ h) a b _ _ h1)
  · have : a = b := by omega
    subst this
    exact Int.le_refl _
theorem pitch_high {p : Pc} (v : Vp p) {c f : Int} (hc : 1 ≤ c ∧ c ≤ p.ins.cs.length) (hf : 0 ≤ f ∧ f ≤ fretsOf p.ins c) : pitchOf p.ins c f + (if (crsAt p.ins c).oct = true then 12 else 0) ≤ 127 := by
  have h1 := v.crs _ (crsAt_mem hc)
  have h2 := (chkIn_iff v.chkI).2.1
  have hfr : fretsOf p.ins c = (crsAt p.ins c).frets := rfl
  rw [hfr] at hf
  unfold pitchOf
  unfold highest at h1
  by_cases h0 : 0 < f
  · have h3 := steps_mono h2 (a := (f - 1).toNat) (b := ((crsAt p.ins c).frets - 1).toNat) (by omega) (by omega)
    rw [if_pos h0]
    rw [if_pos (show 0 < (crsAt p.ins c).frets by omega)] at h1
    omega
  · rw [if_neg h0]
    have h3 := steps_bd v.stp ((crsAt p.ins c).frets - 1).toNat
    split at h1 <;> split at h1 <;> simp_all <;> omega
theorem strings_rng {p : Pc} (v : Vp p) : ∀ n ∈ stringsL p, 0 ≤ n.p ∧ n.p ≤ 127 := by
  intro n hn
  unfold stringsL strL at hn
  obtain ⟨r, hr, hnr⟩ := List.mem_flatten.1 hn
  obtain ⟨x, hx, rfl⟩ := List.mem_map.1 hr
  obtain ⟨k, hk, s, hs, rfl⟩ := notes_mem hx
  have h1 := v.sp k hk s hs
  have h2 := pitch_bd v h1.1 s.f
  have h3 := pitch_high v h1.1 h1.2.1
  unfold strs at hnr
  have e1 : (noteOf p k s).c = s.c := rfl
  have e2 : (noteOf p k s).p = pitchOf p.ins s.c s.f := rfl
  rw [e1] at hnr
  split at hnr
  · rename_i ho
    rw [if_pos ho] at h3
    rcases List.mem_cons.1 hnr with rfl | hnr
    · rw [e2]; omega
    · rw [List.mem_singleton.1 hnr]
      show 0 ≤ (noteOf p k s).p + 12 ∧ (noteOf p k s).p + 12 ≤ 127
      rw [e2]; omega
  · rename_i ho
    rw [if_neg ho] at h3
    rw [List.mem_singleton.1 hnr, e2]
    omega
theorem strings_len {p : Pc} (v : Vp p) : (stringsL p).length ≤ 11200 := by
  have h1 := strL_len p.ins (notesL p)
  have h2 := notes_len v
  unfold stringsL
  omega
def A58 : Ann := fun r => match r with
  | 9 => { slots := [(2, 0), (3, 1)] }
  | _ => {}
set_option maxHeartbeats 8000000 in
set_option maxRecDepth 100000 in
theorem sounding58 (l : List Nt) (t : Int) (hl : l.length ≤ 100000) : PRet C.P 58 [ntsA l, .int .i64 t] (intsA (sndF l t 128 0)) := by
  obtain ⟨Z, hZ⟩ : ∃ Z, Z = sndF l t 128 0 := ⟨_, rfl⟩
  rw [← hZ]
  refine pret_of ok mixed (A := A58) 2 Try.func58 rfl ?_
  (repeat' (first | exact rfl | ((conv => whnf); first | exact rfl | exact ⟨rfl, rfl⟩ | refine ⟨(by kernel_rfl : drawOk _ _ _ _ = true), ?_⟩ | refine ⟨(by kernel_rfl : planOk _ _ _ _ = true), ?_⟩ | refine ⟨rfl, ?_⟩ | refine ⟨by (first | omega | (simp (disch := omega) only [wrapI]; omega) | (simp (disch := omega) only [wrapI]; simp; omega) | (simp; omega)), ?_⟩ | (intro ep) | (refine ifB (fun hb => ?_) (fun hb => ?_) <;> (try simp only [decide_eq_true_eq, decide_eq_false_iff_not, beq_iff_eq, beq_eq_false_iff_ne, bne_iff_ne, bne_eq_false_iff_eq, ne_eq, not_false_eq_true, not_true_eq_false, Bool.not_eq_true, Bool.not_eq_true', Bool.not_eq_false', Int.not_lt, Int.not_le] at hb) <;> (try simp (disch := omega) only [wrapI] at hb) <;> (try (exfalso; omega))) | fail)))
  all_goals (conv => whnf)
  refine wk_lift 5 1 1 rfl ?_
  intro e1
  (conv => whnf)
  refine loopY ok mixed (A := A58) [0, 1, 5, 6] [1] (S := { z : Nat × Nat × List Int // z.1 ≤ 128 ∧ z.2.2 ++ sndF l t (128 - z.1) z.1 = Z ∧ z.2.2.length ≤ z.1 })
    (fr := fun s => frOf 0 48 [(0, ntsA l), (1, .int .i64 t), (5, .oslc (.s 1) s.1.2.1 1 0 s.1.2.2.length false), (6, .int .i64 (s.1.1 : Int))])
    (h := fun s => ⟨[.hole, .vec s.1.2.1 (ints s.1.2.2)], []⟩) (μ := fun s => 128 - s.1.1)
    ⟨(0, e1, []), by simp, hZ.symm, by simp⟩ ?_ ?_
    [5] [1] (S' := { z : Nat × List Int // z.2 = Z }) (X := fun _ => 0)
    (frX := fun s => frOf 0 48 [(5, .oslc (.s 1) s.1.1 1 0 s.1.2.length false)])
    (hX := fun s => ⟨[.hole, .vec s.1.1 (ints s.1.2)], []⟩)
    [] [] (S2 := Empty) (frR := fun s => frOf 0 48 []) (hR := fun s => ⟨[], []⟩) ?_ ?_ ?_
  · exact rfl
  · exact rfl
  · rintro ⟨⟨k, e1, L⟩, hk, hu, hL⟩
    dsimp only at hk hu hL
    show aexR _ _ _ (frOf 0 48 [(0, ntsA l), (1, .int .i64 t), (5, .oslc (.s 1) e1 1 0 L.length false), (6, .int .i64 (k : Int))]) ⟨[.hole, .vec e1 (ints L)], []⟩ _
    by_cases hk2 : k < 128
    · obtain ⟨n, hn⟩ : ∃ n, 128 - k = n + 1 := ⟨127 - k, by omega⟩
      have hn2 : 128 - (k + 1) = n := by omega
      rw [hn] at hu
      have t1 : List.take L.length (List.drop 0 (ints L)) = ints L := by rw [List.drop_zero, List.take_of_length_le (by simp [ints])]
      have em : ints (L ++ [(k : Int)]) = List.take L.length (List.drop 0 (ints L)) ++ [[.int .i64 (k : Int)]] := by rw [t1]; simp [ints]
      obtain ⟨M, hM⟩ : ∃ M, M = snd l t k := ⟨_, rfl⟩
      unfold sndF at hu
      rw [← hM] at hu
      (repeat' (first | exact rfl | ((conv => whnf); first | exact rfl | exact ⟨rfl, rfl⟩ | refine ⟨(by kernel_rfl : drawOk _ _ _ _ = true), ?_⟩ | refine ⟨(by kernel_rfl : planOk _ _ _ _ = true), ?_⟩ | refine ⟨rfl, ?_⟩ | refine ⟨by (first | omega | (simp (disch := omega) only [wrapI]; omega) | (simp (disch := omega) only [wrapI]; simp; omega) | (simp; omega)), ?_⟩ | (intro ep) | (refine ifB (fun hb => ?_) (fun hb => ?_) <;> (try simp only [decide_eq_true_eq, decide_eq_false_iff_not, beq_iff_eq, beq_eq_false_iff_ne, bne_iff_ne, bne_eq_false_iff_eq, ne_eq, not_false_eq_true, not_true_eq_false, Bool.not_eq_true, Bool.not_eq_true', Bool.not_eq_false', Int.not_lt, Int.not_le] at hb) <;> (try simp (disch := omega) only [wrapI] at hb) <;> (try (exfalso; omega))) | fail)))
      all_goals (conv => whnf)
      refine loopY ok mixed (A := A58) [0, 1, 5, 6, 7] [1] (S := { j : Nat // j ≤ l.length ∧ snd (l.drop j) t k = M })
        (fr := fun s => frOf 0 48 [(0, ntsA l), (1, .int .i64 t), (5, .oslc (.s 1) e1 1 0 L.length false), (6, .int .i64 (k : Int)), (7, .int .i64 (s.1 : Int))])
        (h := fun s => ⟨[.hole, .vec e1 (ints L)], []⟩) (μ := fun s => l.length - s.1)
        ⟨0, Nat.zero_le _, hM.symm⟩ ?_ ?_
        [0, 1, 5, 6] [1] (S' := { z : Nat × List Int // z.2 ++ sndF l t n (k + 1) = Z ∧ z.2.length ≤ k + 1 }) (X := fun _ => 2)
        (frX := fun s => frOf 0 48 [(0, ntsA l), (1, .int .i64 t), (5, .oslc (.s 1) s.1.1 1 0 s.1.2.length false), (6, .int .i64 (k : Int))])
        (hX := fun s => ⟨[.hole, .vec s.1.1 (ints s.1.2)], []⟩)
        [] [] (S2 := Empty) (frR := fun s => frOf 0 48 []) (hR := fun s => ⟨[], []⟩) ?_ ?_ ?_
      · exact rfl
      · exact rfl
      · rintro ⟨j, hj, hs⟩
        show aexR _ _ _ (frOf 0 48 [(0, ntsA l), (1, .int .i64 t), (5, .oslc (.s 1) e1 1 0 L.length false), (6, .int .i64 (k : Int)), (7, .int .i64 (j : Int))]) ⟨[.hole, .vec e1 (ints L)], []⟩ _
        by_cases hj2 : j < l.length
        · have hm := mapR (f := ntR) hj2
          rw [List.drop_eq_getElem_cons hj2] at hs
          unfold snd at hs
          rw [List.any_cons] at hs
          have hs : ((decide (l[j].p = (k : Int)) && (decide (l[j].f ≤ t) && decide (t < l[j].t))) || snd (l.drop (j + 1)) t k) = M := hs
          generalize l[j] = x at hm hs
          obtain ⟨xe, xc, xp, xf, xt⟩ := x
          dsimp only at hs
          by_cases c1 : xp = k ∧ (xf ≤ t ∧ t < xt)
          · have hMt : M = true := by rw [← hs]; simp [c1]
            rw [if_pos hMt] at hu
            (repeat' (first | exact rfl | ((conv => whnf); first | refine optS hm ?_ | exact rfl | exact ⟨rfl, rfl⟩ | refine ⟨(by kernel_rfl : drawOk _ _ _ _ = true), ?_⟩ | refine ⟨(by kernel_rfl : planOk _ _ _ _ = true), ?_⟩ | refine ⟨rfl, ?_⟩ | refine ⟨by (first | omega | (simp (disch := omega) only [wrapI]; omega) | (simp (disch := omega) only [wrapI]; simp; omega) | (simp; omega)), ?_⟩ | (intro ep) | (refine ifB (fun hb => ?_) (fun hb => ?_) <;> (try simp only [decide_eq_true_eq, decide_eq_false_iff_not, beq_iff_eq, beq_eq_false_iff_ne, bne_iff_ne, bne_eq_false_iff_eq, ne_eq, not_false_eq_true, not_true_eq_false, Bool.not_eq_true, Bool.not_eq_true', Bool.not_eq_false', Int.not_lt, Int.not_le] at hb) <;> (try simp (disch := omega) only [wrapI] at hb) <;> (try (exfalso; omega))) | fail)))
            all_goals (conv => whnf)
            refine back_of ⟨(ep, L ++ [(k : Int)]), by dsimp only; rw [← hu]; simp, by dsimp only; rw [List.length_append, List.length_singleton]; omega⟩ ⟨rfl, ?_, ?_⟩
            · show maskF 0 _ _ = frOf 0 48 [(0, ntsA l), (1, .int .i64 t), (5, .oslc (.s 1) ep 1 0 (L ++ [(k : Int)]).length false), (6, .int .i64 (k : Int))]
              rw [List.length_append, List.length_singleton]
              (first | exact rfl | (simp (disch := omega) only [wrapI]; exact rfl))
            · show maskH 0 _ _ = ⟨[.hole, .vec ep (ints (L ++ [(k : Int)]))], []⟩
              rw [em]
              (first | exact rfl | (simp (disch := omega) only [wrapI]; exact rfl))
          · have hs2 : snd (l.drop (j + 1)) t k = M := by
              rw [← hs]
              rw [show (decide (xp = (k : Int)) && (decide (xf ≤ t) && decide (t < xt))) = false by
                cases hd : (decide (xp = (k : Int)) && (decide (xf ≤ t) && decide (t < xt)))
                · rfl
                · exfalso
                  simp only [Bool.and_eq_true, decide_eq_true_eq] at hd
                  exact c1 hd]
              rfl
            (repeat' (first | exact rfl | ((conv => whnf); first | refine optS hm ?_ | exact rfl | exact ⟨rfl, rfl⟩ | refine ⟨(by kernel_rfl : drawOk _ _ _ _ = true), ?_⟩ | refine ⟨(by kernel_rfl : planOk _ _ _ _ = true), ?_⟩ | refine ⟨rfl, ?_⟩ | refine ⟨by (first | omega | (simp (disch := omega) only [wrapI]; omega) | (simp (disch := omega) only [wrapI]; simp; omega) | (simp; omega)), ?_⟩ | (intro ep) | (refine ifB (fun hb => ?_) (fun hb => ?_) <;> (try simp only [decide_eq_true_eq, decide_eq_false_iff_not, beq_iff_eq, beq_eq_false_iff_ne, bne_iff_ne, bne_eq_false_iff_eq, ne_eq, not_false_eq_true, not_true_eq_false, Bool.not_eq_true, Bool.not_eq_true', Bool.not_eq_false', Int.not_lt, Int.not_le] at hb) <;> (try simp (disch := omega) only [wrapI] at hb) <;> (try (exfalso; omega))) | fail)))
            all_goals (conv => whnf)
            all_goals exact back_of ⟨j + 1, by omega, hs2⟩ ⟨by (first | exact rfl | (simp (disch := omega) only [wrapI]; exact rfl)), rfl, by dsimp only; omega⟩
        · have hj3 : j = l.length := by omega
          subst hj3
          rw [List.drop_length] at hs
          have hMf : M = false := by rw [← hs]; rfl
          rw [hMf, if_neg (by simp)] at hu
          (repeat' (first | exact rfl | ((conv => whnf); first | exact rfl | exact ⟨rfl, rfl⟩ | refine ⟨(by kernel_rfl : drawOk _ _ _ _ = true), ?_⟩ | refine ⟨(by kernel_rfl : planOk _ _ _ _ = true), ?_⟩ | refine ⟨rfl, ?_⟩ | refine ⟨by (first | omega | (simp (disch := omega) only [wrapI]; omega) | (simp (disch := omega) only [wrapI]; simp; omega) | (simp; omega)), ?_⟩ | (intro ep) | (refine ifB (fun hb => ?_) (fun hb => ?_) <;> (try simp only [decide_eq_true_eq, decide_eq_false_iff_not, beq_iff_eq, beq_eq_false_iff_ne, bne_iff_ne, bne_eq_false_iff_eq, ne_eq, not_false_eq_true, not_true_eq_false, Bool.not_eq_true, Bool.not_eq_true', Bool.not_eq_false', Int.not_lt, Int.not_le] at hb) <;> (try simp (disch := omega) only [wrapI] at hb) <;> (try (exfalso; omega))) | fail)))
          all_goals (conv => whnf)
          all_goals exact back_of ⟨(e1, L), hu, by dsimp only; omega⟩ ⟨rfl, rfl, rfl⟩
      · rintro ⟨⟩
      · rintro ⟨⟨e1, L⟩, hz, h1⟩
        dsimp only at hz h1
        (repeat' (first | exact rfl | ((conv => whnf); first | exact rfl | exact ⟨rfl, rfl⟩ | refine ⟨(by kernel_rfl : drawOk _ _ _ _ = true), ?_⟩ | refine ⟨(by kernel_rfl : planOk _ _ _ _ = true), ?_⟩ | refine ⟨rfl, ?_⟩ | refine ⟨by (first | omega | (simp (disch := omega) only [wrapI]; omega) | (simp (disch := omega) only [wrapI]; simp; omega) | (simp; omega)), ?_⟩ | (intro ep) | fail)))
        all_goals (conv => whnf)
        all_goals exact back_of ⟨(k + 1, e1, L), by dsimp only; omega, by dsimp only; rw [hn2]; exact hz, by dsimp only; omega⟩ ⟨by (first | exact rfl | (simp (disch := omega) only [wrapI]; exact rfl)), rfl, by dsimp only; omega⟩
    · have hk3 : k = 128 := by omega
      subst hk3
      rw [Nat.sub_self, sndF, List.append_nil] at hu
      (repeat' (first | exact rfl | ((conv => whnf); first | exact rfl | exact ⟨rfl, rfl⟩ | refine ⟨(by kernel_rfl : drawOk _ _ _ _ = true), ?_⟩ | refine ⟨(by kernel_rfl : planOk _ _ _ _ = true), ?_⟩ | refine ⟨rfl, ?_⟩ | refine ⟨by (first | omega | (simp (disch := omega) only [wrapI]; omega) | (simp (disch := omega) only [wrapI]; simp; omega) | (simp; omega)), ?_⟩ | (intro ep) | (refine ifB (fun hb => ?_) (fun hb => ?_) <;> (try simp only [decide_eq_true_eq, decide_eq_false_iff_not, beq_iff_eq, beq_eq_false_iff_ne, bne_iff_ne, bne_eq_false_iff_eq, ne_eq, not_false_eq_true, not_true_eq_false, Bool.not_eq_true, Bool.not_eq_true', Bool.not_eq_false', Int.not_lt, Int.not_le] at hb) <;> (try simp (disch := omega) only [wrapI] at hb) <;> (try (exfalso; omega))) | fail)))
      all_goals (conv => whnf)
      all_goals exact back_of ⟨(e1, L), hu⟩ ⟨rfl, rfl, rfl⟩
  · rintro ⟨⟩
  · rintro ⟨⟨e1, L⟩, hz⟩
    dsimp only at hz
    subst hz
    (repeat' (first | exact rfl | ((conv => whnf); first | exact rfl | exact ⟨rfl, rfl⟩ | refine ⟨(by kernel_rfl : drawOk _ _ _ _ = true), ?_⟩ | refine ⟨(by kernel_rfl : planOk _ _ _ _ = true), ?_⟩ | refine ⟨rfl, ?_⟩ | refine ⟨by (first | omega | (simp (disch := omega) only [wrapI]; omega) | (simp (disch := omega) only [wrapI]; simp; omega) | (simp; omega)), ?_⟩ | (intro ep) | (refine ifB (fun hb => ?_) (fun hb => ?_) <;> (try simp only [decide_eq_true_eq, decide_eq_false_iff_not, beq_iff_eq, beq_eq_false_iff_ne, bne_iff_ne, bne_eq_false_iff_eq, ne_eq, not_false_eq_true, not_true_eq_false, Bool.not_eq_true, Bool.not_eq_true', Bool.not_eq_false', Int.not_lt, Int.not_le] at hb) <;> (try simp (disch := omega) only [wrapI] at hb) <;> (try (exfalso; omega))) | fail)))
    all_goals (conv => whnf)
    exact ⟨Go.Ab.V.pure_map (f := fun x : Int => [AV.int .i64 x]) L fun x => rfl, rfl, rfl⟩
end Go.Ab.V
