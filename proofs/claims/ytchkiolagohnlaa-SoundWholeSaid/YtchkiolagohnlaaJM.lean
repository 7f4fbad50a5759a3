/-
  What is proved here serves the law's text: each part says its own claim and its conditions. No condition is left open.
-/
import Derived.Test.YtchkiolagohnlaaJL
import Derived.Test.YtchkiolagohnlaaKR
import Derived.Test.YtchkiolagohnlaaKF
import Derived.Test.YtchkiolagohnlaaKQ
set_option linter.unusedSimpArgs false
set_option linter.unusedVariables false

/-
  Sonorities: the program's walk. The pieces are of the machine's sizes.
-/
namespace Go.Ab.V
open Go.Proofs

theorem cpt_nil : cpt [] = [] := rfl
theorem compact77 {h : Heap} {id : Id} {ep n : Nat} {zs : List Int} (ho : h[id]? = some (.vec ep (ints zs))) (hl : zs.length ≤ 9223372036854775807) (hn : zs.length = n) :
    ACalls C.P 77 [.oslc id ep 1 0 n false] h fun r h' => r = .oslc id ep 1 0 (cpt zs).length false ∧ h' = h.set id (.vec ep (ints (cpt zs ++ List.replicate (zs.length - (cpt zs).length) 0))) := by
  subst hn
  exact compact_acalls (P := Try.prog) (f := 77) cpt_nil (fun zs => Lib.compact_length_le zs) (fun blk off cap zs w hH h1 h2 => Any.slices_Compact_int Try.laysCompact blk off cap zs w hH h1 h2) (fun p cap w => Any.slices_Compact_int_empty Try.laysCompact p cap w) ho hl
def snsA (l : List Sn) : AV := .lslc 3 (l.map snR) 0 l.length false
theorem pure_sns (l : List Sn) : pureRows (l.map snR) := Go.Ab.V.pure_map (f := snR) l fun x => rfl
theorem sh_sn (B E : Nat) (l : List Sn) : List.map (fun r => List.map (AV.sh1 B E) r) (l.map snR) = l.map snR := by
  rw [List.map_map]
  exact List.map_congr_left fun x _ => rfl
def sonV (p : Pc) : AV := if chk p = 0 then .tup [snsA (sonL p), .int .i64 0] else .tup [.nils, .int .i64 (chk p)]
theorem rawT_take {E : Int} {S : List Nt} {k : Nat} (h : k < S.length) : rawT E (S.take (k + 1)) = rawT E (S.take k) ++ [S[k].f, S[k].t] := by
  unfold rawT
  rw [List.take_add_one, List.getElem?_eq_getElem h, List.map_append, List.flatten_append]
  rfl
theorem rawT_len (E : Int) : ∀ S : List Nt, (rawT E S).length = 2 + 2 * S.length
  | [] => rfl
  | x :: r => by
    have := rawT_len E r
    unfold rawT at this ⊢
    simp only [List.map_cons, List.flatten_cons, List.length_cons, List.length_append, List.length_nil] at this ⊢
    omega
theorem sonP_drop (S : List Nt) {T : List Int} {i : Nat} (h : i + 1 < T.length) : sonP S (T.drop i) = ⟨T[i], T[i + 1], sndF S T[i] 128 0⟩ :: sonP S (T.drop (i + 1)) := by
  rw [List.drop_eq_getElem_cons (show i < T.length by omega), List.drop_eq_getElem_cons h, sonP]
theorem sonP_end (S : List Nt) {T : List Int} {i : Nat} (h : ¬ i + 1 < T.length) : sonP S (T.drop i) = [] := by
  have : (T.drop i).length ≤ 1 := by rw [List.length_drop]; omega
  match hT : T.drop i, this with
  | [], _ => rfl
  | [a], _ => rfl
  | a :: b :: r, h => simp at h
def A41 : Ann := fun r => match r with
  | 0 => { slots := [(0, 0)] }
  | 1 => { slots := [(5, 1)] }
  | 7 => { slots := [(2, 2)] }
  | 10 => { slots := [(2, 3)] }
  | 11 => { slots := [(5, 4), (6, 2)] }
  | 19 => { slots := [(17, 5), (18, 6)] }
  | _ => {}
theorem son_bad (p : Pc) (hp : p.Ok) (hc : ¬ chk p = 0) : PRet C.P 41 [pcA p] (.tup [.nils, .int .i64 (chk p)]) := by
  have h1 := listen_bad p hp hc
  generalize chk p = e at h1 hc
  refine pret_of ok mixed (A := A41) 7 Try.func41 rfl ?_
  (repeat' (first | exact rfl | ((conv => whnf); first | refine ⟨_, h1, ?_⟩ | exact rfl | exact ⟨rfl, rfl⟩ | refine ⟨(by kernel_rfl : drawOk _ _ _ _ = true), ?_⟩ | refine ⟨(by kernel_rfl : planOk _ _ _ _ = true), ?_⟩ | refine ⟨rfl, ?_⟩ | refine ⟨by (first | omega | (simp (disch := omega) only [wrapI]; omega) | (simp (disch := omega) only [wrapI]; simp; omega) | (simp; omega)), ?_⟩ | (intro ep) | (refine ifB (fun hb => ?_) (fun hb => ?_) <;> (try simp only [decide_eq_true_eq, decide_eq_false_iff_not, beq_iff_eq, beq_eq_false_iff_ne, bne_iff_ne, bne_eq_false_iff_eq, ne_eq, not_false_eq_true, not_true_eq_false, Bool.not_eq_true, Bool.not_eq_true', Bool.not_eq_false', Int.not_lt, Int.not_le] at hb) <;> (try simp (disch := omega) only [wrapI] at hb) <;> (try (exfalso; omega))) | fail)))
set_option maxHeartbeats 16000000 in
set_option maxRecDepth 100000 in
theorem son41h (p : Pc) (hp : p.Ok) (hc : chk p = 0) : HRet C.P 41 [pcA p] (fun B eps => .tup [.oslc (.d B) (eps 0) 3 0 (sonL p).length false, .int .i64 0]) (fun B eps => [.vec (eps 0) ((sonL p).map snR)]) := by
  have v := vp hc
  have h1 := listen_ok p hp hc
  have h2 := strings21 p hp
  unfold stringsV at h2
  rw [if_pos hc] at h2
  have h3 := end56 p v
  have hlen := strings_len v
  have htp := times_prog hc
  have htl := timL_len v
  obtain ⟨Z, hZ⟩ : ∃ Z, Z = sonL p := ⟨_, rfl⟩
  rw [← hZ]
  unfold sonL at hZ
  have h4 := fun t => pitches57 (stringsL p) t (by omega)
  have hps := fun t => pit_snd t (strings_rng v)
  simp only [hps] at h4
  clear hps
  generalize timL p = T at htp htl hZ
  unfold endT at htp
  generalize stringsL p = S at h2 h4 hlen htp hZ
  have hE := on_bd hc p.evs.length
  generalize on p p.evs.length = E at h3 htp hE
  refine hret_of (okx [] [59, 77]) mixed (A := A41) 7 Try.func41 rfl ?_ (fun B E eps => ⟨fun k => eps k + E, rfl, by rw [List.map_cons, AObj.sh, sh_sn]; rfl⟩)
  (repeat' (first | exact rfl | ((conv => whnf); first | refine ⟨_, h1, ?_⟩ | refine ⟨_, h2, ?_⟩ | refine ⟨_, h3, ?_⟩ | exact rfl | exact ⟨rfl, rfl⟩ | refine ⟨(by kernel_rfl : drawOk _ _ _ _ = true), ?_⟩ | refine ⟨(by kernel_rfl : planOk _ _ _ _ = true), ?_⟩ | refine ⟨rfl, ?_⟩ | refine ⟨by (first | omega | (simp (disch := omega) only [wrapI]; omega) | (simp (disch := omega) only [wrapI]; simp; omega) | (simp; omega)), ?_⟩ | (intro ep) | (refine ifB (fun hb => ?_) (fun hb => ?_) <;> (try simp only [decide_eq_true_eq, decide_eq_false_iff_not, beq_iff_eq, beq_eq_false_iff_ne, bne_iff_ne, bne_eq_false_iff_eq, ne_eq, not_false_eq_true, not_true_eq_false, Bool.not_eq_true, Bool.not_eq_true', Bool.not_eq_false', Int.not_lt, Int.not_le] at hb) <;> (try simp (disch := omega) only [wrapI] at hb) <;> (try (exfalso; omega))) | fail)))
  all_goals (conv => whnf)
  obtain ⟨e2, he⟩ : ∃ e2, e2 = ep := ⟨_, rfl⟩
  subst he
  refine loopY (okx [] [59, 77]) mixed (A := A41) [6, 7, 31, 32, 33] [2] (S := { z : Nat × Nat // z.1 ≤ S.length })
    (fr := fun s => frOf 0 76 [(6, ntsA S), (7, .oslc (.s 2) s.1.2 1 0 (2 + 2 * s.1.1) false), (31, ntsA S), (32, .int .i64 (S.length : Int)), (33, .int .i64 (s.1.1 : Int))])
    (h := fun s => ⟨[.hole, .hole, .vec s.1.2 (ints (rawT E (S.take s.1.1))), .hole, .hole, .hole, .hole], []⟩) (μ := fun s => S.length - s.1.1)
    ⟨(0, e2), Nat.zero_le _⟩ ?_ ?_
    [6, 7] [2] (S' := Nat) (X := fun _ => 0)
    (frX := fun s => frOf 0 76 [(6, ntsA S), (7, .oslc (.s 2) s 1 0 (rawT E S).length false)])
    (hX := fun s => ⟨[.hole, .hole, .vec s (ints (rawT E S)), .hole, .hole, .hole, .hole], []⟩)
    [] [] (S2 := Empty) (frR := fun s => frOf 0 76 []) (hR := fun s => ⟨[], []⟩) ?_ ?_ ?_
  · exact rfl
  · exact rfl
  · rintro ⟨⟨k, e2⟩, hk⟩
    dsimp only at hk
    show aexR _ _ _ (frOf 0 76 [(6, ntsA S), (7, .oslc (.s 2) e2 1 0 (2 + 2 * k) false), (31, ntsA S), (32, .int .i64 (S.length : Int)), (33, .int .i64 (k : Int))])
      ⟨[.hole, .hole, .vec e2 (ints (rawT E (S.take k))), .hole, .hole, .hole, .hole], []⟩ _
    by_cases g : k < S.length
    · have hm := mapR (f := ntR) g
      have hr := rawT_take (E := E) g
      have hrl := rawT_len E (S.take k)
      rw [List.length_take, Nat.min_eq_left hk] at hrl
      generalize S[k] = x at hm hr
      obtain ⟨xe, xc, xp, xf, xt⟩ := x
      dsimp only at hr
      obtain ⟨W, hW⟩ : ∃ W, W = rawT E (S.take k) := ⟨_, rfl⟩
      rw [← hW] at hr hrl ⊢
      have t1 : List.take (2 + 2 * k) (List.drop 0 (ints W)) = ints W := by rw [List.drop_zero, List.take_of_length_le (by simp [ints]; omega)]
      (repeat' (first | exact rfl | ((conv => whnf); first | refine optS hm ?_ | exact rfl | exact ⟨rfl, rfl⟩ | refine ⟨(by kernel_rfl : drawOk _ _ _ _ = true), ?_⟩ | refine ⟨(by kernel_rfl : planOk _ _ _ _ = true), ?_⟩ | refine ⟨rfl, ?_⟩ | refine ⟨by (first | omega | (simp (disch := omega) only [wrapI]; omega) | (simp (disch := omega) only [wrapI]; simp; omega) | (simp; omega)), ?_⟩ | (intro ep) | (refine ifB (fun hb => ?_) (fun hb => ?_) <;> (try simp only [decide_eq_true_eq, decide_eq_false_iff_not, beq_iff_eq, beq_eq_false_iff_ne, bne_iff_ne, bne_eq_false_iff_eq, ne_eq, not_false_eq_true, not_true_eq_false, Bool.not_eq_true, Bool.not_eq_true', Bool.not_eq_false', Int.not_lt, Int.not_le] at hb) <;> (try simp (disch := omega) only [wrapI] at hb) <;> (try (exfalso; omega))) | fail)))
      all_goals (conv => whnf)
      refine back_of ⟨(k + 1, ep), by dsimp only; omega⟩ ⟨?_, ?_, by dsimp only; omega⟩
      · show maskF 0 _ _ = frOf 0 76 [(6, ntsA S), (7, .oslc (.s 2) ep 1 0 (2 + 2 * k + 2) false), (31, ntsA S), (32, .int .i64 (S.length : Int)), (33, .int .i64 ((k + 1 : Nat) : Int))]
        (first | exact rfl | (simp (disch := omega) only [wrapI]; exact rfl))
      · show maskH 0 _ _ = ⟨[.hole, .hole, .vec ep (ints (rawT E (S.take (k + 1)))), .hole, .hole, .hole, .hole], []⟩
        have em : ints (rawT E (S.take (k + 1))) = List.take (2 + 2 * k) (List.drop 0 (ints W)) ++ [[.int .i64 xf], [.int .i64 xt]] := by rw [hr, t1]; simp [ints]
        rw [em]
        (first | exact rfl | (simp (disch := omega) only [wrapI]; exact rfl))
    · have hk2 : k = S.length := by omega
      have hrl := rawT_len E S
      (repeat' (first | exact rfl | ((conv => whnf); first | exact rfl | exact ⟨rfl, rfl⟩ | refine ⟨(by kernel_rfl : drawOk _ _ _ _ = true), ?_⟩ | refine ⟨(by kernel_rfl : planOk _ _ _ _ = true), ?_⟩ | refine ⟨rfl, ?_⟩ | refine ⟨by (first | omega | (simp (disch := omega) only [wrapI]; omega) | (simp (disch := omega) only [wrapI]; simp; omega) | (simp; omega)), ?_⟩ | (intro ep) | (refine ifB (fun hb => ?_) (fun hb => ?_) <;> (try simp only [decide_eq_true_eq, decide_eq_false_iff_not, beq_iff_eq, beq_eq_false_iff_ne, bne_iff_ne, bne_eq_false_iff_eq, ne_eq, not_false_eq_true, not_true_eq_false, Bool.not_eq_true, Bool.not_eq_true', Bool.not_eq_false', Int.not_lt, Int.not_le] at hb) <;> (try simp (disch := omega) only [wrapI] at hb) <;> (try (exfalso; omega))) | fail)))
      all_goals (conv => whnf)
      refine back_of e2 ⟨rfl, ?_, ?_⟩
      · show _ = frOf 0 76 [(6, ntsA S), (7, .oslc (.s 2) e2 1 0 (rawT E S).length false)]
        rw [hrl, ← hk2]
        exact rfl
      · show _ = (⟨[.hole, .hole, .vec e2 (ints (rawT E S)), .hole, .hole, .hole, .hole], []⟩ : Heap)
        rw [show rawT E S = rawT E (S.take k) by rw [hk2, List.take_length]]
        exact rfl
  · rintro ⟨⟩
  · intro e2
    have hrl := rawT_len E S
    generalize rawT E S = zs at htp hrl
    (repeat' (first | exact rfl | ((conv => whnf); first | exact rfl | exact ⟨rfl, rfl⟩ | refine ⟨(by kernel_rfl : drawOk _ _ _ _ = true), ?_⟩ | refine ⟨(by kernel_rfl : planOk _ _ _ _ = true), ?_⟩ | refine ⟨rfl, ?_⟩ | refine ⟨by (first | omega | (simp (disch := omega) only [wrapI]; omega) | (simp (disch := omega) only [wrapI]; simp; omega) | (simp; omega)), ?_⟩ | (intro ep) | (refine ifB (fun hb => ?_) (fun hb => ?_) <;> (try simp only [decide_eq_true_eq, decide_eq_false_iff_not, beq_iff_eq, beq_eq_false_iff_ne, bne_iff_ne, bne_eq_false_iff_eq, ne_eq, not_false_eq_true, not_true_eq_false, Bool.not_eq_true, Bool.not_eq_true', Bool.not_eq_false', Int.not_lt, Int.not_le] at hb) <;> (try simp (disch := omega) only [wrapI] at hb) <;> (try (exfalso; omega))) | fail)))
    all_goals (conv => whnf)
    refine (sort59 (zs := zs) rfl (by omega)).mono ?_
    rintro r h' ⟨rfl, rfl⟩
    (repeat' (first | exact rfl | ((conv => whnf); first | exact rfl | exact ⟨rfl, rfl⟩ | refine ⟨(by kernel_rfl : drawOk _ _ _ _ = true), ?_⟩ | refine ⟨(by kernel_rfl : planOk _ _ _ _ = true), ?_⟩ | refine ⟨rfl, ?_⟩ | refine ⟨by (first | omega | (simp (disch := omega) only [wrapI]; omega) | (simp (disch := omega) only [wrapI]; simp; omega) | (simp; omega)), ?_⟩ | (intro ep) | (refine ifB (fun hb => ?_) (fun hb => ?_) <;> (try simp only [decide_eq_true_eq, decide_eq_false_iff_not, beq_iff_eq, beq_eq_false_iff_ne, bne_iff_ne, bne_eq_false_iff_eq, ne_eq, not_false_eq_true, not_true_eq_false, Bool.not_eq_true, Bool.not_eq_true', Bool.not_eq_false', Int.not_lt, Int.not_le] at hb) <;> (try simp (disch := omega) only [wrapI] at hb) <;> (try (exfalso; omega))) | fail)))
    all_goals (conv => whnf)
    refine (compact77 (zs := srt zs) rfl (by rw [srt_len]; omega) (srt_len zs)).mono ?_
    rintro r h' ⟨rfl, rfl⟩
    rw [htp]
    generalize (srt zs).length - T.length = rep at *
    (repeat' (first | exact rfl | ((conv => whnf); first | exact rfl | exact ⟨rfl, rfl⟩ | refine ⟨(by kernel_rfl : drawOk _ _ _ _ = true), ?_⟩ | refine ⟨(by kernel_rfl : planOk _ _ _ _ = true), ?_⟩ | refine ⟨rfl, ?_⟩ | refine ⟨by (first | omega | (simp (disch := omega) only [wrapI]; omega) | (simp (disch := omega) only [wrapI]; simp; omega) | (simp; omega)), ?_⟩ | (intro ep) | (refine ifB (fun hb => ?_) (fun hb => ?_) <;> (try simp only [decide_eq_true_eq, decide_eq_false_iff_not, beq_iff_eq, beq_eq_false_iff_ne, bne_iff_ne, bne_eq_false_iff_eq, ne_eq, not_false_eq_true, not_true_eq_false, Bool.not_eq_true, Bool.not_eq_true', Bool.not_eq_false', Int.not_lt, Int.not_le] at hb) <;> (try simp (disch := omega) only [wrapI] at hb) <;> (try (exfalso; omega))) | fail)))
    all_goals (conv => whnf)
    refine wk_lift 10 6 3 rfl ?_
    intro e6
    refine loopY (okx [] [59, 77]) mixed (A := A41) [6, 7, 10, 11] [2, 6] (S := { z : Nat × Nat × List Sn // z.1 ≤ T.length ∧ z.2.2 ++ sonP S (T.drop z.1) = Z ∧ z.2.2.length ≤ z.1 })
      (fr := fun s => frOf 0 76 [(6, ntsA S), (7, .oslc (.s 2) e2 1 0 T.length false), (10, .oslc (.s 6) s.1.2.1 3 0 s.1.2.2.length false), (11, .int .i64 (s.1.1 : Int))])
      (h := fun s => ⟨[.hole, .hole, .vec e2 (ints (T ++ List.replicate rep 0)), .hole, .hole, .hole, .vec s.1.2.1 (s.1.2.2.map snR)], []⟩) (μ := fun s => T.length - s.1.1)
      ⟨(0, e6, []), Nat.zero_le _, hZ.symm, by simp⟩ ?_ ?_
      [10] [6] (S' := { z : Nat × List Sn // z.2 = Z }) (X := fun _ => 2)
      (frX := fun s => frOf 0 76 [(10, .oslc (.s 6) s.1.1 3 0 s.1.2.length false)])
      (hX := fun s => ⟨[.hole, .hole, .hole, .hole, .hole, .hole, .vec s.1.1 (s.1.2.map snR)], []⟩)
      [] [] (S2 := Empty) (frR := fun s => frOf 0 76 []) (hR := fun s => ⟨[], []⟩) ?_ ?_ ?_
    · exact rfl
    · exact rfl
    · rintro ⟨⟨i, e6, L⟩, hi, hu, hL⟩
      dsimp only at hi hu hL
      show aexR _ _ _ (frOf 0 76 [(6, ntsA S), (7, .oslc (.s 2) e2 1 0 T.length false), (10, .oslc (.s 6) e6 3 0 L.length false), (11, .int .i64 (i : Int))])
        ⟨[.hole, .hole, .vec e2 (ints (T ++ List.replicate rep 0)), .hole, .hole, .hole, .vec e6 (L.map snR)], []⟩ _
      by_cases g : i + 1 < T.length
      · have hm1 := intsR (l := T ++ List.replicate rep 0) (i := i) (by rw [List.length_append]; omega)
        have hm2 := intsR (l := T ++ List.replicate rep 0) (i := i + 1) (by rw [List.length_append]; omega)
        rw [List.getElem_append_left (show i < T.length by omega)] at hm1
        rw [List.getElem_append_left g] at hm2
        rw [sonP_drop S g, List.append_cons] at hu
        generalize T[i + 1] = b at hm2 hu
        generalize T[i] = a at hm1 hu
        have h5 := h4 a
        generalize sndF S a 128 0 = Q at h5 hu
        have hw : IntKind.i64.wrap ((i : Int) + 1) = ((i + 1 : Nat) : Int) := by rw [wrapI (by omega) (by omega)]; omega
        rw [← hw] at hm2
        have t1 : List.take L.length (List.drop 0 (L.map snR)) = L.map snR := by rw [List.drop_zero, List.take_of_length_le (by simp)]
        (repeat' (first | exact rfl | ((conv => whnf); first | refine optS hm1 ?_ | refine optS hm2 ?_ | refine ⟨_, h5, ?_⟩ | exact rfl | exact ⟨rfl, rfl⟩ | refine ⟨(by kernel_rfl : drawOk _ _ _ _ = true), ?_⟩ | refine ⟨(by kernel_rfl : planOk _ _ _ _ = true), ?_⟩ | refine ⟨rfl, ?_⟩ | refine ⟨by (first | omega | (simp (disch := omega) only [wrapI]; omega) | (simp (disch := omega) only [wrapI]; simp; omega) | (simp; omega)), ?_⟩ | (intro ep) | (refine ifB (fun hb => ?_) (fun hb => ?_) <;> (try simp only [decide_eq_true_eq, decide_eq_false_iff_not, beq_iff_eq, beq_eq_false_iff_ne, bne_iff_ne, bne_eq_false_iff_eq, ne_eq, not_false_eq_true, not_true_eq_false, Bool.not_eq_true, Bool.not_eq_true', Bool.not_eq_false', Int.not_lt, Int.not_le] at hb) <;> (try simp (disch := omega) only [wrapI] at hb) <;> (try (exfalso; omega))) | fail)))
        all_goals (conv => whnf)
        refine back_of ⟨(i + 1, ep, L ++ [⟨a, b, Q⟩]), by dsimp only; omega, hu, by dsimp only; rw [List.length_append, List.length_singleton]; omega⟩ ⟨?_, ?_, by dsimp only; omega⟩
        · show maskF 0 _ _ = frOf 0 76 [(6, ntsA S), (7, .oslc (.s 2) e2 1 0 T.length false), (10, .oslc (.s 6) ep 3 0 (L ++ [(⟨a, b, Q⟩ : Sn)]).length false), (11, .int .i64 ((i + 1 : Nat) : Int))]
          rw [List.length_append, List.length_singleton]
          (first | exact rfl | (simp (disch := omega) only [wrapI]; exact rfl))
        · show maskH 0 _ _ = ⟨[.hole, .hole, .vec e2 (ints (T ++ List.replicate rep 0)), .hole, .hole, .hole, .vec ep ((L ++ [(⟨a, b, Q⟩ : Sn)]).map snR)], []⟩
          have em : (L ++ [(⟨a, b, Q⟩ : Sn)]).map snR = List.take L.length (List.drop 0 (L.map snR)) ++ [[.int .i64 a, .int .i64 b, intsA Q]] := by rw [t1]; simp [snR]
          rw [em]
          (first | exact rfl | (simp (disch := omega) only [wrapI]; exact rfl))
      · rw [sonP_end S g, List.append_nil] at hu
        (repeat' (first | exact rfl | ((conv => whnf); first | exact rfl | exact ⟨rfl, rfl⟩ | refine ⟨(by kernel_rfl : drawOk _ _ _ _ = true), ?_⟩ | refine ⟨(by kernel_rfl : planOk _ _ _ _ = true), ?_⟩ | refine ⟨rfl, ?_⟩ | refine ⟨by (first | omega | (simp (disch := omega) only [wrapI]; omega) | (simp (disch := omega) only [wrapI]; simp; omega) | (simp; omega)), ?_⟩ | (intro ep) | (refine ifB (fun hb => ?_) (fun hb => ?_) <;> (try simp only [decide_eq_true_eq, decide_eq_false_iff_not, beq_iff_eq, beq_eq_false_iff_ne, bne_iff_ne, bne_eq_false_iff_eq, ne_eq, not_false_eq_true, not_true_eq_false, Bool.not_eq_true, Bool.not_eq_true', Bool.not_eq_false', Int.not_lt, Int.not_le] at hb) <;> (try simp (disch := omega) only [wrapI] at hb) <;> (try (exfalso; omega))) | fail)))
        all_goals (conv => whnf)
        all_goals exact back_of ⟨(e6, L), hu⟩ ⟨rfl, rfl, rfl⟩
    · rintro ⟨⟩
    · rintro ⟨⟨e6, L⟩, hz⟩
      dsimp only at hz
      subst hz
      (repeat' (first | exact rfl | ((conv => whnf); first | exact rfl | exact ⟨rfl, rfl⟩ | refine ⟨(by kernel_rfl : drawOk _ _ _ _ = true), ?_⟩ | refine ⟨(by kernel_rfl : planOk _ _ _ _ = true), ?_⟩ | refine ⟨rfl, ?_⟩ | refine ⟨by (first | omega | (simp (disch := omega) only [wrapI]; omega) | (simp (disch := omega) only [wrapI]; simp; omega) | (simp; omega)), ?_⟩ | (intro ep) | (refine ifB (fun hb => ?_) (fun hb => ?_) <;> (try simp only [decide_eq_true_eq, decide_eq_false_iff_not, beq_iff_eq, beq_eq_false_iff_ne, bne_iff_ne, bne_eq_false_iff_eq, ne_eq, not_false_eq_true, not_true_eq_false, Bool.not_eq_true, Bool.not_eq_true', Bool.not_eq_false', Int.not_lt, Int.not_le] at hb) <;> (try simp (disch := omega) only [wrapI] at hb) <;> (try (exfalso; omega))) | fail)))
      all_goals (conv => whnf)
      exact ⟨fun _ => ep, rfl, rfl⟩
theorem son41 (p : Pc) (hp : p.Ok) : PRet C.P 41 [pcA p] (sonV p) := by
  unfold sonV
  by_cases hc : chk p = 0
  · rw [if_pos hc]
    refine HRet.pret (son41h p hp hc) (fun eps o ho => ?_) (fun eps => ?_) rfl fun h => ?_
    · simp only [List.mem_cons, List.not_mem_nil, or_false] at ho
      subst ho
      exact pure_sns _
    · simp [fzV, fzC, snsA]
    · exact rfl
  · rw [if_neg hc]
    exact son_bad p hp hc
end Go.Ab.V
