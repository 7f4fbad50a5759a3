/-
  What is proved here serves the law's text: each part says its own claim and its conditions. No condition is left open.
-/
import Derived.Test.YtchkiolagohnlaaGreatJA
set_option linter.unusedSimpArgs false
set_option linter.unusedVariables false

/-
  The notes of a sounding piece: the program's walk. The pieces are valid.
-/
namespace Go.Ab.V
open Go.Proofs

def A38 : Ann := fun r => match r with
  | 0 => { slots := [(0, 0)] }
  | 1 => { slots := [(0, 1)] }
  | 3 => { slots := [(0, 2)] }
  | 7 => { slots := [(3, 3)] }
  | 17 => { slots := [(2, 4)] }
  | 20 => { slots := [(8, 5)] }
  | 24 => { slots := [(2, 6), (3, 7)] }
  | 25 => { slots := [(11, 8), (12, 9)] }
  | _ => {}
/-- the frame and the objects between the events -/
def fr51 (p : Pc) (e0 e1 e2 e9 : Nat) (n : Nat) : List (Nat × AV) := [(1, .optr (.s 0) e0 4 0 0), (4, .optr (.s 1) e1 1 0 0), (5, .oslc (.s 9) e9 5 0 n false), (6, .optr (.s 2) e2 15 0 0), (7, .fn (.func 56) [] [.optr (.s 2) e2 15 0 0, .optr (.s 1) e1 1 0 0])]
def hp51 (p : Pc) (e0 e1 e2 e7 e9 : Nat) (x3 x4 x5 x6 x8 : AObj) (z : RS) : List AObj := [.vec e0 [sndV p], .vec e1 [[.oslc (.s 7) e7 5 0 z.o.length false]], .vec e2 [rgR z.R], x3, x4, x5, x6, .vec e7 (z.o.map ntR), x8, .vec e9 (z.w.map prR)]
theorem sh_nt (B E : Nat) (l : List Nt) : List.map (fun r => List.map (AV.sh1 B E) r) (l.map ntR) = l.map ntR := by
  rw [List.map_map]
  exact List.map_congr_left fun x _ => rfl
theorem sh_pr (B E : Nat) (l : List Pr) : List.map (fun r => List.map (AV.sh1 B E) r) (l.map prR) = l.map prR := by
  rw [List.map_map]
  exact List.map_congr_left fun x _ => rfl
set_option maxHeartbeats 16000000 in
set_option maxRecDepth 100000 in
theorem notes51h (p : Pc) (v : Vp p) : HRet C.P 38 [sndA p] (fun B eps => .tup [.oslc (.d B) (eps 0) 5 0 (notesL p).length false, .oslc (.d (B + 1)) (eps 1) 5 0 (pressL p).length false]) (fun B eps => [.vec (eps 0) ((notesL p).map ntR), .vec (eps 1) ((pressL p).map prR)]) := by
  obtain ⟨hN, hP⟩ := run_out v
  obtain ⟨Z, hZ⟩ : ∃ Z, Z = runE p 0 p.evs rs0 := ⟨_, rfl⟩
  rw [← hZ] at hN hP
  rw [← hN, ← hP]
  have hlen := v.len
  have h56 := end56 p v
  have hcs := v.cs
  have hol := ons_len p
  refine hret_of ok mixed (A := A38) 10 Tryz.func38 rfl ?_ (fun B E eps => ⟨fun k => eps k + E, rfl, by rw [List.map_cons, List.map_cons, AObj.sh, AObj.sh, sh_nt, sh_pr]; rfl⟩)
  (repeat' ((conv => whnf); first | exact rfl | exact ⟨rfl, rfl⟩ | refine ⟨(by kernel_rfl : drawOk _ _ _ _ = true), ?_⟩ | refine ⟨(by kernel_rfl : planOk _ _ _ _ = true), ?_⟩ | refine ⟨rfl, ?_⟩ | refine ⟨by (first | omega | (simp (disch := omega) only [wrapI]; omega) | (simp (disch := omega) only [wrapI]; simp; omega) | (simp; omega)), ?_⟩ | (intro ep) | (refine ifB (fun hb => ?_) (fun hb => ?_) <;> (try simp only [decide_eq_true_eq, decide_eq_false_iff_not, beq_iff_eq, beq_eq_false_iff_ne, bne_iff_ne, bne_eq_false_iff_eq, ne_eq, not_false_eq_true, not_true_eq_false, Bool.not_eq_true, Bool.not_eq_true', Bool.not_eq_false', Int.not_lt, Int.not_le] at hb) <;> (try simp (disch := omega) only [wrapI] at hb) <;> (try (exfalso; omega))) | fail))
  all_goals (conv => whnf)
  rename_i e0 e1
  obtain ⟨e2, he⟩ : ∃ e2, e2 = ep := ⟨_, rfl⟩
  subst he
  refine wk_lift 5 9 5 rfl ?_
  intro e9
  (conv => whnf)
  refine wk_liftC 1 7 e1 5 0 0 (by decide) rfl rfl rfl ?_
  intro e7
  (conv => whnf)
  refine loopY ok mixed (A := A38) [1, 4, 5, 6, 7, 20, 21, 22] [0, 1, 2, 7, 9] (S := { z : Nat × Nat × Nat × RS // z.1 ≤ p.evs.length ∧ runE p z.1 (p.evs.drop z.1) z.2.2.2 = Z ∧ RInv z.2.2.2.R z.2.2.2.o (on p p.evs.length) ∧ z.2.2.2.o.length ≤ 14 * z.1 ∧ z.2.2.2.w.length ≤ 14 * z.1 })
    (fr := fun s => frOf 0 122 (fr51 p e0 e1 e2 s.1.2.2.1 s.1.2.2.2.w.length ++ [(20, evsA p.evs), (21, .int .i64 (p.evs.length : Int)), (22, .int .i64 (s.1.1 : Int))]))
    (h := fun s => ⟨hp51 p e0 e1 e2 s.1.2.1 s.1.2.2.1 .hole .hole .hole .hole .hole s.1.2.2.2, []⟩) (μ := fun s => p.evs.length - s.1.1)
    ⟨(0, e7, e9, rs0), by simp, by simp [hZ], rinv0 _, by simp [rs0], by simp [rs0]⟩ ?_ ?_
    [4, 5] [1, 7, 9] (S' := { z : Nat × Nat × RS // z.2.2 = Z ∧ z.2.2.o.length ≤ 5600 ∧ z.2.2.w.length ≤ 5600 }) (X := fun _ => 0)
    (frX := fun s => frOf 0 122 [(4, .optr (.s 1) e1 1 0 0), (5, .oslc (.s 9) s.1.2.1 5 0 s.1.2.2.w.length false)])
    (hX := fun s => ⟨[.hole, .vec e1 [[.oslc (.s 7) s.1.1 5 0 s.1.2.2.o.length false]], .hole, .hole, .hole, .hole, .hole, .vec s.1.1 (s.1.2.2.o.map ntR), .hole, .vec s.1.2.1 (s.1.2.2.w.map prR)], []⟩)
    [] [] (S2 := Empty) (frR := fun s => frOf 0 122 []) (hR := fun s => ⟨[], []⟩) ?_ ?_ ?_
  · exact rfl
  · exact rfl
  · rintro ⟨⟨k, e7, e9, z⟩, hk, hu, hi, ho, hw⟩
    dsimp only at hk hu hi ho hw
    show aexR _ _ _ (frOf 0 122 (fr51 p e0 e1 e2 e9 z.w.length ++ [(20, evsA p.evs), (21, .int .i64 (p.evs.length : Int)), (22, .int .i64 (k : Int))])) ⟨hp51 p e0 e1 e2 e7 e9 .hole .hole .hole .hole .hole z, []⟩ _
    (conv => whnf)
    refine ifB (fun g1 => ?_) (fun g1 => ?_)
    · simp only [decide_eq_true_eq] at g1
      have hk2 : k < p.evs.length := by omega
      have hmk := mapR (f := evR) hk2
      have hmo := intsR (l := onsets p) (i := k) (by rw [ons_len]; omega)
      rw [on_get (by omega)] at hmo
      have hsp := v.sp k hk2
      have hasc := v.asc k hk2
      have hsl := v.sl k hk2
      rw [List.drop_eq_getElem_cons hk2, runE] at hu
      generalize p.evs[k] = e at hmk hsp hasc hsl hu
      obtain ⟨y1, h1⟩ := restS_fin (k := k) (e := e) hi (fun _ => 0)
      clear y1
      have hzl := restS_len (k := k) (e := e) hi
      have hzw := restS_w p k e z
      have hon := on_bd (p := p)
      cases hre : restE e with
      | true =>
        obtain ⟨eb, ev, ed, et, ey, l⟩ := e
        simp only [restE, Bool.and_eq_true, decide_eq_true_eq, List.length_eq_zero_iff, Bool.not_eq_true'] at hre
        obtain ⟨rfl, rfl⟩ := hre
        have hzz : restS p k ⟨eb, ev, ed, et, false, []⟩ z = ⟨(quitTo (on p k) 15 (z.R, z.o)).1, (quitTo (on p k) 15 (z.R, z.o)).2, z.w⟩ := rest_yes rfl
        obtain ⟨Y, hY⟩ : ∃ Y, Y = restS p k ⟨eb, ev, ed, et, false, []⟩ z := ⟨_, rfl⟩
        rw [runS] at hu
        rw [← hY] at hu h1 hzl hzw hzz
        clear hY
        (repeat' (first | exact rfl | ((conv => whnf); first | refine optS hmk ?_ | refine optS hmo ?_ | exact rfl | exact ⟨rfl, rfl⟩ | refine ⟨(by kernel_rfl : drawOk _ _ _ _ = true), ?_⟩ | refine ⟨(by kernel_rfl : planOk _ _ _ _ = true), ?_⟩ | refine ⟨rfl, ?_⟩ | refine ⟨by (first | omega | (simp (disch := omega) only [wrapI]; omega) | (simp (disch := omega) only [wrapI]; simp; omega) | (simp; omega)), ?_⟩ | (intro ep) | fail)))
        all_goals (conv => whnf)
        obtain ⟨e3, he⟩ : ∃ e3, e3 = ep := ⟨_, rfl⟩
        subst he
        refine loopY ok mixed (A := A38) [1, 4, 5, 6, 7, 8, 9, 10, 20, 21, 22, 41] [0, 1, 2, 3, 7, 9] (S := { x : Nat × List Nat × List Nt // x.1 ≤ 15 ∧ quitTo (on p k) x.1 (z.R, z.o) = x.2 })
          (fr := fun s => frOf 0 122 (fr51 p e0 e1 e2 e9 z.w.length ++ [(8, .int .i64 (k : Int)), (9, .optr (.s 3) e3 6 0 0), (10, .int .i64 (on p k)), (20, evsA p.evs), (21, .int .i64 (p.evs.length : Int)), (22, .int .i64 (k : Int)), (41, .int .i64 (s.1.1 : Int))]))
          (h := fun s => ⟨hp51 p e0 e1 e2 e7 e9 (.vec e3 [[.bool eb, .int .i64 ev, .bool ed, .bool et, .bool false, stsA []]]) .hole .hole .hole .hole ⟨s.1.2.1, s.1.2.2, z.w⟩, []⟩) (μ := fun s => 15 - s.1.1)
          ⟨(0, z.R, z.o), by simp, rfl⟩ ?_ ?_
          [1, 4, 5, 6, 7, 8, 9, 10, 20, 21, 22] [0, 1, 2, 3, 7, 9] (S' := { x : List Nat × List Nt // quitTo (on p k) 15 (z.R, z.o) = x }) (X := fun _ => 2)
          (frX := fun s => frOf 0 122 (fr51 p e0 e1 e2 e9 z.w.length ++ [(8, .int .i64 (k : Int)), (9, .optr (.s 3) e3 6 0 0), (10, .int .i64 (on p k)), (20, evsA p.evs), (21, .int .i64 (p.evs.length : Int)), (22, .int .i64 (k : Int))]))
          (hX := fun s => ⟨hp51 p e0 e1 e2 e7 e9 (.vec e3 [[.bool eb, .int .i64 ev, .bool ed, .bool et, .bool false, stsA []]]) .hole .hole .hole .hole ⟨s.1.1, s.1.2, z.w⟩, []⟩)
          [] [] (S2 := Empty) (frR := fun s => frOf 0 122 []) (hR := fun s => ⟨[], []⟩) ?_ ?_ ?_
        · exact rfl
        · exact rfl
        · rintro ⟨⟨j, R1, o1⟩, hj, hq⟩
          dsimp only at hj hq
          show aexR _ _ _ (frOf 0 122 (fr51 p e0 e1 e2 e9 z.w.length ++ [(8, .int .i64 (k : Int)), (9, .optr (.s 3) e3 6 0 0), (10, .int .i64 (on p k)), (20, evsA p.evs), (21, .int .i64 (p.evs.length : Int)), (22, .int .i64 (k : Int)), (41, .int .i64 (j : Int))])) ⟨hp51 p e0 e1 e2 e7 e9 (.vec e3 [[.bool eb, .int .i64 ev, .bool ed, .bool et, .bool false, stsA []]]) .hole .hole .hole .hole ⟨R1, o1, z.w⟩, []⟩ _
          obtain ⟨hqi, hql⟩ := quitTo_inv (on p k) j (z.R, z.o) hi hj
          have hqs : quitTo (on p k) (j + 1) (z.R, z.o) = quit R1 o1 j (on p k) := by rw [quitTo, hq]
          rw [hq] at hqi hql
          dsimp only at hqi hql
          (conv => whnf)
          refine ifB (fun g3 => ?_) (fun g3 => ?_)
          · simp only [decide_eq_true_eq] at g3
            (repeat' (first | exact rfl | ((conv => whnf); first | exact rfl | exact ⟨rfl, rfl⟩ | refine ⟨(by kernel_rfl : drawOk _ _ _ _ = true), ?_⟩ | refine ⟨(by kernel_rfl : planOk _ _ _ _ = true), ?_⟩ | refine ⟨rfl, ?_⟩ | refine ⟨by (first | omega | (simp (disch := omega) only [wrapI]; omega) | (simp (disch := omega) only [wrapI]; simp; omega) | (simp; omega)), ?_⟩ | (intro ep) | fail)))
            all_goals (conv => whnf)
            refine ACalls.part (dy := []) 8 (by exact rfl) (by exact rfl) (by exact rfl) (stop87 j (on p k) R1 o1 e1 e2 e7 (.vec e0 [sndV p]) (.vec e3 [[.bool eb, .int .i64 ev, .bool ed, .bool et, .bool false, stsA []]]) .hole .hole .hole (by omega) hqi.len hqi.le (by omega)) ?_
            rintro r h1 ⟨rfl, hp, hd⟩
            rw [hp, hd]
            generalize quit R1 o1 j (on p k) = Q at hqs
            obtain ⟨R2, o2⟩ := Q
            (repeat' (first | exact rfl | ((conv => whnf); first | exact rfl | exact ⟨rfl, rfl⟩ | refine ⟨(by kernel_rfl : drawOk _ _ _ _ = true), ?_⟩ | refine ⟨(by kernel_rfl : planOk _ _ _ _ = true), ?_⟩ | refine ⟨rfl, ?_⟩ | refine ⟨by (first | omega | (simp (disch := omega) only [wrapI]; omega) | (simp (disch := omega) only [wrapI]; simp; omega) | (simp; omega)), ?_⟩ | (intro ep) | (refine ifB (fun hb => ?_) (fun hb => ?_) <;> (try simp only [decide_eq_true_eq, decide_eq_false_iff_not, beq_iff_eq, beq_eq_false_iff_ne, bne_iff_ne, bne_eq_false_iff_eq, ne_eq, not_false_eq_true, not_true_eq_false, Bool.not_eq_true, Bool.not_eq_true', Bool.not_eq_false', Int.not_lt, Int.not_le] at hb) <;> (try simp (disch := omega) only [wrapI] at hb) <;> (try (exfalso; omega))) | fail)))
            all_goals (conv => whnf)
            all_goals exact back_of ⟨(j + 1, R2, o2), by dsimp only; omega, hqs⟩ ⟨by (first | exact rfl | (simp (disch := omega) only [wrapI]; exact rfl)), rfl, by dsimp only; omega⟩
          · simp only [decide_eq_false_iff_not] at g3
            have hj2 : j = 15 := by omega
            subst hj2
            (repeat' (first | exact rfl | ((conv => whnf); first | exact rfl | exact ⟨rfl, rfl⟩ | refine ⟨(by kernel_rfl : drawOk _ _ _ _ = true), ?_⟩ | refine ⟨(by kernel_rfl : planOk _ _ _ _ = true), ?_⟩ | refine ⟨rfl, ?_⟩ | refine ⟨by (first | omega | (simp (disch := omega) only [wrapI]; omega) | (simp (disch := omega) only [wrapI]; simp; omega) | (simp; omega)), ?_⟩ | (intro ep) | fail)))
            all_goals (conv => whnf)
            all_goals exact back_of ⟨(R1, o1), hq⟩ ⟨rfl, rfl, rfl⟩
        · rintro ⟨⟩
        · rintro ⟨⟨R1, o1⟩, hq⟩
          rw [hq] at hzz
          subst hzz
          dsimp only at h1 hzl
          (repeat' (first | exact rfl | ((conv => whnf); first | exact rfl | exact ⟨rfl, rfl⟩ | refine ⟨(by kernel_rfl : drawOk _ _ _ _ = true), ?_⟩ | refine ⟨(by kernel_rfl : planOk _ _ _ _ = true), ?_⟩ | refine ⟨rfl, ?_⟩ | refine ⟨by (first | omega | (simp (disch := omega) only [wrapI]; omega) | (simp (disch := omega) only [wrapI]; simp; omega) | (simp; omega)), ?_⟩ | (intro ep) | fail)))
          all_goals (conv => whnf)
          refine loopU ok mixed (A := A38) 1 ?_
          (repeat' (first | exact rfl | ((conv => whnf); first | exact rfl | exact ⟨rfl, rfl⟩ | refine ⟨(by kernel_rfl : drawOk _ _ _ _ = true), ?_⟩ | refine ⟨(by kernel_rfl : planOk _ _ _ _ = true), ?_⟩ | refine ⟨rfl, ?_⟩ | refine ⟨by (first | omega | (simp (disch := omega) only [wrapI]; omega) | (simp (disch := omega) only [wrapI]; simp; omega) | (simp; omega)), ?_⟩ | (intro ep) | fail)))
          all_goals (conv => whnf)
          all_goals exact back_of ⟨(k + 1, e7, e9, ⟨R1, o1, z.w⟩), by dsimp only; omega, hu, h1, by dsimp only; omega, by dsimp only; omega⟩ ⟨by (first | exact rfl | (simp (disch := omega) only [wrapI]; exact rfl)), rfl, by dsimp only; omega⟩
      | false =>
        have hzz : restS p k e z = z := by unfold restS; rw [hre]; rfl
        rw [hzz] at hu
        have hfork : (decide (e.stops.length = 0) && !e.tie) = false := hre
        obtain ⟨eb, ev, ed, et, ey, l⟩ := e
        dsimp only at hsp hasc hsl hu hfork
        (repeat' (first | exact rfl | ((conv => whnf); first | refine optS hmk ?_ | refine optS hmo ?_ | exact rfl | exact ⟨rfl, rfl⟩ | refine ⟨(by kernel_rfl : drawOk _ _ _ _ = true), ?_⟩ | refine ⟨(by kernel_rfl : planOk _ _ _ _ = true), ?_⟩ | refine ⟨rfl, ?_⟩ | refine ⟨by (first | omega | (simp (disch := omega) only [wrapI]; omega) | (simp (disch := omega) only [wrapI]; simp; omega) | (simp; omega)), ?_⟩ | (intro ep) | fail)))
        all_goals (conv => whnf)
        refine ifB (fun g2 => ?_) (fun g2 => ?_)
        · have hl0 : l.length = 0 := by simpa using g2
          have hl1 : l = [] := List.length_eq_zero_iff.1 hl0
          subst hl1
          have hy : ey = true := by simpa using hfork
          subst hy
          rw [runS] at hu
          (repeat' (first | exact rfl | ((conv => whnf); first | exact rfl | exact ⟨rfl, rfl⟩ | refine ⟨(by kernel_rfl : drawOk _ _ _ _ = true), ?_⟩ | refine ⟨(by kernel_rfl : planOk _ _ _ _ = true), ?_⟩ | refine ⟨rfl, ?_⟩ | refine ⟨by (first | omega | (simp (disch := omega) only [wrapI]; omega) | (simp (disch := omega) only [wrapI]; simp; omega) | (simp; omega)), ?_⟩ | (intro ep) | fail)))
          all_goals (conv => whnf)
          refine loopU ok mixed (A := A38) 1 ?_
          (repeat' (first | exact rfl | ((conv => whnf); first | exact rfl | exact ⟨rfl, rfl⟩ | refine ⟨(by kernel_rfl : drawOk _ _ _ _ = true), ?_⟩ | refine ⟨(by kernel_rfl : planOk _ _ _ _ = true), ?_⟩ | refine ⟨rfl, ?_⟩ | refine ⟨by (first | omega | (simp (disch := omega) only [wrapI]; omega) | (simp (disch := omega) only [wrapI]; simp; omega) | (simp; omega)), ?_⟩ | (intro ep) | fail)))
          all_goals (conv => whnf)
          all_goals exact back_of ⟨(k + 1, e7, e9, z), by dsimp only; omega, hu, hi, by dsimp only; omega, by dsimp only; omega⟩ ⟨by (first | exact rfl | (simp (disch := omega) only [wrapI]; exact rfl)), rfl, by dsimp only; omega⟩
        clear hmk h1 hzl hzw hre hzz hfork g2
        obtain ⟨e3, he⟩ : ∃ e3, e3 = ep := ⟨_, rfl⟩
        subst he
        obtain ⟨Y, hY⟩ : ∃ Y, Y = runS p k l z := ⟨_, rfl⟩
        rw [← hY] at hu
        (repeat' (first | exact rfl | ((conv => whnf); first | exact rfl | exact ⟨rfl, rfl⟩ | refine ⟨(by kernel_rfl : drawOk _ _ _ _ = true), ?_⟩ | refine ⟨(by kernel_rfl : planOk _ _ _ _ = true), ?_⟩ | refine ⟨rfl, ?_⟩ | refine ⟨by (first | omega | (simp (disch := omega) only [wrapI]; omega) | (simp (disch := omega) only [wrapI]; simp; omega) | (simp; omega)), ?_⟩ | (intro ep) | fail)))
        all_goals (conv => whnf)
        refine loopY ok mixed (A := A38) [1, 4, 5, 6, 7, 8, 10, 20, 21, 22, 50, 51, 52] [0, 1, 2, 7, 9] (S := { z : Nat × Nat × Nat × RS // z.1 ≤ l.length ∧ runS p k (l.drop z.1) z.2.2.2 = Y ∧ RInv z.2.2.2.R z.2.2.2.o (on p p.evs.length) ∧ z.2.2.2.o.length ≤ 14 * k + z.1 ∧ z.2.2.2.w.length ≤ 14 * k + z.1 })
          (fr := fun s => frOf 0 122 (fr51 p e0 e1 e2 s.1.2.2.1 s.1.2.2.2.w.length ++ [(8, .int .i64 (k : Int)), (10, .int .i64 (on p k)), (20, evsA p.evs), (21, .int .i64 (p.evs.length : Int)), (22, .int .i64 (k : Int)), (50, stsA l), (51, .int .i64 (l.length : Int)), (52, .int .i64 (s.1.1 : Int))]))
          (h := fun s => ⟨hp51 p e0 e1 e2 s.1.2.1 s.1.2.2.1 .hole .hole .hole .hole .hole s.1.2.2.2, []⟩) (μ := fun s => l.length - s.1.1)
          ⟨(0, e7, e9, z), by simp, by simp [hY], hi, by simpa using ho, by simpa using hw⟩ ?_ ?_
          [1, 4, 5, 6, 7, 20, 21, 22] [0, 1, 2, 7, 9] (S' := { z : Nat × Nat × RS // z.2.2 = Y ∧ RInv z.2.2.R z.2.2.o (on p p.evs.length) ∧ z.2.2.o.length ≤ 14 * k + 14 ∧ z.2.2.w.length ≤ 14 * k + 14 }) (X := fun _ => 4)
          (frX := fun s => frOf 0 122 (fr51 p e0 e1 e2 s.1.2.1 s.1.2.2.w.length ++ [(20, evsA p.evs), (21, .int .i64 (p.evs.length : Int)), (22, .int .i64 (k : Int))]))
          (hX := fun s => ⟨hp51 p e0 e1 e2 s.1.1 s.1.2.1 .hole .hole .hole .hole .hole s.1.2.2, []⟩)
          [] [] (S2 := Empty) (frR := fun s => frOf 0 122 []) (hR := fun s => ⟨[], []⟩) ?_ ?_ ?_
        · exact rfl
        · exact rfl
        · rintro ⟨⟨j, e7, e9, z⟩, hj, hu2, hi, ho, hw⟩
          dsimp only at hj hu2 hi ho hw
          show aexR _ _ _ (frOf 0 122 (fr51 p e0 e1 e2 e9 z.w.length ++ [(8, .int .i64 (k : Int)), (10, .int .i64 (on p k)), (20, evsA p.evs), (21, .int .i64 (p.evs.length : Int)), (22, .int .i64 (k : Int)), (50, stsA l), (51, .int .i64 (l.length : Int)), (52, .int .i64 (j : Int))])) ⟨hp51 p e0 e1 e2 e7 e9 .hole .hole .hole .hole .hole z, []⟩ _
          (conv => whnf)
          refine ifB (fun g3 => ?_) (fun g3 => ?_)
          · simp only [decide_eq_true_eq] at g3
            have hj2 : j < l.length := by omega
            have hm := mapR (f := stR) hj2
            have hs := hsp l[j] (List.getElem_mem hj2)
            rw [List.drop_eq_getElem_cons hj2, runS] at hu2
            generalize l[j] = s at hm hs hu2
            obtain ⟨sc, sf, sr, sg, sh⟩ := s
            dsimp only at hs
            obtain ⟨c, rfl⟩ : ∃ c : Nat, sc = c := ⟨sc.toNat, by omega⟩
            (repeat' (first | exact rfl | ((conv => whnf); first | refine optS hm ?_ | exact rfl | exact ⟨rfl, rfl⟩ | refine ⟨(by kernel_rfl : drawOk _ _ _ _ = true), ?_⟩ | refine ⟨(by kernel_rfl : planOk _ _ _ _ = true), ?_⟩ | refine ⟨rfl, ?_⟩ | refine ⟨by (first | omega | (simp (disch := omega) only [wrapI]; omega) | (simp (disch := omega) only [wrapI]; simp; omega) | (simp; omega)), ?_⟩ | (intro ep) | fail)))
            all_goals (conv => whnf)
            obtain ⟨e4, he⟩ : ∃ e4, e4 = ep := ⟨_, rfl⟩
            subst he
            refine ACalls.part (dy := []) 8 (by exact rfl) (by exact rfl) (by exact rfl) (stop87 c (on p k) z.R z.o e1 e2 e7 (.vec e0 [sndV p]) .hole (.vec e4 [[.int .i64 c, .int .i64 sf, .int .i64 sr, .int .i64 sg, .int .i64 sh]]) .hole .hole (by omega) hi.len hi.le (by omega)) ?_
            rintro r h1 ⟨rfl, hp, hd⟩
            rw [hp, hd]
            have hql := quit_len z.R z.o c (on p k)
            have hst : stpS p k z ⟨c, sf, sr, sg, sh⟩ = ⟨if 0 < sf then (quit z.R z.o c (on p k)).1 else (quit z.R z.o c (on p k)).1.set c ((quit z.R z.o c (on p k)).2.length + 1), (quit z.R z.o c (on p k)).2 ++ [rawOf p k ⟨c, sf, sr, sg, sh⟩], z.w ++ [pressOf p k ⟨c, sf, sr, sg, sh⟩]⟩ := rfl
            have hin := (stpS_fin (k := k) (s := ⟨c, sf, sr, sg, sh⟩) hi ⟨by dsimp only; omega, by dsimp only; omega⟩ (fun _ => 0)).2
            rw [hst] at hu2 hin
            have hRl := hi.len
            generalize quit z.R z.o c (on p k) = Q at hql hst hu2 hin
            obtain ⟨R1, o1⟩ := Q
            dsimp only at hql hu2 hin
            have hAt := at88 p v c sf hs.1 hs.2.1
            have t1 : List.take o1.length (List.drop 0 (o1.map ntR)) = o1.map ntR := by rw [List.drop_zero, List.take_of_length_le (by simp)]
            have t2 : List.take z.w.length (List.drop 0 (z.w.map prR)) = z.w.map prR := by rw [List.drop_zero, List.take_of_length_le (by simp)]
            by_cases hf : 0 < sf
            · rw [if_pos hf] at hu2 hin
              have h89 := stay89 p v k sh (by omega) (by omega)
              have hle := stayN_le (l := p.evs) (i := k) (h := sh.toNat) (by omega)
              have hge : k + 1 ≤ stayN p.evs k sh.toNat := by unfold stayN; omega
              have hmS := intsR (l := onsets p) (i := stayN p.evs k sh.toNat) (by omega)
              rw [on_get hle] at hmS
              have hraw : rawOf p k ⟨c, sf, sr, sg, sh⟩ = ⟨k, c, pitchOf p.ins c sf, on p k, on p (stayN p.evs k sh.toNat)⟩ := by unfold rawOf toOf; rw [if_pos hf]
              have hprs : pressOf p k ⟨c, sf, sr, sg, sh⟩ = ⟨k, c, sf, on p k, on p (stayN p.evs k sh.toNat)⟩ := by unfold pressOf toOf; rw [if_pos hf]
              rw [hraw, hprs] at hu2
              rw [hraw] at hin
              generalize stayN p.evs k sh.toNat = N at h89 hle hge hmS hu2 hin
              have hw2 : IntKind.i64.wrap (((N : Nat) : Int) - 1 + 1) = (N : Int) := by rw [wrapI (by omega) (by omega)]; omega
              rw [← hw2] at hmS
              generalize on p N = tN at hmS hu2 hin
              generalize pitchOf p.ins c sf = pi at hAt hu2 hin
              (repeat' (first | exact rfl | ((conv => whnf); first | refine ⟨_, hAt, ?_⟩ | refine ⟨_, h56, ?_⟩ | refine ⟨_, h89, ?_⟩ | refine optS hmS ?_ | exact rfl | exact ⟨rfl, rfl⟩ | refine ⟨(by kernel_rfl : drawOk _ _ _ _ = true), ?_⟩ | refine ⟨(by kernel_rfl : planOk _ _ _ _ = true), ?_⟩ | refine ⟨rfl, ?_⟩ | refine ⟨by (first | omega | (simp (disch := omega) only [wrapI]; omega) | (simp (disch := omega) only [wrapI]; simp; omega) | (simp; omega)), ?_⟩ | (intro ep) | (refine ifB (fun hb => ?_) (fun hb => ?_) <;> (try simp only [decide_eq_true_eq, decide_eq_false_iff_not, beq_iff_eq, beq_eq_false_iff_ne, bne_iff_ne, bne_eq_false_iff_eq, ne_eq, not_false_eq_true, not_true_eq_false, Bool.not_eq_true, Bool.not_eq_true', Bool.not_eq_false', Int.not_lt, Int.not_le] at hb) <;> (try simp (disch := omega) only [wrapI] at hb) <;> (try (exfalso; omega))) | fail)))
              all_goals (conv => whnf)
              rename_i e7b _
              refine back_of ⟨(j + 1, e7b, ep, ⟨R1, o1 ++ [⟨k, c, pi, on p k, tN⟩], z.w ++ [⟨k, c, sf, on p k, tN⟩]⟩), by dsimp only; omega, hu2, hin, by dsimp only; rw [List.length_append, List.length_singleton]; omega, by dsimp only; rw [List.length_append, List.length_singleton]; omega⟩ ⟨?_, ?_, by dsimp only; omega⟩
              · show maskF 0 _ _ = frOf 0 122 (fr51 p e0 e1 e2 ep (z.w ++ [(⟨k, c, sf, on p k, tN⟩ : Pr)]).length ++ [(8, .int .i64 (k : Int)), (10, .int .i64 (on p k)), (20, evsA p.evs), (21, .int .i64 (p.evs.length : Int)), (22, .int .i64 (k : Int)), (50, stsA l), (51, .int .i64 (l.length : Int)), (52, .int .i64 ((j + 1 : Nat) : Int))])
                rw [List.length_append, List.length_singleton]
                (first | exact rfl | (simp (disch := omega) only [wrapI]; exact rfl))
              · show maskH 0 _ _ = ⟨[.vec e0 [sndV p], .vec e1 [[.oslc (.s 7) e7b 5 0 (o1 ++ [(⟨k, c, pi, on p k, tN⟩ : Nt)]).length false]], .vec e2 [rgR (R1)], .hole, .hole, .hole, .hole, .vec e7b ((o1 ++ [(⟨k, c, pi, on p k, tN⟩ : Nt)]).map ntR), .hole, .vec ep ((z.w ++ [(⟨k, c, sf, on p k, tN⟩ : Pr)]).map prR)], []⟩
                have em : (o1 ++ [(⟨k, c, pi, on p k, tN⟩ : Nt)]).map ntR = List.take o1.length (List.drop 0 (o1.map ntR)) ++ [[.int .i64 k, .int .i64 c, .int .i64 pi, .int .i64 (on p k), .int .i64 (tN)]] := by rw [t1]; simp [ntR]
                have ew : (z.w ++ [(⟨k, c, sf, on p k, tN⟩ : Pr)]).map prR = List.take z.w.length (List.drop 0 (z.w.map prR)) ++ [[.int .i64 k, .int .i64 c, .int .i64 sf, .int .i64 (on p k), .int .i64 (tN)]] := by rw [t2]; simp [prR]
                rw [em, ew, List.length_append, List.length_singleton]
                (first | exact rfl | (simp (disch := omega) only [wrapI]; exact rfl))
            · rw [if_neg hf] at hu2 hin
              have hraw : rawOf p k ⟨c, sf, sr, sg, sh⟩ = ⟨k, c, pitchOf p.ins c sf, on p k, on p p.evs.length⟩ := by unfold rawOf toOf; rw [if_neg hf]
              have hprs : pressOf p k ⟨c, sf, sr, sg, sh⟩ = ⟨k, c, sf, on p k, on p p.evs.length⟩ := by unfold pressOf toOf; rw [if_neg hf]
              rw [hraw, hprs] at hu2
              rw [hraw] at hin
              generalize pitchOf p.ins c sf = pi at hAt hu2 hin
              have hcR : c < R1.length := by omega
              have hs3 := rg_set R1 c (o1.length + 1) hcR
              have hw3 : ((o1.length + 1 : Nat) : Int) = IntKind.i64.wrap ((o1.length : Int) + 1) := by rw [wrapI (by omega) (by omega)]; omega
              rw [hw3] at hs3
              (repeat' (first | exact rfl | ((conv => whnf); first | refine ⟨_, hAt, ?_⟩ | refine ⟨_, h56, ?_⟩ | exact rfl | exact ⟨rfl, rfl⟩ | refine ⟨(by kernel_rfl : drawOk _ _ _ _ = true), ?_⟩ | refine ⟨(by kernel_rfl : planOk _ _ _ _ = true), ?_⟩ | refine ⟨rfl, ?_⟩ | refine ⟨by (first | omega | (simp (disch := omega) only [wrapI]; omega) | (simp (disch := omega) only [wrapI]; simp; omega) | (simp; omega)), ?_⟩ | (intro ep) | (refine ifB (fun hb => ?_) (fun hb => ?_) <;> (try simp only [decide_eq_true_eq, decide_eq_false_iff_not, beq_iff_eq, beq_eq_false_iff_ne, bne_iff_ne, bne_eq_false_iff_eq, ne_eq, not_false_eq_true, not_true_eq_false, Bool.not_eq_true, Bool.not_eq_true', Bool.not_eq_false', Int.not_lt, Int.not_le] at hb) <;> (try simp (disch := omega) only [wrapI] at hb) <;> (try (exfalso; omega))) | fail)))
              all_goals (conv => whnf)
              refine decT (by show 0 + (c : Int).toNat * 1 + 1 ≤ (rgR R1).length; rw [rg_len]; omega) (fun _ => ?_)
              show forceL (List.take (0 + (c : Int).toNat * 1) (rgR R1) ++ [.int .i64 (IntKind.i64.wrap ((o1.length : Int) + 1))] ++ List.drop (0 + (c : Int).toNat * 1 + 1) (rgR R1)) _
              rw [forceL_eq, hs3]
              (repeat' (first | exact rfl | ((conv => whnf); first | exact rfl | exact ⟨rfl, rfl⟩ | refine ⟨(by kernel_rfl : drawOk _ _ _ _ = true), ?_⟩ | refine ⟨(by kernel_rfl : planOk _ _ _ _ = true), ?_⟩ | refine ⟨rfl, ?_⟩ | refine ⟨by (first | omega | (simp (disch := omega) only [wrapI]; omega) | (simp (disch := omega) only [wrapI]; simp; omega) | (simp; omega)), ?_⟩ | (intro ep) | (refine ifB (fun hb => ?_) (fun hb => ?_) <;> (try simp only [decide_eq_true_eq, decide_eq_false_iff_not, beq_iff_eq, beq_eq_false_iff_ne, bne_iff_ne, bne_eq_false_iff_eq, ne_eq, not_false_eq_true, not_true_eq_false, Bool.not_eq_true, Bool.not_eq_true', Bool.not_eq_false', Int.not_lt, Int.not_le] at hb) <;> (try simp (disch := omega) only [wrapI] at hb) <;> (try (exfalso; omega))) | fail)))
              all_goals (conv => whnf)
              rename_i e7b _
              refine back_of ⟨(j + 1, e7b, ep, ⟨R1.set c (o1.length + 1), o1 ++ [⟨k, c, pi, on p k, on p p.evs.length⟩], z.w ++ [⟨k, c, sf, on p k, on p p.evs.length⟩]⟩), by dsimp only; omega, hu2, hin, by dsimp only; rw [List.length_append, List.length_singleton]; omega, by dsimp only; rw [List.length_append, List.length_singleton]; omega⟩ ⟨?_, ?_, by dsimp only; omega⟩
              · show maskF 0 _ _ = frOf 0 122 (fr51 p e0 e1 e2 ep (z.w ++ [(⟨k, c, sf, on p k, on p p.evs.length⟩ : Pr)]).length ++ [(8, .int .i64 (k : Int)), (10, .int .i64 (on p k)), (20, evsA p.evs), (21, .int .i64 (p.evs.length : Int)), (22, .int .i64 (k : Int)), (50, stsA l), (51, .int .i64 (l.length : Int)), (52, .int .i64 ((j + 1 : Nat) : Int))])
                rw [List.length_append, List.length_singleton]
                (first | exact rfl | (simp (disch := omega) only [wrapI]; exact rfl))
              · show maskH 0 _ _ = ⟨[.vec e0 [sndV p], .vec e1 [[.oslc (.s 7) e7b 5 0 (o1 ++ [(⟨k, c, pi, on p k, on p p.evs.length⟩ : Nt)]).length false]], .vec e2 [rgR (R1.set c (o1.length + 1))], .hole, .hole, .hole, .hole, .vec e7b ((o1 ++ [(⟨k, c, pi, on p k, on p p.evs.length⟩ : Nt)]).map ntR), .hole, .vec ep ((z.w ++ [(⟨k, c, sf, on p k, on p p.evs.length⟩ : Pr)]).map prR)], []⟩
                have em : (o1 ++ [(⟨k, c, pi, on p k, on p p.evs.length⟩ : Nt)]).map ntR = List.take o1.length (List.drop 0 (o1.map ntR)) ++ [[.int .i64 k, .int .i64 c, .int .i64 pi, .int .i64 (on p k), .int .i64 (on p p.evs.length)]] := by rw [t1]; simp [ntR]
                have ew : (z.w ++ [(⟨k, c, sf, on p k, on p p.evs.length⟩ : Pr)]).map prR = List.take z.w.length (List.drop 0 (z.w.map prR)) ++ [[.int .i64 k, .int .i64 c, .int .i64 sf, .int .i64 (on p k), .int .i64 (on p p.evs.length)]] := by rw [t2]; simp [prR]
                rw [em, ew, List.length_append, List.length_singleton]
                (first | exact rfl | (simp (disch := omega) only [wrapI]; exact rfl))
          · simp only [decide_eq_false_iff_not] at g3
            have hj2 : j = l.length := by omega
            subst hj2
            rw [List.drop_length, runS] at hu2
            (repeat' (first | exact rfl | ((conv => whnf); first | exact rfl | exact ⟨rfl, rfl⟩ | refine ⟨(by kernel_rfl : drawOk _ _ _ _ = true), ?_⟩ | refine ⟨(by kernel_rfl : planOk _ _ _ _ = true), ?_⟩ | refine ⟨rfl, ?_⟩ | refine ⟨by (first | omega | (simp (disch := omega) only [wrapI]; omega) | (simp (disch := omega) only [wrapI]; simp; omega) | (simp; omega)), ?_⟩ | (intro ep) | fail)))
            all_goals (conv => whnf)
            all_goals exact back_of ⟨(e7, e9, z), hu2, hi, by dsimp only; omega, by dsimp only; omega⟩ ⟨rfl, rfl, rfl⟩
        · rintro ⟨⟩
        · rintro ⟨⟨e7, e9, z⟩, hz, hi, h1, h2⟩
          dsimp only at hz hi h1 h2
          rw [← hz] at hu
          (repeat' (first | exact rfl | ((conv => whnf); first | exact rfl | exact ⟨rfl, rfl⟩ | refine ⟨(by kernel_rfl : drawOk _ _ _ _ = true), ?_⟩ | refine ⟨(by kernel_rfl : planOk _ _ _ _ = true), ?_⟩ | refine ⟨rfl, ?_⟩ | refine ⟨by (first | omega | (simp (disch := omega) only [wrapI]; omega) | (simp (disch := omega) only [wrapI]; simp; omega) | (simp; omega)), ?_⟩ | (intro ep) | fail)))
          all_goals (conv => whnf)
          all_goals exact back_of ⟨(k + 1, e7, e9, z), by dsimp only; omega, hu, hi, by dsimp only; omega, by dsimp only; omega⟩ ⟨by (first | exact rfl | (simp (disch := omega) only [wrapI]; exact rfl)), rfl, by dsimp only; omega⟩
    · simp only [decide_eq_false_iff_not] at g1
      have hk2 : k = p.evs.length := by omega
      subst hk2
      rw [List.drop_length, runE] at hu
      (repeat' (first | exact rfl | ((conv => whnf); first | exact rfl | exact ⟨rfl, rfl⟩ | refine ⟨(by kernel_rfl : drawOk _ _ _ _ = true), ?_⟩ | refine ⟨(by kernel_rfl : planOk _ _ _ _ = true), ?_⟩ | refine ⟨rfl, ?_⟩ | refine ⟨by (first | omega | (simp (disch := omega) only [wrapI]; omega) | (simp (disch := omega) only [wrapI]; simp; omega) | (simp; omega)), ?_⟩ | (intro ep) | fail)))
      all_goals (conv => whnf)
      all_goals exact back_of ⟨(e7, e9, z), hu, by dsimp only; omega, by dsimp only; omega⟩ ⟨rfl, rfl, rfl⟩
  · rintro ⟨⟩
  · rintro ⟨⟨e7, e9, z⟩, hz, h1, h2⟩
    dsimp only at hz h1 h2
    subst hz
    (repeat' (first | exact rfl | ((conv => whnf); first | exact rfl | exact ⟨rfl, rfl⟩ | refine ⟨(by kernel_rfl : drawOk _ _ _ _ = true), ?_⟩ | refine ⟨(by kernel_rfl : planOk _ _ _ _ = true), ?_⟩ | refine ⟨rfl, ?_⟩ | refine ⟨by (first | omega | (simp (disch := omega) only [wrapI]; omega) | (simp (disch := omega) only [wrapI]; simp; omega) | (simp; omega)), ?_⟩ | (intro ep) | (refine ifB (fun hb => ?_) (fun hb => ?_) <;> (try simp only [decide_eq_true_eq, decide_eq_false_iff_not, beq_iff_eq, beq_eq_false_iff_ne, bne_iff_ne, bne_eq_false_iff_eq, ne_eq, not_false_eq_true, not_true_eq_false, Bool.not_eq_true, Bool.not_eq_true', Bool.not_eq_false', Int.not_lt, Int.not_le] at hb) <;> (try simp (disch := omega) only [wrapI] at hb) <;> (try (exfalso; omega))) | fail)))
    all_goals (conv => whnf)
    rename_i ea
    exact ⟨fun n => match n with | 0 => ea | _ => ep, rfl, rfl⟩
theorem notes51 (p : Pc) (v : Vp p) : PRet C.P 38 [sndA p] (.tup [ntsA (notesL p), prsA (pressL p)]) := by
  refine HRet.pret (notes51h p v) (fun eps o ho => ?_) (fun eps => ?_) rfl fun h => ?_
  · simp only [List.mem_cons, List.not_mem_nil, or_false] at ho
    rcases ho with rfl | rfl
    · exact Go.Ab.V.pure_map (f := ntR) _ fun x => rfl
    · exact Go.Ab.V.pure_map (f := prR) _ fun x => rfl
  · simp [fzV, fzC, ntsA, prsA]
  · exact rfl
end Go.Ab.V
