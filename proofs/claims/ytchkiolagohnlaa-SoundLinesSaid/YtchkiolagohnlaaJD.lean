/-
  What is proved here serves the law's text: each part says its own claim and its conditions. No condition is left open.
-/
import Derived.Test.YtchkiolagohnlaaJB
import Derived.Test.YtchkiolagohnlaaJC
import Derived.Test.YtchkiolagohnlaaKF
set_option linter.unusedSimpArgs false
set_option linter.unusedVariables false

/-
  The highest and the lowest pitches of the events: the program's walk and the document's. The pieces are valid.
-/
namespace Go.Ab.V
open Go.Proofs

def pick (h : Bool) (a b : Int) : Int := if h = true then max a b else min a b
def lineS (h : Bool) (x q : Int) : Int := pick h (if x < 0 then q else x) q
def lineE (h : Bool) (p : Pc) (e : Evt) : Int := e.stops.foldl (fun x s => lineS h x (pitchOf p.ins s.c s.f)) (-1)
def lineL (h : Bool) (p : Pc) : List Int := p.evs.map (lineE h p)
def upL (h : Bool) (L : List Int) (n : Nt) : List Int := L.set n.e.toNat (lineS h (L.getD n.e.toNat 0) n.p)
theorem upL_len (h : Bool) (L : List Int) (n : Nt) : (upL h L n).length = L.length := by simp [upL]
theorem runL_ev (h : Bool) (p : Pc) (T : List Int) : ∀ (l : List Stp) (A : List Int) (x : Int), (l.map (noteOf p A.length)).foldl (upL h) (A ++ x :: T) = A ++ (l.foldl (fun x s => lineS h x (pitchOf p.ins s.c s.f)) x) :: T
  | [], A, x => rfl
  | s :: r, A, x => by
    rw [List.map_cons, List.foldl_cons, List.foldl_cons, ← runL_ev h p T r A]
    congr 1
    have e1 : (noteOf p A.length s).e.toNat = A.length := rfl
    have e2 : (noteOf p A.length s).p = pitchOf p.ins s.c s.f := rfl
    unfold upL
    rw [e1, e2, List.getD, List.getElem?_append_right (Nat.le_refl _), Nat.sub_self]
    rw [List.set_append_right _ _ (Nat.le_refl _), Nat.sub_self]
    rfl
theorem runL_out (h : Bool) (p : Pc) : ∀ (l : List Evt) (A : List Int), (newL (noteOf p) A.length l).foldl (upL h) (A ++ List.replicate l.length (-1)) = A ++ l.map (lineE h p)
  | [], A => by simp [newL]
  | e :: r, A => by
    rw [newL, List.foldl_append, List.length_cons, List.replicate_succ, runL_ev, List.map_cons]
    have ih := runL_out h p r (A ++ [lineE h p e])
    rw [List.length_append, List.length_singleton] at ih
    rw [List.append_assoc, List.singleton_append] at ih
    rw [List.append_assoc, List.singleton_append] at ih
    exact ih
theorem runL_all (h : Bool) (p : Pc) : (notesL p).foldl (upL h) (List.replicate p.evs.length (-1)) = lineL h p := runL_out h p p.evs []
theorem notes_e {p : Pc} {x : Nt} (h : x ∈ notesL p) : 0 ≤ x.e ∧ x.e < p.evs.length := by
  obtain ⟨k, hk, s, hs, rfl⟩ := notes_mem h
  show 0 ≤ (k : Int) ∧ (k : Int) < p.evs.length
  omega
theorem pick_bd (h : Bool) {a b : Int} (ha : 0 ≤ a ∧ a ≤ 254) (hb : 0 ≤ b ∧ b ≤ 254) : 0 ≤ pick h a b ∧ pick h a b ≤ 254 := by unfold pick; split <;> omega
theorem lineS_bd (h : Bool) {x q : Int} (hx : -1 ≤ x ∧ x ≤ 254) (hq : 0 ≤ q ∧ q ≤ 254) : 0 ≤ lineS h x q ∧ lineS h x q ≤ 254 := by
  unfold lineS
  split
  · exact pick_bd h hq hq
  · exact pick_bd h (by omega) hq
theorem upL_bd {h : Bool} {L : List Int} {n : Nt} (hL : ∀ x ∈ L, -1 ≤ x ∧ x ≤ 254) (hn : 0 ≤ n.p ∧ n.p ≤ 254) (he : n.e.toNat < L.length) : ∀ x ∈ upL h L n, -1 ≤ x ∧ x ≤ 254 := by
  intro x hx
  unfold upL at hx
  rcases List.mem_or_eq_of_mem_set hx with h1 | h1
  · exact hL x h1
  · rw [List.getD, List.getElem?_eq_getElem he] at h1
    simp only [Option.getD_some] at h1
    have := lineS_bd h (hL _ (List.getElem_mem he)) hn
    rw [h1]
    omega
def A67 : Ann := fun _ => {}
theorem max67 (a b : Int) : PRet C.P 67 [.int .i64 a, .int .i64 b] (.int .i64 (pick true a b)) := by
  refine pret_of ok mixed (A := A67) 0 Try.func67 rfl ?_
  (repeat' (first | exact rfl | ((conv => whnf); first | exact rfl | exact ⟨rfl, rfl⟩ | refine ⟨(by kernel_rfl : drawOk _ _ _ _ = true), ?_⟩ | refine ⟨(by kernel_rfl : planOk _ _ _ _ = true), ?_⟩ | refine ⟨rfl, ?_⟩ | refine ⟨by (first | omega | (simp (disch := omega) only [wrapI]; omega) | (simp (disch := omega) only [wrapI]; simp; omega) | (simp; omega)), ?_⟩ | (intro ep) | (refine ifB (fun hb => ?_) (fun hb => ?_) <;> (try simp only [decide_eq_true_eq, decide_eq_false_iff_not, beq_iff_eq, beq_eq_false_iff_ne, bne_iff_ne, bne_eq_false_iff_eq, ne_eq, not_false_eq_true, not_true_eq_false, Bool.not_eq_true, Bool.not_eq_true', Bool.not_eq_false', Int.not_lt, Int.not_le] at hb) <;> (try simp (disch := omega) only [wrapI] at hb) <;> (try (exfalso; omega))) | fail)))
  all_goals (conv => whnf)
  all_goals (refine congrArg (AV.int .i64) ?_; unfold pick; simp only [if_true, Bool.false_eq_true, if_false, reduceIte]; (repeat' split) <;> omega)
theorem min69 (a b : Int) : PRet C.P 69 [.int .i64 a, .int .i64 b] (.int .i64 (pick false a b)) := by
  refine pret_of ok mixed (A := A67) 0 Try.func69 rfl ?_
  (repeat' (first | exact rfl | ((conv => whnf); first | exact rfl | exact ⟨rfl, rfl⟩ | refine ⟨(by kernel_rfl : drawOk _ _ _ _ = true), ?_⟩ | refine ⟨(by kernel_rfl : planOk _ _ _ _ = true), ?_⟩ | refine ⟨rfl, ?_⟩ | refine ⟨by (first | omega | (simp (disch := omega) only [wrapI]; omega) | (simp (disch := omega) only [wrapI]; simp; omega) | (simp; omega)), ?_⟩ | (intro ep) | (refine ifB (fun hb => ?_) (fun hb => ?_) <;> (try simp only [decide_eq_true_eq, decide_eq_false_iff_not, beq_iff_eq, beq_eq_false_iff_ne, bne_iff_ne, bne_eq_false_iff_eq, ne_eq, not_false_eq_true, not_true_eq_false, Bool.not_eq_true, Bool.not_eq_true', Bool.not_eq_false', Int.not_lt, Int.not_le] at hb) <;> (try simp (disch := omega) only [wrapI] at hb) <;> (try (exfalso; omega))) | fail)))
  all_goals (conv => whnf)
  all_goals (refine congrArg (AV.int .i64) ?_; unfold pick; simp only [if_true, Bool.false_eq_true, if_false, reduceIte]; (repeat' split) <;> omega)
end Go.Ab.V

/-
  The highest and the lowest pitches of the events: the program's walk. The pieces are of the machine's sizes.
-/
namespace Go.Ab.V
open Go.Proofs

def lineV (h : Bool) (p : Pc) : AV := if chk p = 0 then .tup [intsA (lineL h p), .int .i64 0] else .tup [.nils, .int .i64 (chk p)]
theorem ints_set (L : List Int) (m : Nat) (x : Int) : (ints L).set (0 + ((m : Nat) : Int).toNat) [.int .i64 x] = ints (L.set m x) := by
  rw [Nat.zero_add, Int.toNat_natCast]
  simp [ints, List.map_set]
def A66 : Ann := fun r => match r with
  | 0 => { slots := [(0, 0)] }
  | 4 => { slots := [(3, 1)] }
  | 12 => { slots := [(2, 2)] }
  | 15 => { plan := some (.one 0 (.one 1 (.one 3 (.one 4 (.one 5 (.one 6 (.one 7 (.one 8 (.one 9 (.one 10 (.br 2 11 (.one 11 (.one 12 (.one 13 (.done)))) (.one 2 (.one 12 (.one 13 (.done))))))))))))))) }
  | _ => {}
set_option maxHeartbeats 8000000 in
set_option maxRecDepth 100000 in
theorem extremes66max (p : Pc) (hp : p.Ok) : PRet C.P 66 [pcA p, .fn (.func 67) [] []] (lineV true p) := by
  have hN := notes17 p hp
  unfold notesV at hN
  unfold lineV
  by_cases hc : ¬ chk p = 0
  · rw [if_neg hc] at hN ⊢
    generalize chk p = e at hN hc
    refine pret_of ok mixed (A := A66) 3 Try.func66 rfl ?_
    (repeat' (first | exact rfl | ((conv => whnf); first | refine ⟨_, hN, ?_⟩ | exact rfl | exact ⟨rfl, rfl⟩ | refine ⟨(by kernel_rfl : drawOk _ _ _ _ = true), ?_⟩ | refine ⟨(by kernel_rfl : planOk _ _ _ _ = true), ?_⟩ | refine ⟨rfl, ?_⟩ | refine ⟨by (first | omega | (simp (disch := omega) only [wrapI]; omega) | (simp (disch := omega) only [wrapI]; simp; omega) | (simp; omega)), ?_⟩ | (intro ep) | (refine ifB (fun hb => ?_) (fun hb => ?_) <;> (try simp only [decide_eq_true_eq, decide_eq_false_iff_not, beq_iff_eq, beq_eq_false_iff_ne, bne_iff_ne, bne_eq_false_iff_eq, ne_eq, not_false_eq_true, not_true_eq_false, Bool.not_eq_true, Bool.not_eq_true', Bool.not_eq_false', Int.not_lt, Int.not_le] at hb) <;> (try simp (disch := omega) only [wrapI] at hb) <;> (try (exfalso; omega))) | fail)))
  have hc := Decidable.not_not.1 hc
  rw [if_pos hc] at hN ⊢
  have v := vp hc
  have hNl := notes_len v
  have hNe := fun x => notes_e (p := p) (x := x)
  have hNr := fun x => notes_rng v (x := x)
  have hlen := v.len
  obtain ⟨Z, hZ⟩ : ∃ Z, Z = lineL true p := ⟨_, rfl⟩
  rw [← hZ]
  have hrun := runL_all true p
  rw [← hZ] at hrun
  generalize notesL p = N at hN hNl hNe hNr hrun
  refine pret_of ok mixed (A := A66) 3 Try.func66 rfl ?_
  (repeat' ((conv => whnf); first | refine ⟨_, hN, ?_⟩ | exact rfl | exact ⟨rfl, rfl⟩ | refine ⟨(by kernel_rfl : drawOk _ _ _ _ = true), ?_⟩ | refine ⟨(by kernel_rfl : planOk _ _ _ _ = true), ?_⟩ | refine ⟨rfl, ?_⟩ | refine ⟨by (first | omega | (simp (disch := omega) only [wrapI]; omega) | (simp (disch := omega) only [wrapI]; simp; omega) | (simp; omega)), ?_⟩ | (intro ep) | (refine ifB (fun hb => ?_) (fun hb => ?_) <;> (try simp only [decide_eq_true_eq, decide_eq_false_iff_not, beq_iff_eq, beq_eq_false_iff_ne, bne_iff_ne, bne_eq_false_iff_eq, ne_eq, not_false_eq_true, not_true_eq_false, Bool.not_eq_true, Bool.not_eq_true', Bool.not_eq_false', Int.not_lt, Int.not_le] at hb) <;> (try simp (disch := omega) only [wrapI] at hb) <;> (try (exfalso; omega))) | fail))
  all_goals (conv => whnf)
  rename_i e0
  obtain ⟨e1, he⟩ : ∃ e1, e1 = ep := ⟨_, rfl⟩
  subst he
  refine loopY ok mixed (A := A66) [1, 6, 8, 25, 26] [1] (S := { k : Nat // k ≤ p.evs.length })
    (fr := fun s => frOf 0 66 [(1, .fn (.func 67) [] []), (6, ntsA N), (8, .oslc (.s 1) e1 1 0 p.evs.length false), (25, .int .i64 (p.evs.length : Int)), (26, .int .i64 (s.1 : Int))])
    (h := fun s => ⟨[.hole, .vec e1 (ints (List.replicate s.1 (-1) ++ List.replicate (p.evs.length - s.1) 0)), .hole], []⟩) (μ := fun s => p.evs.length - s.1) ⟨0, Nat.zero_le _⟩ ?_ ?_
    [1, 6, 8] [1] (S' := Unit) (X := fun _ => 0)
    (frX := fun s => frOf 0 66 [(1, .fn (.func 67) [] []), (6, ntsA N), (8, .oslc (.s 1) e1 1 0 p.evs.length false)])
    (hX := fun s => ⟨[.hole, .vec e1 (ints (List.replicate p.evs.length (-1))), .hole], []⟩)
    [] [] (S2 := Empty) (frR := fun s => frOf 0 66 []) (hR := fun s => ⟨[], []⟩) ?_ ?_ ?_
  · exact rfl
  · show _ = (⟨[.hole, .vec e1 (ints (List.replicate 0 (-1) ++ List.replicate (p.evs.length - 0) 0)), .hole], []⟩ : Heap)
    rw [show ints (List.replicate 0 (-1) ++ List.replicate (p.evs.length - 0) 0) = List.replicate ((p.evs.length : Nat) : Int).toNat [.int .i64 0] by rw [Int.toNat_natCast]; simp [ints]]
    exact rfl
  · rintro ⟨k, hk⟩
    show aexR _ _ _ (frOf 0 66 [(1, .fn (.func 67) [] []), (6, ntsA N), (8, .oslc (.s 1) e1 1 0 p.evs.length false), (25, .int .i64 (p.evs.length : Int)), (26, .int .i64 (k : Int))])
      ⟨[.hole, .vec e1 (ints (List.replicate k (-1) ++ List.replicate (p.evs.length - k) 0)), .hole], []⟩ _
    by_cases g1 : k < p.evs.length
    · have hml : k < (List.replicate k (-1 : Int) ++ List.replicate (p.evs.length - k) 0).length := by simp; omega
      have hm := intsR hml
      have hst := ints_set (List.replicate k (-1 : Int) ++ List.replicate (p.evs.length - k) 0) k (-1)
      have hst2 : (List.replicate k (-1 : Int) ++ List.replicate (p.evs.length - k) 0).set k (-1) = List.replicate (k + 1) (-1) ++ List.replicate (p.evs.length - (k + 1)) 0 := by
        rw [List.set_append_right _ _ (by simp)]
        obtain ⟨n, hn⟩ : ∃ n, p.evs.length - k = n + 1 := ⟨p.evs.length - k - 1, by omega⟩
        rw [hn, show p.evs.length - (k + 1) = n by omega, List.length_replicate, Nat.sub_self, List.replicate_succ, List.set_cons_zero, List.replicate_succ' (n := k)]
        simp
      rw [hst2] at hst
      obtain ⟨W, hW⟩ : ∃ W, W = ints (List.replicate k (-1 : Int) ++ List.replicate (p.evs.length - k) 0) := ⟨_, rfl⟩
      rw [← hW] at hm hst ⊢
      generalize (List.replicate k (-1 : Int) ++ List.replicate (p.evs.length - k) 0)[k] = y at hm
      (repeat' (first | exact rfl | ((conv => whnf); first | refine optS hm ?_ | exact rfl | exact ⟨rfl, rfl⟩ | refine ⟨(by kernel_rfl : drawOk _ _ _ _ = true), ?_⟩ | refine ⟨(by kernel_rfl : planOk _ _ _ _ = true), ?_⟩ | refine ⟨rfl, ?_⟩ | refine ⟨by (first | omega | (simp (disch := omega) only [wrapI]; omega) | (simp (disch := omega) only [wrapI]; simp; omega) | (simp; omega)), ?_⟩ | (intro ep) | (refine ifB (fun hb => ?_) (fun hb => ?_) <;> (try simp only [decide_eq_true_eq, decide_eq_false_iff_not, beq_iff_eq, beq_eq_false_iff_ne, bne_iff_ne, bne_eq_false_iff_eq, ne_eq, not_false_eq_true, not_true_eq_false, Bool.not_eq_true, Bool.not_eq_true', Bool.not_eq_false', Int.not_lt, Int.not_le] at hb) <;> (try simp (disch := omega) only [wrapI] at hb) <;> (try (exfalso; omega))) | fail)))
      all_goals (conv => whnf)
      refine back_of ⟨k + 1, by omega⟩ ⟨by (first | exact rfl | (simp (disch := omega) only [wrapI]; exact rfl)), ?_, by dsimp only; omega⟩
      show _ = (⟨[.hole, .vec e1 (ints (List.replicate (k + 1) (-1) ++ List.replicate (p.evs.length - (k + 1)) 0)), .hole], []⟩ : Heap)
      rw [← hst]
      exact rfl
    · have hk2 : k = p.evs.length := by omega
      (repeat' (first | exact rfl | ((conv => whnf); first | exact rfl | exact ⟨rfl, rfl⟩ | refine ⟨(by kernel_rfl : drawOk _ _ _ _ = true), ?_⟩ | refine ⟨(by kernel_rfl : planOk _ _ _ _ = true), ?_⟩ | refine ⟨rfl, ?_⟩ | refine ⟨by (first | omega | (simp (disch := omega) only [wrapI]; omega) | (simp (disch := omega) only [wrapI]; simp; omega) | (simp; omega)), ?_⟩ | (intro ep) | (refine ifB (fun hb => ?_) (fun hb => ?_) <;> (try simp only [decide_eq_true_eq, decide_eq_false_iff_not, beq_iff_eq, beq_eq_false_iff_ne, bne_iff_ne, bne_eq_false_iff_eq, ne_eq, not_false_eq_true, not_true_eq_false, Bool.not_eq_true, Bool.not_eq_true', Bool.not_eq_false', Int.not_lt, Int.not_le] at hb) <;> (try simp (disch := omega) only [wrapI] at hb) <;> (try (exfalso; omega))) | fail)))
      all_goals (conv => whnf)
      refine back_of () ⟨rfl, rfl, ?_⟩
      show _ = (⟨[.hole, .vec e1 (ints (List.replicate p.evs.length (-1))), .hole], []⟩ : Heap)
      rw [show List.replicate p.evs.length (-1 : Int) = List.replicate k (-1) ++ List.replicate (p.evs.length - k) 0 by rw [hk2]; simp]
      exact rfl
  · rintro ⟨⟩
  · rintro ⟨⟩
    (repeat' (first | exact rfl | ((conv => whnf); first | exact rfl | exact ⟨rfl, rfl⟩ | refine ⟨(by kernel_rfl : drawOk _ _ _ _ = true), ?_⟩ | refine ⟨(by kernel_rfl : planOk _ _ _ _ = true), ?_⟩ | refine ⟨rfl, ?_⟩ | refine ⟨by (first | omega | (simp (disch := omega) only [wrapI]; omega) | (simp (disch := omega) only [wrapI]; simp; omega) | (simp; omega)), ?_⟩ | (intro ep) | fail)))
    all_goals (conv => whnf)
    refine loopY ok mixed (A := A66) [1, 8, 33, 34, 35] [1] (S := { z : Nat × List Int // z.1 ≤ N.length ∧ z.2.length = p.evs.length ∧ (N.drop z.1).foldl (upL true) z.2 = Z })
      (fr := fun s => frOf 0 66 [(1, .fn (.func 67) [] []), (8, .oslc (.s 1) e1 1 0 p.evs.length false), (33, ntsA N), (34, .int .i64 (N.length : Int)), (35, .int .i64 (s.1.1 : Int))])
      (h := fun s => ⟨[.hole, .vec e1 (ints s.1.2), .hole], []⟩) (μ := fun s => N.length - s.1.1) ⟨(0, List.replicate p.evs.length (-1)), Nat.zero_le _, by simp, hrun⟩ ?_ ?_
      [8] [1] (S' := { z : List Int // z.length = p.evs.length ∧ z = Z }) (X := fun _ => 2)
      (frX := fun s => frOf 0 66 [(8, .oslc (.s 1) e1 1 0 p.evs.length false)])
      (hX := fun s => ⟨[.hole, .vec e1 (ints s.1), .hole], []⟩)
      [] [] (S2 := Empty) (frR := fun s => frOf 0 66 []) (hR := fun s => ⟨[], []⟩) ?_ ?_ ?_
    · exact rfl
    · exact rfl
    · rintro ⟨⟨k, L⟩, hk, hL, hu⟩
      dsimp only at hk hL hu
      show aexR _ _ _ (frOf 0 66 [(1, .fn (.func 67) [] []), (8, .oslc (.s 1) e1 1 0 p.evs.length false), (33, ntsA N), (34, .int .i64 (N.length : Int)), (35, .int .i64 (k : Int))]) ⟨[.hole, .vec e1 (ints L), .hole], []⟩ _
      by_cases g1 : k < N.length
      · have hm := mapR (f := ntR) g1
        have hme := hNe N[k] (List.getElem_mem g1)
        rw [List.drop_eq_getElem_cons g1, List.foldl_cons] at hu
        generalize N[k] = x at hm hme hu
        obtain ⟨xe, xc, xp, xf, xt⟩ := x
        dsimp only at hme
        obtain ⟨m, rfl⟩ : ∃ m : Nat, xe = m := ⟨xe.toNat, by omega⟩
        have hmL : m < L.length := by omega
        have hm1 := intsR hmL
        have hup : upL true L ⟨m, xc, xp, xf, xt⟩ = L.set m (lineS true L[m] xp) := by
          unfold upL
          show L.set m (lineS true (L.getD m 0) xp) = _
          rw [List.getD, List.getElem?_eq_getElem hmL]; rfl
        rw [hup] at hu
        have hpk := max67
        have hs2 := fun x => ints_set L m x
        have hs3 := fun x y => ints_set (L.set m x) m y
        generalize L[m] = y at hm1 hu
        by_cases g2 : y < 0
        · rw [show lineS true y xp = pick true xp xp by unfold lineS; rw [if_pos g2]] at hu
          have h1 := hpk xp xp
          generalize pick true xp xp = z at h1 hu
          have hm2 : ((ints L).set (0 + ((m : Nat) : Int).toNat) [.int .i64 xp])[0 + ((m : Nat) : Int).toNat]? = some [.int .i64 xp] := by
            rw [hs2]
            have := intsR (l := L.set m xp) (i := m) (by simpa using hmL)
            rwa [List.getElem_set_self] at this
          have hfin : ((ints L).set (0 + ((m : Nat) : Int).toNat) [.int .i64 xp]).set (0 + ((m : Nat) : Int).toNat) [.int .i64 z] = ints (L.set m z) := by rw [hs2, hs3, List.set_set]
          (repeat' (first | exact rfl | ((conv => whnf); first | refine optS hm ?_ | refine optS hm1 ?_ | refine optS hm2 ?_ | refine ⟨_, h1, ?_⟩ | exact rfl | exact ⟨rfl, rfl⟩ | refine ⟨(by kernel_rfl : drawOk _ _ _ _ = true), ?_⟩ | refine ⟨(by kernel_rfl : planOk _ _ _ _ = true), ?_⟩ | refine ⟨rfl, ?_⟩ | refine ⟨by (first | omega | (simp (disch := omega) only [wrapI]; omega) | (simp (disch := omega) only [wrapI]; simp; omega) | (simp; omega)), ?_⟩ | (intro ep) | refine And.intro ?_ ?_ | (refine ifB (fun hb => ?_) (fun hb => ?_) <;> (try simp only [decide_eq_true_eq, decide_eq_false_iff_not, beq_iff_eq, beq_eq_false_iff_ne, bne_iff_ne, bne_eq_false_iff_eq, ne_eq, not_false_eq_true, not_true_eq_false, Bool.not_eq_true, Bool.not_eq_true', Bool.not_eq_false', Int.not_lt, Int.not_le] at hb) <;> (try simp (disch := omega) only [wrapI] at hb) <;> (try (exfalso; omega))) | fail)))
          all_goals (conv => whnf)
          all_goals refine back_of ⟨(k + 1, L.set m z), by dsimp only; omega, by simpa using hL, hu⟩ ⟨by (first | exact rfl | (simp (disch := omega) only [wrapI]; exact rfl)), ?_, by dsimp only; omega⟩
          all_goals show _ = (⟨[.hole, .vec e1 (ints (L.set m z)), .hole], []⟩ : Heap)
          all_goals rw [← hfin]
          all_goals exact rfl
        · rw [show lineS true y xp = pick true y xp by unfold lineS; rw [if_neg g2]] at hu
          have h1 := hpk y xp
          generalize pick true y xp = z at h1 hu
          (repeat' (first | exact rfl | ((conv => whnf); first | refine optS hm ?_ | refine optS hm1 ?_ | refine ⟨_, h1, ?_⟩ | exact rfl | exact ⟨rfl, rfl⟩ | refine ⟨(by kernel_rfl : drawOk _ _ _ _ = true), ?_⟩ | refine ⟨(by kernel_rfl : planOk _ _ _ _ = true), ?_⟩ | refine ⟨rfl, ?_⟩ | refine ⟨by (first | omega | (simp (disch := omega) only [wrapI]; omega) | (simp (disch := omega) only [wrapI]; simp; omega) | (simp; omega)), ?_⟩ | (intro ep) | refine And.intro ?_ ?_ | (refine ifB (fun hb => ?_) (fun hb => ?_) <;> (try simp only [decide_eq_true_eq, decide_eq_false_iff_not, beq_iff_eq, beq_eq_false_iff_ne, bne_iff_ne, bne_eq_false_iff_eq, ne_eq, not_false_eq_true, not_true_eq_false, Bool.not_eq_true, Bool.not_eq_true', Bool.not_eq_false', Int.not_lt, Int.not_le] at hb) <;> (try simp (disch := omega) only [wrapI] at hb) <;> (try (exfalso; omega))) | fail)))
          all_goals (conv => whnf)
          all_goals refine back_of ⟨(k + 1, L.set m z), by dsimp only; omega, by simpa using hL, hu⟩ ⟨by (first | exact rfl | (simp (disch := omega) only [wrapI]; exact rfl)), ?_, by dsimp only; omega⟩
          all_goals show _ = (⟨[.hole, .vec e1 (ints (L.set m z)), .hole], []⟩ : Heap)
          all_goals rw [← hs2]
          all_goals exact rfl
      · have hk2 : k = N.length := by omega
        subst hk2
        rw [List.drop_length, List.foldl_nil] at hu
        (repeat' (first | exact rfl | ((conv => whnf); first | exact rfl | exact ⟨rfl, rfl⟩ | refine ⟨(by kernel_rfl : drawOk _ _ _ _ = true), ?_⟩ | refine ⟨(by kernel_rfl : planOk _ _ _ _ = true), ?_⟩ | refine ⟨rfl, ?_⟩ | refine ⟨by (first | omega | (simp (disch := omega) only [wrapI]; omega) | (simp (disch := omega) only [wrapI]; simp; omega) | (simp; omega)), ?_⟩ | (intro ep) | (refine ifB (fun hb => ?_) (fun hb => ?_) <;> (try simp only [decide_eq_true_eq, decide_eq_false_iff_not, beq_iff_eq, beq_eq_false_iff_ne, bne_iff_ne, bne_eq_false_iff_eq, ne_eq, not_false_eq_true, not_true_eq_false, Bool.not_eq_true, Bool.not_eq_true', Bool.not_eq_false', Int.not_lt, Int.not_le] at hb) <;> (try simp (disch := omega) only [wrapI] at hb) <;> (try (exfalso; omega))) | fail)))
        all_goals (conv => whnf)
        all_goals exact back_of ⟨L, hL, hu⟩ ⟨rfl, rfl, rfl⟩
    · rintro ⟨⟩
    · rintro ⟨L, hL, hz⟩
      subst hz
      (repeat' (first | exact rfl | ((conv => whnf); first | exact rfl | exact ⟨rfl, rfl⟩ | refine ⟨(by kernel_rfl : drawOk _ _ _ _ = true), ?_⟩ | refine ⟨(by kernel_rfl : planOk _ _ _ _ = true), ?_⟩ | refine ⟨rfl, ?_⟩ | refine ⟨by (first | omega | (simp (disch := omega) only [wrapI]; omega) | (simp (disch := omega) only [wrapI]; simp; omega) | (simp; omega)), ?_⟩ | (intro ep) | (refine ifB (fun hb => ?_) (fun hb => ?_) <;> (try simp only [decide_eq_true_eq, decide_eq_false_iff_not, beq_iff_eq, beq_eq_false_iff_ne, bne_iff_ne, bne_eq_false_iff_eq, ne_eq, not_false_eq_true, not_true_eq_false, Bool.not_eq_true, Bool.not_eq_true', Bool.not_eq_false', Int.not_lt, Int.not_le] at hb) <;> (try simp (disch := omega) only [wrapI] at hb) <;> (try (exfalso; omega))) | fail)))
      all_goals (conv => whnf)
      refine ⟨Go.Ab.V.pure_map (f := fun x : Int => [AV.int .i64 x]) L fun x => rfl, ?_⟩
      (conv => whnf)
      refine ⟨rfl, ?_⟩
      show AV.tup [AV.lslc 1 (ints L) 0 p.evs.length false, .int .i64 0] = .tup [intsA L, .int .i64 0]
      unfold intsA
      rw [hL]
set_option maxHeartbeats 8000000 in
set_option maxRecDepth 100000 in
theorem extremes66min (p : Pc) (hp : p.Ok) : PRet C.P 66 [pcA p, .fn (.func 69) [] []] (lineV false p) := by
  have hN := notes17 p hp
  unfold notesV at hN
  unfold lineV
  by_cases hc : ¬ chk p = 0
  · rw [if_neg hc] at hN ⊢
    generalize chk p = e at hN hc
    refine pret_of ok mixed (A := A66) 3 Try.func66 rfl ?_
    (repeat' (first | exact rfl | ((conv => whnf); first | refine ⟨_, hN, ?_⟩ | exact rfl | exact ⟨rfl, rfl⟩ | refine ⟨(by kernel_rfl : drawOk _ _ _ _ = true), ?_⟩ | refine ⟨(by kernel_rfl : planOk _ _ _ _ = true), ?_⟩ | refine ⟨rfl, ?_⟩ | refine ⟨by (first | omega | (simp (disch := omega) only [wrapI]; omega) | (simp (disch := omega) only [wrapI]; simp; omega) | (simp; omega)), ?_⟩ | (intro ep) | (refine ifB (fun hb => ?_) (fun hb => ?_) <;> (try simp only [decide_eq_true_eq, decide_eq_false_iff_not, beq_iff_eq, beq_eq_false_iff_ne, bne_iff_ne, bne_eq_false_iff_eq, ne_eq, not_false_eq_true, not_true_eq_false, Bool.not_eq_true, Bool.not_eq_true', Bool.not_eq_false', Int.not_lt, Int.not_le] at hb) <;> (try simp (disch := omega) only [wrapI] at hb) <;> (try (exfalso; omega))) | fail)))
  have hc := Decidable.not_not.1 hc
  rw [if_pos hc] at hN ⊢
  have v := vp hc
  have hNl := notes_len v
  have hNe := fun x => notes_e (p := p) (x := x)
  have hNr := fun x => notes_rng v (x := x)
  have hlen := v.len
  obtain ⟨Z, hZ⟩ : ∃ Z, Z = lineL false p := ⟨_, rfl⟩
  rw [← hZ]
  have hrun := runL_all false p
  rw [← hZ] at hrun
  generalize notesL p = N at hN hNl hNe hNr hrun
  refine pret_of ok mixed (A := A66) 3 Try.func66 rfl ?_
  (repeat' ((conv => whnf); first | refine ⟨_, hN, ?_⟩ | exact rfl | exact ⟨rfl, rfl⟩ | refine ⟨(by kernel_rfl : drawOk _ _ _ _ = true), ?_⟩ | refine ⟨(by kernel_rfl : planOk _ _ _ _ = true), ?_⟩ | refine ⟨rfl, ?_⟩ | refine ⟨by (first | omega | (simp (disch := omega) only [wrapI]; omega) | (simp (disch := omega) only [wrapI]; simp; omega) | (simp; omega)), ?_⟩ | (intro ep) | (refine ifB (fun hb => ?_) (fun hb => ?_) <;> (try simp only [decide_eq_true_eq, decide_eq_false_iff_not, beq_iff_eq, beq_eq_false_iff_ne, bne_iff_ne, bne_eq_false_iff_eq, ne_eq, not_false_eq_true, not_true_eq_false, Bool.not_eq_true, Bool.not_eq_true', Bool.not_eq_false', Int.not_lt, Int.not_le] at hb) <;> (try simp (disch := omega) only [wrapI] at hb) <;> (try (exfalso; omega))) | fail))
  all_goals (conv => whnf)
  rename_i e0
  obtain ⟨e1, he⟩ : ∃ e1, e1 = ep := ⟨_, rfl⟩
  subst he
  refine loopY ok mixed (A := A66) [1, 6, 8, 25, 26] [1] (S := { k : Nat // k ≤ p.evs.length })
    (fr := fun s => frOf 0 66 [(1, .fn (.func 69) [] []), (6, ntsA N), (8, .oslc (.s 1) e1 1 0 p.evs.length false), (25, .int .i64 (p.evs.length : Int)), (26, .int .i64 (s.1 : Int))])
    (h := fun s => ⟨[.hole, .vec e1 (ints (List.replicate s.1 (-1) ++ List.replicate (p.evs.length - s.1) 0)), .hole], []⟩) (μ := fun s => p.evs.length - s.1) ⟨0, Nat.zero_le _⟩ ?_ ?_
    [1, 6, 8] [1] (S' := Unit) (X := fun _ => 0)
    (frX := fun s => frOf 0 66 [(1, .fn (.func 69) [] []), (6, ntsA N), (8, .oslc (.s 1) e1 1 0 p.evs.length false)])
    (hX := fun s => ⟨[.hole, .vec e1 (ints (List.replicate p.evs.length (-1))), .hole], []⟩)
    [] [] (S2 := Empty) (frR := fun s => frOf 0 66 []) (hR := fun s => ⟨[], []⟩) ?_ ?_ ?_
  · exact rfl
  · show _ = (⟨[.hole, .vec e1 (ints (List.replicate 0 (-1) ++ List.replicate (p.evs.length - 0) 0)), .hole], []⟩ : Heap)
    rw [show ints (List.replicate 0 (-1) ++ List.replicate (p.evs.length - 0) 0) = List.replicate ((p.evs.length : Nat) : Int).toNat [.int .i64 0] by rw [Int.toNat_natCast]; simp [ints]]
    exact rfl
  · rintro ⟨k, hk⟩
    show aexR _ _ _ (frOf 0 66 [(1, .fn (.func 69) [] []), (6, ntsA N), (8, .oslc (.s 1) e1 1 0 p.evs.length false), (25, .int .i64 (p.evs.length : Int)), (26, .int .i64 (k : Int))])
      ⟨[.hole, .vec e1 (ints (List.replicate k (-1) ++ List.replicate (p.evs.length - k) 0)), .hole], []⟩ _
    by_cases g1 : k < p.evs.length
    · have hml : k < (List.replicate k (-1 : Int) ++ List.replicate (p.evs.length - k) 0).length := by simp; omega
      have hm := intsR hml
      have hst := ints_set (List.replicate k (-1 : Int) ++ List.replicate (p.evs.length - k) 0) k (-1)
      have hst2 : (List.replicate k (-1 : Int) ++ List.replicate (p.evs.length - k) 0).set k (-1) = List.replicate (k + 1) (-1) ++ List.replicate (p.evs.length - (k + 1)) 0 := by
        rw [List.set_append_right _ _ (by simp)]
        obtain ⟨n, hn⟩ : ∃ n, p.evs.length - k = n + 1 := ⟨p.evs.length - k - 1, by omega⟩
        rw [hn, show p.evs.length - (k + 1) = n by omega, List.length_replicate, Nat.sub_self, List.replicate_succ, List.set_cons_zero, List.replicate_succ' (n := k)]
        simp
      rw [hst2] at hst
      obtain ⟨W, hW⟩ : ∃ W, W = ints (List.replicate k (-1 : Int) ++ List.replicate (p.evs.length - k) 0) := ⟨_, rfl⟩
      rw [← hW] at hm hst ⊢
      generalize (List.replicate k (-1 : Int) ++ List.replicate (p.evs.length - k) 0)[k] = y at hm
      (repeat' (first | exact rfl | ((conv => whnf); first | refine optS hm ?_ | exact rfl | exact ⟨rfl, rfl⟩ | refine ⟨(by kernel_rfl : drawOk _ _ _ _ = true), ?_⟩ | refine ⟨(by kernel_rfl : planOk _ _ _ _ = true), ?_⟩ | refine ⟨rfl, ?_⟩ | refine ⟨by (first | omega | (simp (disch := omega) only [wrapI]; omega) | (simp (disch := omega) only [wrapI]; simp; omega) | (simp; omega)), ?_⟩ | (intro ep) | (refine ifB (fun hb => ?_) (fun hb => ?_) <;> (try simp only [decide_eq_true_eq, decide_eq_false_iff_not, beq_iff_eq, beq_eq_false_iff_ne, bne_iff_ne, bne_eq_false_iff_eq, ne_eq, not_false_eq_true, not_true_eq_false, Bool.not_eq_true, Bool.not_eq_true', Bool.not_eq_false', Int.not_lt, Int.not_le] at hb) <;> (try simp (disch := omega) only [wrapI] at hb) <;> (try (exfalso; omega))) | fail)))
      all_goals (conv => whnf)
      refine back_of ⟨k + 1, by omega⟩ ⟨by (first | exact rfl | (simp (disch := omega) only [wrapI]; exact rfl)), ?_, by dsimp only; omega⟩
      show _ = (⟨[.hole, .vec e1 (ints (List.replicate (k + 1) (-1) ++ List.replicate (p.evs.length - (k + 1)) 0)), .hole], []⟩ : Heap)
      rw [← hst]
      exact rfl
    · have hk2 : k = p.evs.length := by omega
      (repeat' (first | exact rfl | ((conv => whnf); first | exact rfl | exact ⟨rfl, rfl⟩ | refine ⟨(by kernel_rfl : drawOk _ _ _ _ = true), ?_⟩ | refine ⟨(by kernel_rfl : planOk _ _ _ _ = true), ?_⟩ | refine ⟨rfl, ?_⟩ | refine ⟨by (first | omega | (simp (disch := omega) only [wrapI]; omega) | (simp (disch := omega) only [wrapI]; simp; omega) | (simp; omega)), ?_⟩ | (intro ep) | (refine ifB (fun hb => ?_) (fun hb => ?_) <;> (try simp only [decide_eq_true_eq, decide_eq_false_iff_not, beq_iff_eq, beq_eq_false_iff_ne, bne_iff_ne, bne_eq_false_iff_eq, ne_eq, not_false_eq_true, not_true_eq_false, Bool.not_eq_true, Bool.not_eq_true', Bool.not_eq_false', Int.not_lt, Int.not_le] at hb) <;> (try simp (disch := omega) only [wrapI] at hb) <;> (try (exfalso; omega))) | fail)))
      all_goals (conv => whnf)
      refine back_of () ⟨rfl, rfl, ?_⟩
      show _ = (⟨[.hole, .vec e1 (ints (List.replicate p.evs.length (-1))), .hole], []⟩ : Heap)
      rw [show List.replicate p.evs.length (-1 : Int) = List.replicate k (-1) ++ List.replicate (p.evs.length - k) 0 by rw [hk2]; simp]
      exact rfl
  · rintro ⟨⟩
  · rintro ⟨⟩
    (repeat' (first | exact rfl | ((conv => whnf); first | exact rfl | exact ⟨rfl, rfl⟩ | refine ⟨(by kernel_rfl : drawOk _ _ _ _ = true), ?_⟩ | refine ⟨(by kernel_rfl : planOk _ _ _ _ = true), ?_⟩ | refine ⟨rfl, ?_⟩ | refine ⟨by (first | omega | (simp (disch := omega) only [wrapI]; omega) | (simp (disch := omega) only [wrapI]; simp; omega) | (simp; omega)), ?_⟩ | (intro ep) | fail)))
    all_goals (conv => whnf)
    refine loopY ok mixed (A := A66) [1, 8, 33, 34, 35] [1] (S := { z : Nat × List Int // z.1 ≤ N.length ∧ z.2.length = p.evs.length ∧ (N.drop z.1).foldl (upL false) z.2 = Z })
      (fr := fun s => frOf 0 66 [(1, .fn (.func 69) [] []), (8, .oslc (.s 1) e1 1 0 p.evs.length false), (33, ntsA N), (34, .int .i64 (N.length : Int)), (35, .int .i64 (s.1.1 : Int))])
      (h := fun s => ⟨[.hole, .vec e1 (ints s.1.2), .hole], []⟩) (μ := fun s => N.length - s.1.1) ⟨(0, List.replicate p.evs.length (-1)), Nat.zero_le _, by simp, hrun⟩ ?_ ?_
      [8] [1] (S' := { z : List Int // z.length = p.evs.length ∧ z = Z }) (X := fun _ => 2)
      (frX := fun s => frOf 0 66 [(8, .oslc (.s 1) e1 1 0 p.evs.length false)])
      (hX := fun s => ⟨[.hole, .vec e1 (ints s.1), .hole], []⟩)
      [] [] (S2 := Empty) (frR := fun s => frOf 0 66 []) (hR := fun s => ⟨[], []⟩) ?_ ?_ ?_
    · exact rfl
    · exact rfl
    · rintro ⟨⟨k, L⟩, hk, hL, hu⟩
      dsimp only at hk hL hu
      show aexR _ _ _ (frOf 0 66 [(1, .fn (.func 69) [] []), (8, .oslc (.s 1) e1 1 0 p.evs.length false), (33, ntsA N), (34, .int .i64 (N.length : Int)), (35, .int .i64 (k : Int))]) ⟨[.hole, .vec e1 (ints L), .hole], []⟩ _
      by_cases g1 : k < N.length
      · have hm := mapR (f := ntR) g1
        have hme := hNe N[k] (List.getElem_mem g1)
        rw [List.drop_eq_getElem_cons g1, List.foldl_cons] at hu
        generalize N[k] = x at hm hme hu
        obtain ⟨xe, xc, xp, xf, xt⟩ := x
        dsimp only at hme
        obtain ⟨m, rfl⟩ : ∃ m : Nat, xe = m := ⟨xe.toNat, by omega⟩
        have hmL : m < L.length := by omega
        have hm1 := intsR hmL
        have hup : upL false L ⟨m, xc, xp, xf, xt⟩ = L.set m (lineS false L[m] xp) := by
          unfold upL
          show L.set m (lineS false (L.getD m 0) xp) = _
          rw [List.getD, List.getElem?_eq_getElem hmL]; rfl
        rw [hup] at hu
        have hpk := min69
        have hs2 := fun x => ints_set L m x
        have hs3 := fun x y => ints_set (L.set m x) m y
        generalize L[m] = y at hm1 hu
        by_cases g2 : y < 0
        · rw [show lineS false y xp = pick false xp xp by unfold lineS; rw [if_pos g2]] at hu
          have h1 := hpk xp xp
          generalize pick false xp xp = z at h1 hu
          have hm2 : ((ints L).set (0 + ((m : Nat) : Int).toNat) [.int .i64 xp])[0 + ((m : Nat) : Int).toNat]? = some [.int .i64 xp] := by
            rw [hs2]
            have := intsR (l := L.set m xp) (i := m) (by simpa using hmL)
            rwa [List.getElem_set_self] at this
          have hfin : ((ints L).set (0 + ((m : Nat) : Int).toNat) [.int .i64 xp]).set (0 + ((m : Nat) : Int).toNat) [.int .i64 z] = ints (L.set m z) := by rw [hs2, hs3, List.set_set]
          (repeat' (first | exact rfl | ((conv => whnf); first | refine optS hm ?_ | refine optS hm1 ?_ | refine optS hm2 ?_ | refine ⟨_, h1, ?_⟩ | exact rfl | exact ⟨rfl, rfl⟩ | refine ⟨(by kernel_rfl : drawOk _ _ _ _ = true), ?_⟩ | refine ⟨(by kernel_rfl : planOk _ _ _ _ = true), ?_⟩ | refine ⟨rfl, ?_⟩ | refine ⟨by (first | omega | (simp (disch := omega) only [wrapI]; omega) | (simp (disch := omega) only [wrapI]; simp; omega) | (simp; omega)), ?_⟩ | (intro ep) | refine And.intro ?_ ?_ | (refine ifB (fun hb => ?_) (fun hb => ?_) <;> (try simp only [decide_eq_true_eq, decide_eq_false_iff_not, beq_iff_eq, beq_eq_false_iff_ne, bne_iff_ne, bne_eq_false_iff_eq, ne_eq, not_false_eq_true, not_true_eq_false, Bool.not_eq_true, Bool.not_eq_true', Bool.not_eq_false', Int.not_lt, Int.not_le] at hb) <;> (try simp (disch := omega) only [wrapI] at hb) <;> (try (exfalso; omega))) | fail)))
          all_goals (conv => whnf)
          all_goals refine back_of ⟨(k + 1, L.set m z), by dsimp only; omega, by simpa using hL, hu⟩ ⟨by (first | exact rfl | (simp (disch := omega) only [wrapI]; exact rfl)), ?_, by dsimp only; omega⟩
          all_goals show _ = (⟨[.hole, .vec e1 (ints (L.set m z)), .hole], []⟩ : Heap)
          all_goals rw [← hfin]
          all_goals exact rfl
        · rw [show lineS false y xp = pick false y xp by unfold lineS; rw [if_neg g2]] at hu
          have h1 := hpk y xp
          generalize pick false y xp = z at h1 hu
          (repeat' (first | exact rfl | ((conv => whnf); first | refine optS hm ?_ | refine optS hm1 ?_ | refine ⟨_, h1, ?_⟩ | exact rfl | exact ⟨rfl, rfl⟩ | refine ⟨(by kernel_rfl : drawOk _ _ _ _ = true), ?_⟩ | refine ⟨(by kernel_rfl : planOk _ _ _ _ = true), ?_⟩ | refine ⟨rfl, ?_⟩ | refine ⟨by (first | omega | (simp (disch := omega) only [wrapI]; omega) | (simp (disch := omega) only [wrapI]; simp; omega) | (simp; omega)), ?_⟩ | (intro ep) | refine And.intro ?_ ?_ | (refine ifB (fun hb => ?_) (fun hb => ?_) <;> (try simp only [decide_eq_true_eq, decide_eq_false_iff_not, beq_iff_eq, beq_eq_false_iff_ne, bne_iff_ne, bne_eq_false_iff_eq, ne_eq, not_false_eq_true, not_true_eq_false, Bool.not_eq_true, Bool.not_eq_true', Bool.not_eq_false', Int.not_lt, Int.not_le] at hb) <;> (try simp (disch := omega) only [wrapI] at hb) <;> (try (exfalso; omega))) | fail)))
          all_goals (conv => whnf)
          all_goals refine back_of ⟨(k + 1, L.set m z), by dsimp only; omega, by simpa using hL, hu⟩ ⟨by (first | exact rfl | (simp (disch := omega) only [wrapI]; exact rfl)), ?_, by dsimp only; omega⟩
          all_goals show _ = (⟨[.hole, .vec e1 (ints (L.set m z)), .hole], []⟩ : Heap)
          all_goals rw [← hs2]
          all_goals exact rfl
      · have hk2 : k = N.length := by omega
        subst hk2
        rw [List.drop_length, List.foldl_nil] at hu
        (repeat' (first | exact rfl | ((conv => whnf); first | exact rfl | exact ⟨rfl, rfl⟩ | refine ⟨(by kernel_rfl : drawOk _ _ _ _ = true), ?_⟩ | refine ⟨(by kernel_rfl : planOk _ _ _ _ = true), ?_⟩ | refine ⟨rfl, ?_⟩ | refine ⟨by (first | omega | (simp (disch := omega) only [wrapI]; omega) | (simp (disch := omega) only [wrapI]; simp; omega) | (simp; omega)), ?_⟩ | (intro ep) | (refine ifB (fun hb => ?_) (fun hb => ?_) <;> (try simp only [decide_eq_true_eq, decide_eq_false_iff_not, beq_iff_eq, beq_eq_false_iff_ne, bne_iff_ne, bne_eq_false_iff_eq, ne_eq, not_false_eq_true, not_true_eq_false, Bool.not_eq_true, Bool.not_eq_true', Bool.not_eq_false', Int.not_lt, Int.not_le] at hb) <;> (try simp (disch := omega) only [wrapI] at hb) <;> (try (exfalso; omega))) | fail)))
        all_goals (conv => whnf)
        all_goals exact back_of ⟨L, hL, hu⟩ ⟨rfl, rfl, rfl⟩
    · rintro ⟨⟩
    · rintro ⟨L, hL, hz⟩
      subst hz
      (repeat' (first | exact rfl | ((conv => whnf); first | exact rfl | exact ⟨rfl, rfl⟩ | refine ⟨(by kernel_rfl : drawOk _ _ _ _ = true), ?_⟩ | refine ⟨(by kernel_rfl : planOk _ _ _ _ = true), ?_⟩ | refine ⟨rfl, ?_⟩ | refine ⟨by (first | omega | (simp (disch := omega) only [wrapI]; omega) | (simp (disch := omega) only [wrapI]; simp; omega) | (simp; omega)), ?_⟩ | (intro ep) | (refine ifB (fun hb => ?_) (fun hb => ?_) <;> (try simp only [decide_eq_true_eq, decide_eq_false_iff_not, beq_iff_eq, beq_eq_false_iff_ne, bne_iff_ne, bne_eq_false_iff_eq, ne_eq, not_false_eq_true, not_true_eq_false, Bool.not_eq_true, Bool.not_eq_true', Bool.not_eq_false', Int.not_lt, Int.not_le] at hb) <;> (try simp (disch := omega) only [wrapI] at hb) <;> (try (exfalso; omega))) | fail)))
      all_goals (conv => whnf)
      refine ⟨Go.Ab.V.pure_map (f := fun x : Int => [AV.int .i64 x]) L fun x => rfl, ?_⟩
      (conv => whnf)
      refine ⟨rfl, ?_⟩
      show AV.tup [AV.lslc 1 (ints L) 0 p.evs.length false, .int .i64 0] = .tup [intsA L, .int .i64 0]
      unfold intsA
      rw [hL]
end Go.Ab.V
