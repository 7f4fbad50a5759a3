/-
  What is proved here serves the law's text: each part says its own claim and its conditions. No condition is left open.
-/
import Derived.Test.YthdhhhgjdegafaaJL
import Derived.Test.YthdhhhgjdegafaaJM
import Derived.Test.YthdhhhgjdegafaaJK
set_option linter.unusedSimpArgs false
set_option linter.unusedVariables false

namespace Go.Ab.V
open Go.Proofs
end Go.Ab.V

namespace Go.Ab.V
open Go.Proofs
def A13 : Ann := fun r => match r with
 | 0 => { slots := [(0, 0)] }
 | _ => {}
def bestV (x : Lm) (n : List Nt) : AV := if both x n ≠ 0 then .tup [.agg [.nils, .int .i64 0, .int .i64 0], .int .i64 (both x n)] else
 if errR x n ≠ 0 then .tup [.agg [.nils, .int .i64 0, .int .i64 0], .int .i64 (errR x n)] else .tup [.agg ((voiL (enR x n) 1).headD []), .int .i64 0]
def A15 : Ann := fun r => match r with
 | 0 => { slots := [(0, 0), (1, 1)] }
 | _ => {}
theorem bestV_of (x : Lm) (n : List Nt) : (∃ e : Int, e ≠ 0 ∧ listV x n 1 = .tup [.nils, .int .i64 e] ∧ bestV x n = .tup [.agg [.nils, .int .i64 0, .int .i64 0], .int .i64 e]) ∨
  (∃ (l : List Int) (c m : Int), listV x n 1 = .tup [voisA [voiR l c m], .int .i64 0] ∧ bestV x n = .tup [.agg (voiR l c m), .int .i64 0]) := by
 unfold listV bestV
 by_cases c1 : both x n ≠ 0
 ·rw [if_pos c1, if_pos c1]
  exact .inl ⟨_, c1, rfl, rfl⟩
 rw [if_neg c1, if_neg c1, if_neg (by omega)]
 by_cases c3 : errR x n ≠ 0
 ·rw [if_pos c3, if_pos c3]
  exact .inl ⟨_, c3, rfl, rfl⟩
 rw [if_neg c3, if_neg c3]
 have c1 : both x n = 0 := by omega
 have c3 : errR x n = 0 := by omega
 have hX : chkL x = 0 := by
  unfold both at c1; split at c1
  ·rename_i h; exact absurd c1 h
  ·rename_i h; simpa using h
 have hN : chkN n = 0 := by unfold both at c1; rw [hX] at c1; simpa using c1
 obtain ⟨Ls, hG⟩ := graph_of (lmOk_of hX) hN c3
 have h1 := voiL_pos hG (most := 1) (by omega)
 have h2 := voiL_len (G := enR x n) (most := 1)
 right
 rw [show (1 : Int).toNat = 1 from rfl]
 have h4 : ∀ r ∈ voiL (enR x n) 1, ∃ l c m, r = voiR l c m := fun r hr => by
  obtain ⟨w, _, rfl⟩ := List.mem_map.1 hr
  exact ⟨_, _, _, rfl⟩
 generalize voiL (enR x n) 1 = V at h1 h2 h4
 match V, h1, h2, h4 with
 | [r], _, _, h4 =>
  obtain ⟨l, c, m, rfl⟩ := h4 r (List.mem_singleton.2 rfl)
  exact ⟨l, c, m, rfl, rfl⟩
 | _ :: _ :: _, _, h2, _ => simp only [List.length_cons] at h2; omega
 | [], h1, _, _ => simp at h1
set_option maxHeartbeats 16000000 in
set_option maxRecDepth 100000 in
theorem best15 (x : Lm) (n : List Nt) (hl : x.lo.length ≤ 9223372036854775807) (hh : x.hi.length ≤ 9223372036854775807) (h3 : n.length ≤ 9223372036854775807) : PRet C.P 15 [lmA x, ntsA n] (bestV x n) := by
 have hL := list12 x n 1 hl hh h3
 rcases bestV_of x n with ⟨e, he, h1, h2⟩ | ⟨l, c, m, h1, h2⟩
 ·rw [h1] at hL
  rw [h2]
  refine pret_of ok mixed (A := A15) 2 Try.func15 rfl ?_
  (repeat' (first | exact rfl | ((conv => whnf); first | refine ⟨_, hL, ?_⟩ | exact rfl | exact ⟨rfl, rfl⟩ | refine dk (by kernel_rfl) ?_ | refine pk (by kernel_rfl) ?_ | refine ⟨rfl, ?_⟩ | refine ⟨by (first | omega | (simp (disch := omega) only [wrapI]; first | omega | (simp; omega)) | (simp; omega)), ?_⟩ | (intro ep) | (refine ifB (fun hb => ?_) (fun hb => ?_) <;> (try simp only [qs] at hb) <;> (try simp (disch := omega) only [wrapI] at hb) <;> (try (exfalso; omega))) | fail)))
 ·rw [h1] at hL
  rw [h2]
  have hL : PRet C.P 12 [lmA x, ntsA n, .int .i64 1] (.tup [.lslc 3 [[intsA l, .int .i64 c, .int .i64 m]] 0 1 false, .int .i64 0]) := hL
  clear h1 h2
  unfold voiR
  refine pret_of ok mixed (A := A15) 2 Try.func15 rfl ?_
  (repeat' (first | exact rfl | ((conv => whnf); first | refine ⟨_, hL, ?_⟩ | exact rfl | exact ⟨rfl, rfl⟩ | refine dk (by kernel_rfl) ?_ | refine pk (by kernel_rfl) ?_ | refine ⟨rfl, ?_⟩ | refine ⟨by (first | omega | (simp (disch := omega) only [wrapI]; first | omega | (simp; omega)) | (simp; omega)), ?_⟩ | (intro ep) | (refine ifB (fun hb => ?_) (fun hb => ?_) <;> (try simp only [qs] at hb) <;> (try simp (disch := omega) only [wrapI] at hb) <;> (try (exfalso; omega))) | fail)))
end Go.Ab.V

namespace Go.Ab.V
open Go.Proofs
def A10 : Ann := fun _ => {}
def manyB (l m : Nat) : Bool := decide (m < l) && decide (l ≤ 5600)
set_option maxHeartbeats 4000000 in
set_option maxRecDepth 100000 in
theorem many10 (n : List Nt) (m : Nat) (hm : m ≤ 5600) (h3 : n.length ≤ 9223372036854775807) : PRet C.P 10 [ntsA n, .int .i64 (m : Int)] (.bool (manyB n.length m)) := by
 unfold manyB
 by_cases c1 : m < n.length
 ·rw [decide_eq_true c1]
  by_cases c2 : n.length ≤ 5600
  ·rw [decide_eq_true c2]
   refine pret_of ok mixed (A := A10) 0 Try.func10 rfl ?_
   (repeat' (first | exact rfl | ((conv => whnf); first | exact rfl | exact ⟨rfl, rfl⟩ | refine dk (by kernel_rfl) ?_ | refine pk (by kernel_rfl) ?_ | refine ⟨rfl, ?_⟩ | refine ⟨by (first | omega | (simp (disch := omega) only [wrapI]; first | omega | (simp; omega)) | (simp; omega)), ?_⟩ | (intro ep) | (refine ifB (fun hb => ?_) (fun hb => ?_) <;> (try simp only [qs] at hb) <;> (try simp (disch := omega) only [wrapI] at hb) <;> (try (exfalso; omega))) | fail)))
   all_goals (refine congrArg AV.bool ?_; simp; omega)
  ·rw [decide_eq_false c2]
   refine pret_of ok mixed (A := A10) 0 Try.func10 rfl ?_
   (repeat' (first | exact rfl | ((conv => whnf); first | exact rfl | exact ⟨rfl, rfl⟩ | refine dk (by kernel_rfl) ?_ | refine pk (by kernel_rfl) ?_ | refine ⟨rfl, ?_⟩ | refine ⟨by (first | omega | (simp (disch := omega) only [wrapI]; first | omega | (simp; omega)) | (simp; omega)), ?_⟩ | (intro ep) | (refine ifB (fun hb => ?_) (fun hb => ?_) <;> (try simp only [qs] at hb) <;> (try simp (disch := omega) only [wrapI] at hb) <;> (try (exfalso; omega))) | fail)))
   all_goals (refine congrArg AV.bool ?_; simp; omega)
 ·rw [decide_eq_false c1]
  refine pret_of ok mixed (A := A10) 0 Try.func10 rfl ?_
  (repeat' (first | exact rfl | ((conv => whnf); first | exact rfl | exact ⟨rfl, rfl⟩ | refine dk (by kernel_rfl) ?_ | refine pk (by kernel_rfl) ?_ | refine ⟨rfl, ?_⟩ | refine ⟨by (first | omega | (simp (disch := omega) only [wrapI]; first | omega | (simp; omega)) | (simp; omega)), ?_⟩ | (intro ep) | (refine ifB (fun hb => ?_) (fun hb => ?_) <;> (try simp only [qs] at hb) <;> (try simp (disch := omega) only [wrapI] at hb) <;> (try (exfalso; omega))) | fail)))
def A19 : Ann := fun _ => {}
set_option maxHeartbeats 4000000 in
set_option maxRecDepth 100000 in
theorem same19 (l : List Int) (hl : l.length ≤ 9223372036854775806) : PRet C.P 19 [intsA l, intsA l] (.bool true) := by
 refine pret_of ok mixed (A := A19) 0 Try.func19 rfl ?_
 (repeat' (first | exact rfl | ((conv => whnf); first | exact rfl | exact ⟨rfl, rfl⟩ | refine dk (by kernel_rfl) ?_ | refine pk (by kernel_rfl) ?_ | refine ⟨rfl, ?_⟩ | refine ⟨by (first | omega | (simp (disch := omega) only [wrapI]; first | omega | (simp; omega)) | (simp; omega)), ?_⟩ | (intro ep) | (refine ifB (fun hb => ?_) (fun hb => ?_) <;> (try simp only [qs] at hb) <;> (try simp (disch := omega) only [wrapI] at hb) <;> (try (exfalso; omega))) | fail)))
 all_goals (conv => whnf)
 refine loopX ok mixed (A := A19) [0, 1, 5] [] (S := { k : Nat // k ≤ l.length })
  (fr := fun s => frOf 0 26 [(0, intsA l), (1, intsA l), (5, .int .i64 (s.1 : Int))])
  (h := fun s => ⟨[], []⟩) (μ := fun s => l.length - s.1) ⟨0, by omega⟩ ?_ ?_
  [] [] (S' := Unit) (X := fun _ => 0) (frX := fun s => frOf 0 26 []) (hX := fun s => ⟨[], []⟩) (R := fun _ _ => False) ?_ (fun _ _ h => h.elim) ?_
 ·exact rfl
 ·exact rfl
 ·rintro ⟨k, hk⟩
  show aexR _ _ _ (frOf 0 26 [(0, intsA l), (1, intsA l), (5, .int .i64 (k : Int))]) ⟨[], []⟩ _
  (conv => whnf)
  refine ifB (fun g1 => ?_) (fun g1 => ?_)
  ·simp only [decide_eq_true_eq] at g1
   have h1 : k < l.length := by omega
   have hm := intsR h1
   (repeat' (first | exact rfl | ((conv => whnf); first | refine optS hm ?_ | exact rfl | exact ⟨rfl, rfl⟩ | refine dk (by kernel_rfl) ?_ | refine pk (by kernel_rfl) ?_ | refine ⟨rfl, ?_⟩ | refine ⟨by (first | omega | (simp (disch := omega) only [wrapI]; first | omega | (simp; omega)) | (simp; omega)), ?_⟩ | (intro ep) | (refine ifB (fun hb => ?_) (fun hb => ?_) <;> (try simp only [qs] at hb) <;> (try simp (disch := omega) only [wrapI] at hb) <;> (try (exfalso; omega))) | fail)))
   all_goals (conv => whnf)
   exact back_of ⟨k + 1, by omega⟩ ⟨by (first | exact rfl | (simp (disch := omega) only [wrapI]; exact rfl)), rfl, by simp only; omega⟩
  ·(repeat' (first | exact rfl | ((conv => whnf); first | exact rfl | exact ⟨rfl, rfl⟩ | refine dk (by kernel_rfl) ?_ | refine pk (by kernel_rfl) ?_ | refine ⟨rfl, ?_⟩ | refine ⟨by (first | omega | (simp (disch := omega) only [wrapI]; first | omega | (simp; omega)) | (simp; omega)), ?_⟩ | (intro ep) | fail)))
   all_goals (conv => whnf)
   exact back_of () ⟨rfl, rfl, rfl⟩
 ·rintro ⟨⟩
  (repeat' (first | exact rfl | ((conv => whnf); first | exact rfl | exact ⟨rfl, rfl⟩ | refine dk (by kernel_rfl) ?_ | refine pk (by kernel_rfl) ?_ | refine ⟨rfl, ?_⟩ | refine ⟨by (first | omega | (simp (disch := omega) only [wrapI]; first | omega | (simp; omega)) | (simp; omega)), ?_⟩ | (intro ep) | fail)))
theorem fewF_mem {F : List Int → Int} {L : Nat} : ∀ {k q : Nat} {s : List Int}, fewF F L k q = some s → q + k ≤ L + 1 → s.length ≤ L ∧ q ≤ s.length ∧ (∀ v ∈ s, 1 ≤ v ∧ v ≤ L) ∧ F s ≠ 72
 | 0, q, s, h, _ => by simp [fewF] at h
 | k + 1, q, s, h, hq => by
  unfold fewF at h
  cases hf : (subs L q 0 []).find? fun s => decide (F s ≠ 72) with
  | none =>
   rw [hf] at h
   have := fewF_mem (k := k) (q := q + 1) h (by omega)
   exact ⟨this.1, by omega, this.2.2⟩
  | some t =>
   rw [hf] at h
   cases h
   have hm := List.mem_of_find?_eq_some hf
   have hp := List.find?_some hf
   obtain ⟨h1, h2⟩ := subs_mem L q 0 [] s hm
   refine ⟨by simp at h1; omega, by simp at h1; omega, h2 (by simp), by simpa using hp⟩
end Go.Ab.V

namespace Go.Ab.V
open Go.Proofs
def x0 : Lm := ⟨[60, 40], [80, 60], 5, 0, 0⟩
def n0 : List Nt := [⟨0, 1, 67, 0, 96⟩, ⟨0, 6, 43, 0, 192⟩, ⟨1, 1, 69, 96, 192⟩]
set_option maxRecDepth 100000 in
theorem best0 : bestV x0 n0 = .tup [.agg (voiR [1, 2, 1] 0 2), .int .i64 0] := by kernel_rfl
def A11 : Ann := fun r => match r with
 | 1 => { slots := [(0, 0), (1, 1), (3, 2)], frz := [1000, 1001] }
 | 2 => { slots := [(3, 3)], frz := [2] }
 | 3 => { slots := [(6, 4)] }
 | 4 => { slots := [(15, 5)] }
 | _ => {}
set_option maxHeartbeats 16000000 in
set_option maxRecDepth 100000 in
theorem works2 : PRet C.P 11 [] (.bool true) := by
 have hB := best15 x0 n0 (by decide) (by decide) (by decide)
 rw [best0] at hB
 have hS := same19 [1, 2, 1] (by decide)
 refine pret_of (okx [] [15, 19]) mixed (A := A11) 6 Try.func11 rfl ?_
 (repeat' (first | exact rfl | ((conv => whnf); first | refine PRet.calls hB ?_ | (refine ACalls.fz 5 ?_; (conv => whnf); refine ⟨pureRows_of1 (by kernel_rfl), by (repeat' (first | exact trivial | exact eqsP_rows _ (fun x => rfl) | ((conv => whnf); first | exact trivial | refine ⟨rfl, ?_⟩ | refine ⟨?_, ?_⟩ | fail))), by (repeat' (first | exact trivial | exact eqsP_rows _ (fun x => rfl) | ((conv => whnf); first | exact trivial | refine ⟨rfl, ?_⟩ | refine ⟨?_, ?_⟩ | fail))), by (repeat' (first | exact trivial | exact eqsP_rows _ (fun x => rfl) | ((conv => whnf); first | exact trivial | refine ⟨rfl, ?_⟩ | refine ⟨?_, ?_⟩ | fail))), ?_⟩; refine PRet.calls hS ?_) | exact rfl | exact ⟨rfl, rfl⟩ | refine dk (by kernel_rfl) ?_ | refine pk (by kernel_rfl) ?_ | refine ⟨rfl, ?_⟩ | refine ⟨by (first | omega | (simp (disch := omega) only [wrapI]; first | omega | (simp; omega)) | (simp; omega)), ?_⟩ | (intro ep) | refine ⟨pureRows_of (by kernel_rfl), by (repeat' (first | exact trivial | exact eqsP_rows _ (fun x => rfl) | ((conv => whnf); first | exact trivial | refine ⟨rfl, ?_⟩ | refine ⟨?_, ?_⟩ | fail))), by (repeat' (first | exact trivial | exact eqsP_rows _ (fun x => rfl) | ((conv => whnf); first | exact trivial | refine ⟨rfl, ?_⟩ | refine ⟨?_, ?_⟩ | fail))), by (repeat' (first | exact trivial | exact eqsP_rows _ (fun x => rfl) | ((conv => whnf); first | exact trivial | refine ⟨rfl, ?_⟩ | refine ⟨?_, ?_⟩ | fail))), ?_⟩ | refine ⟨pureRows_of1 (by kernel_rfl), ?_⟩ | (refine ifB (fun hb => ?_) (fun hb => ?_) <;> (try simp only [qs] at hb) <;> (try simp (disch := omega) only [wrapI] at hb) <;> (try (exfalso; omega))) | fail)))
end Go.Ab.V

namespace Go.Ab.V
open Go.Proofs
theorem vT_len : ∀ {t : Tl}, (∀ a ∈ t, a.1.length ≤ 100000) → (vT t).length ≤ 100000 * t.length
 | [], _ => by simp [vT]
 | a :: t, h => by
  have h1 := h a (List.mem_cons_self ..)
  have h2 := vT_len fun b hb => h b (List.mem_cons_of_mem _ hb)
  have h3 : (vT (a :: t)).length = a.1.length + (vT t).length := by simp [vT]
  simp only [List.length_cons]
  omega
structure VoiOk (V : List (List AV)) : Prop where
 len : V.length ≤ 64
 at' : ∀ r ∈ V, ∃ (l : List Int) (c m : Int), r = voiR l c m ∧ l.length ≤ 600000000
theorem voiL_ok {G : Steps} (sok : SOk G) {most : Nat} (hm : 1 ≤ most ∧ most ≤ 64) : VoiOk (voiL G most) := by
 refine ⟨by have := voiL_len (G := G) (most := most); omega, fun r hr => ?_⟩
 rw [← voiD_L hm.1 sok] at hr
 obtain ⟨t, ht, rfl⟩ := List.mem_map.1 hr
 have ht : t ∈ DT most (G.drop 0) 0 := by rw [List.drop_zero]; exact ht
 have tok := DT_ok hm.1 sok (Nat.zero_le _) sok.one t ht
 refine ⟨_, _, _, rfl, ?_⟩
 have := vT_len tok.ks
 have := tok.len
 omega
theorem both_zero {x : Lm} {n : List Nt} (c1 : both x n = 0) : LmOk x ∧ chkN n = 0 := by
 have hX : chkL x = 0 := by
  unfold both at c1; split at c1
  ·rename_i h; exact absurd c1 h
  ·rename_i h; simpa using h
 exact ⟨lmOk_of hX, by unfold both at c1; rw [hX] at c1; simpa using c1⟩
theorem listV_of (x : Lm) (n : List Nt) (most : Int) : (∃ e : Int, e ≠ 0 ∧ listV x n most = .tup [.nils, .int .i64 e]) ∨ (∃ V, VoiOk V ∧ listV x n most = .tup [voisA V, .int .i64 0]) := by
 unfold listV
 by_cases c1 : both x n ≠ 0
 ·rw [if_pos c1]; exact .inl ⟨_, c1, rfl⟩
 rw [if_neg c1]
 by_cases c2 : ¬ (1 ≤ most ∧ most ≤ 64)
 ·rw [if_pos c2]; exact .inl ⟨1, by decide, rfl⟩
 rw [if_neg c2]
 by_cases c3 : errR x n ≠ 0
 ·rw [if_pos c3]; exact .inl ⟨_, c3, rfl⟩
 rw [if_neg c3]
 have c1 : both x n = 0 := by omega
 have c3 : errR x n = 0 := by omega
 obtain ⟨X, hN⟩ := both_zero c1
 obtain ⟨Ls, hG⟩ := graph_of X hN c3
 exact .inr ⟨_, voiL_ok (graph_sok X hN hG) (by omega), rfl⟩
theorem bestV_ok (x : Lm) (n : List Nt) : (∃ e : Int, e ≠ 0 ∧ bestV x n = .tup [.agg [.nils, .int .i64 0, .int .i64 0], .int .i64 e]) ∨ (∃ (l : List Int) (c m : Int), l.length ≤ 600000000 ∧ bestV x n = .tup [.agg (voiR l c m), .int .i64 0]) := by
 rcases bestV_of x n with ⟨e, he, _, h2⟩ | ⟨l, c, m, h1, h2⟩
 ·exact .inl ⟨e, he, h2⟩
 ·rcases listV_of x n 1 with ⟨e, he, h3⟩ | ⟨V, hV, h3⟩
  ·rw [h3] at h1
   simp only [AV.tup.injEq, List.cons.injEq, AV.int.injEq, true_and, and_true] at h1
   exact absurd h1.2 he
  ·rw [h3] at h1
   simp only [AV.tup.injEq, List.cons.injEq, and_true] at h1
   unfold voisA at h1
   simp only [AV.lslc.injEq, true_and, and_true] at h1
   obtain ⟨l', c', m', h4, h5⟩ := hV.at' (voiR l c m) (by rw [h1.1]; exact List.mem_singleton.2 rfl)
   have : l = l' := by
    unfold voiR intsA at h4
    simp only [List.cons.injEq, AV.lslc.injEq, true_and] at h4
    have h6 := h4.1.1
    unfold ints at h6
    have h7 := congrArg (List.map fun r : List AV => match r with | [.int _ z] => z | _ => 0) h6
    rw [List.map_map, List.map_map] at h7
    have e : ∀ l : List Int, l.map ((fun r : List AV => match r with | [.int _ z] => z | _ => 0) ∘ fun z => [AV.int .i64 z]) = l := fun l => by
     conv => rhs; rw [← List.map_id l]
     exact List.map_congr_left fun _ _ => rfl
    rw [e, e] at h7
    exact h7
   exact .inr ⟨l, c, m, by rw [this]; exact h5, h2⟩
def caseR (x : Lm) (n : List Nt) : List AV := [intsA x.lo, intsA x.hi, .int .i64 x.leap, .int .i64 x.gap, .int .i64 x.cross, ntsA n]
end Go.Ab.V

namespace Go.Ab.V
open Go.Proofs
def cntV (x : Lm) (n : List Nt) : AV := if both x n ≠ 0 then .tup [.int .i64 0, .int .i64 (both x n)] else if errR x n = 0 then .tup [.int .i64 (cntB (enR x n) 0), .int .i64 0] else
 if errR x n = 72 then .tup [.int .i64 0, .int .i64 0] else .tup [.int .i64 0, .int .i64 (errR x n)]
theorem cntB_fold {l : List Int} (h : ∀ z ∈ l, 0 ≤ z ∧ z ≤ 1099511627776) : ∀ i, 0 ≤ (l.take i).foldl (fun n c => mnC (n + c)) 0 ∧ (l.take i).foldl (fun n c => mnC (n + c)) 0 ≤ 1099511627776 := by
 have key : ∀ (l : List Int) (a : Int), (∀ z ∈ l, 0 ≤ z ∧ z ≤ 1099511627776) → (0 ≤ a ∧ a ≤ 1099511627776) → 0 ≤ l.foldl (fun n c => mnC (n + c)) a ∧ l.foldl (fun n c => mnC (n + c)) a ≤ 1099511627776 := by
  intro l
  induction l with
  | nil => intro a _ ha; exact ha
  | cons c r ih =>
   intro a hl ha
   have hc := hl c (List.mem_cons_self ..)
   refine ih _ (fun z hz => hl z (List.mem_cons_of_mem _ hz)) ?_
   show 0 ≤ mnC (a + c) ∧ mnC (a + c) ≤ 1099511627776
   unfold mnC
   split <;> omega
 exact fun i => key _ 0 (fun z hz => h z (List.mem_of_mem_take hz)) (by omega)
def A23 : Ann := fun r => match r with
 | 0 => { slots := [(0, 0)] }
 | _ => {}
set_option maxHeartbeats 16000000 in
set_option maxRecDepth 100000 in
theorem count23 (x : Lm) (n : List Nt) (hl : x.lo.length ≤ 9223372036854775807) (hh : x.hi.length ≤ 9223372036854775807) (h3 : n.length ≤ 9223372036854775807) : PRet C.P 23 [lmA x, ntsA n] (cntV x n) := by
 have hB := check51_spec x n hl hh h3
 unfold cntV
 by_cases c1 : both x n ≠ 0
 ·rw [if_pos c1]
  generalize both x n = b at hB c1
  refine pret_of (okx [] [35]) mixed (A := A23) 1 Try.func23 rfl ?_
  (repeat' (first | exact rfl | ((conv => whnf); first | refine ⟨_, hB, ?_⟩ | exact rfl | exact ⟨rfl, rfl⟩ | refine dk (by kernel_rfl) ?_ | refine pk (by kernel_rfl) ?_ | refine ⟨rfl, ?_⟩ | refine ⟨by (first | omega | (simp (disch := omega) only [wrapI]; first | omega | (simp; omega)) | (simp; omega)), ?_⟩ | (intro ep) | (refine ifB (fun hb => ?_) (fun hb => ?_) <;> (try simp only [qs] at hb) <;> (try simp (disch := omega) only [wrapI] at hb) <;> (try (exfalso; omega))) | fail)))
 rw [if_neg c1]
 have c1 : both x n = 0 := by omega
 rw [c1] at hB
 obtain ⟨X, hN⟩ := both_zero c1
 have hr := run35 x n X hN
 have herr : errR x n = (runL x n (segR 0 n).length 0 ([st0], [1]) []).1 := rfl
 by_cases c3 : errR x n ≠ 0
 ·rw [if_neg c3]
  obtain ⟨b, hb⟩ : ∃ b, b = errR x n := ⟨_, rfl⟩
  rw [← hb] at c3 ⊢
  rw [herr] at hb
  by_cases c4 : b = 72
  ·rw [if_pos c4]
   refine pret_of (okx [] [35]) mixed (A := A23) 1 Try.func23 rfl ?_
   (repeat' (first | exact rfl | ((conv => whnf); first | refine ⟨_, hB, ?_⟩ | exact rfl | exact ⟨rfl, rfl⟩ | refine dk (by kernel_rfl) ?_ | refine pk (by kernel_rfl) ?_ | refine ⟨rfl, ?_⟩ | refine ⟨by (first | omega | (simp (disch := omega) only [wrapI]; first | omega | (simp; omega)) | (simp; omega)), ?_⟩ | (intro ep) | (refine ifB (fun hb => ?_) (fun hb => ?_) <;> (try simp only [qs] at hb) <;> (try simp (disch := omega) only [wrapI] at hb) <;> (try (exfalso; omega))) | fail)))
   all_goals (conv => whnf)
   refine ACalls.part (st1 := []) (dy := []) 0 rfl (by exact rfl) (by exact rfl) hr ?_
   intro r h1 hq
   obtain ⟨es, e1, ε, rfl, hd⟩ := wq_ex hq
   rw [hd, ← hb, c4]
   (repeat' (first | exact rfl | ((conv => whnf); first | exact rfl | exact ⟨rfl, rfl⟩ | refine dk (by kernel_rfl) ?_ | refine pk (by kernel_rfl) ?_ | refine ⟨rfl, ?_⟩ | refine ⟨by (first | omega | (simp (disch := omega) only [wrapI]; first | omega | (simp; omega)) | (simp; omega)), ?_⟩ | (intro ep) | (refine ifB (fun hb => ?_) (fun hb => ?_) <;> (try simp only [qs] at hb) <;> (try simp (disch := omega) only [wrapI] at hb) <;> (try (exfalso; omega))) | fail)))
  ·rw [if_neg c4]
   refine pret_of (okx [] [35]) mixed (A := A23) 1 Try.func23 rfl ?_
   (repeat' (first | exact rfl | ((conv => whnf); first | refine ⟨_, hB, ?_⟩ | exact rfl | exact ⟨rfl, rfl⟩ | refine dk (by kernel_rfl) ?_ | refine pk (by kernel_rfl) ?_ | refine ⟨rfl, ?_⟩ | refine ⟨by (first | omega | (simp (disch := omega) only [wrapI]; first | omega | (simp; omega)) | (simp; omega)), ?_⟩ | (intro ep) | (refine ifB (fun hb => ?_) (fun hb => ?_) <;> (try simp only [qs] at hb) <;> (try simp (disch := omega) only [wrapI] at hb) <;> (try (exfalso; omega))) | fail)))
   all_goals (conv => whnf)
   refine ACalls.part (st1 := []) (dy := []) 0 rfl (by exact rfl) (by exact rfl) hr ?_
   intro r h1 hq
   obtain ⟨es, e1, ε, rfl, hd⟩ := wq_ex hq
   rw [hd, ← hb]
   (repeat' (first | exact rfl | ((conv => whnf); first | exact rfl | exact ⟨rfl, rfl⟩ | refine dk (by kernel_rfl) ?_ | refine pk (by kernel_rfl) ?_ | refine ⟨rfl, ?_⟩ | refine ⟨by (first | omega | (simp (disch := omega) only [wrapI]; first | omega | (simp; omega)) | (simp; omega)), ?_⟩ | (intro ep) | (refine ifB (fun hb => ?_) (fun hb => ?_) <;> (try simp only [qs] at hb) <;> (try simp (disch := omega) only [wrapI] at hb) <;> (try (exfalso; omega))) | fail)))
 have c3 : errR x n = 0 := by omega
 rw [if_pos c3]
 obtain ⟨Ls, hG⟩ := graph_of X hN c3
 have hll := gr_len hG.g
 have hsl := segR_lenle n
 have hlen := (ntsOk_of hN).len
 have hgl := hG.l
 rw [hG.run] at hr
 obtain ⟨t, ht⟩ : ∃ t, t = (segR 0 n).length - 1 := ⟨_, rfl⟩
 rw [← ht] at hr
 obtain ⟨K, hK⟩ : ∃ K, K = (enR x n).length := ⟨_, rfl⟩
 have hKL : K < Ls.length := by omega
 have hcl := count_law hG (by omega)
 simp only [← hK] at hcl
 have hR : cntB (enR x n) 0 = Ls[K].2.foldl (fun n c => mnC (n + c)) 0 := by rw [hcl]; rfl
 rw [hR]
 have hsz := hG.sz _ (List.getElem_mem hKL)
 obtain ⟨φ, hφ, _⟩ := graph_cn hG K hKL
 have hyl : Ls[K].2.length = Ls[K].1.length := by rw [hφ.eq, hφ.len]; simp [cs0]
 have hyb : ∀ z ∈ Ls[K].2, 0 ≤ z ∧ z ≤ 1099511627776 := fun z hz => by
  rw [hφ.eq] at hz
  obtain ⟨a, _, rfl⟩ := List.mem_map.1 hz
  unfold mnC
  split <;> omega
 refine pret_of (okx [] [35]) mixed (A := A23) 1 Try.func23 rfl ?_
 (repeat' (first | exact rfl | ((conv => whnf); first | refine ⟨_, hB, ?_⟩ | exact rfl | exact ⟨rfl, rfl⟩ | refine dk (by kernel_rfl) ?_ | refine pk (by kernel_rfl) ?_ | refine ⟨rfl, ?_⟩ | refine ⟨by (first | omega | (simp (disch := omega) only [wrapI]; first | omega | (simp; omega)) | (simp; omega)), ?_⟩ | (intro ep) | (refine ifB (fun hb => ?_) (fun hb => ?_) <;> (try simp only [qs] at hb) <;> (try simp (disch := omega) only [wrapI] at hb) <;> (try (exfalso; omega))) | fail)))
 all_goals (conv => whnf)
 refine ACalls.part (st1 := []) (dy := []) 0 rfl (by exact rfl) (by exact rfl) hr ?_
 intro r h1 hq
 obtain ⟨es, e1, ε, rfl, hd⟩ := wq_ex hq
 rw [hd]
 simp only
 obtain ⟨D, hD⟩ : ∃ D, D = runD x n es e1 ε Ls t := ⟨_, rfl⟩
 have hD0 : D[0]? = some (.vec es [srR x n (.oslc (.d 1) e1 1 0 Ls.length false) (.int .i64 (t : Int))]) := by rw [hD]; rfl
 have hD1 : D[1]? = some (.vec e1 (ptrsO ε 0 Ls)) := by rw [hD]; rfl
 have hDk : D[2 * K + 3]? = some (layV ε K Ls[K] .nils .nils) := by rw [hD, setD_run]; exact setD_v hKL
 have hpk : (ptrsO ε 0 Ls)[0 + (IntKind.i64.wrap ((Ls.length : Int) - 1)).toNat]? = some [.optr (.d (2 * K + 3)) (ε (2 * K + 3)) 5 0 0] := by
  have := ptrs_at (ε := ε) (L := Ls) (j := 0) (k := K) hKL
  rw [wrapI (by omega) (by omega), show 0 + ((Ls.length : Int) - 1).toNat = K by omega]
  rw [Nat.zero_add] at this
  exact this
 rw [← hD]
 generalize Ls[K] = Y at hDk hsz hyl hyb
 obtain ⟨f, cs⟩ := Y
 simp only at hsz hyl hyb
 unfold layV at hDk
 simp only at hDk
 (repeat' (first | exact rfl | ((conv => whnf); first | refine optO hD0 ?_ | refine optO hD1 ?_ | refine optO hDk ?_ | refine optS hpk ?_ | exact rfl | exact ⟨rfl, rfl⟩ | refine dk (by kernel_rfl) ?_ | refine pk (by kernel_rfl) ?_ | refine ⟨rfl, ?_⟩ | refine ⟨by (first | omega | (simp (disch := omega) only [wrapI]; first | omega | (simp; omega)) | (simp; omega)), ?_⟩ | (intro ep) | (refine ifB (fun hb => ?_) (fun hb => ?_) <;> (try simp only [qs] at hb) <;> (try simp (disch := omega) only [wrapI] at hb) <;> (try (exfalso; omega))) | fail)))
 all_goals (conv => whnf)
 rw [← hyl]
 refine loopY (okx [] [35]) mixed (A := A23) [9, 44, 45, 46] [] (S := { i : Nat // i ≤ cs.length })
  (fr := fun i => frOf 0 56 [(9, .int .i64 ((cs.take i.1).foldl (fun n c => mnC (n + c)) 0)), (44, .lslc 1 (ints cs) 0 cs.length false), (45, .int .i64 (cs.length : Int)), (46, .int .i64 (i.1 : Int))])
  (h := fun _ => ⟨[.hole], D⟩) (μ := fun i => cs.length - i.1) ⟨0, Nat.zero_le _⟩ ?_ ?_
  [9] [] (S' := Unit) (X := fun _ => 1) (frX := fun _ => frOf 0 56 [(9, .int .i64 (cs.foldl (fun n c => mnC (n + c)) 0))]) (hX := fun _ => ⟨[.hole], D⟩)
  [] [] (S2 := Empty) (frR := fun _ => []) (hR := fun _ => Heap.nil) ?_ (fun z => z.elim) ?_
 ·exact rfl
 ·exact rfl
 ·rintro ⟨i, hi⟩
  have hfb := cntB_fold hyb i
  have hfs : ∀ (g : i < cs.length), (cs.take (i + 1)).foldl (fun n c => mnC (n + c)) 0 = mnC ((cs.take i).foldl (fun n c => mnC (n + c)) 0 + cs[i]) := fun g => by rw [List.take_succ_eq_append_getElem g, List.foldl_append]; rfl
  obtain ⟨F, hF⟩ : ∃ F, F = (cs.take i).foldl (fun n c => mnC (n + c)) 0 := ⟨_, rfl⟩
  show aexR _ _ _ (frOf 0 56 [(9, .int .i64 ((cs.take i).foldl (fun n c => mnC (n + c)) 0)), (44, .lslc 1 (ints cs) 0 cs.length false), (45, .int .i64 (cs.length : Int)), (46, .int .i64 (i : Int))]) ⟨[.hole], D⟩ _
  rw [← hF] at hfb hfs ⊢
  by_cases g : i < cs.length
  ·have hrow := intsR g
   have hcb := hyb _ (List.getElem_mem g)
   have hfs := hfs g
   generalize cs[i] = c at hrow hcb hfs
   (repeat' (first | exact rfl | ((conv => whnf); first | refine optS hrow ?_ | exact rfl | exact ⟨rfl, rfl⟩ | refine dk (by kernel_rfl) ?_ | refine pk (by kernel_rfl) ?_ | refine ⟨rfl, ?_⟩ | refine ⟨by (first | omega | (simp (disch := omega) only [wrapI]; first | omega | (simp; omega)) | (simp; omega)), ?_⟩ | (intro ep) | (refine ifB (fun hb => ?_) (fun hb => ?_) <;> (try simp only [qs] at hb) <;> (try simp (disch := omega) only [wrapI] at hb) <;> (try (exfalso; omega))) | fail)))
   all_goals (conv => whnf)
   refine back_of ⟨i + 1, g⟩ ⟨?_, rfl, by simp only; omega⟩
   simp only [hfs]
   (first | exact rfl | (simp (disch := omega) only [wrapI]; exact rfl))
  ·have g : i = cs.length := by omega
   subst g
   (repeat' (first | exact rfl | ((conv => whnf); first | exact rfl | exact ⟨rfl, rfl⟩ | refine dk (by kernel_rfl) ?_ | refine pk (by kernel_rfl) ?_ | refine ⟨rfl, ?_⟩ | refine ⟨by (first | omega | (simp (disch := omega) only [wrapI]; first | omega | (simp; omega)) | (simp; omega)), ?_⟩ | (intro ep) | (refine ifB (fun hb => ?_) (fun hb => ?_) <;> (try simp only [qs] at hb) <;> (try simp (disch := omega) only [wrapI] at hb) <;> (try (exfalso; omega))) | fail)))
   all_goals (conv => whnf)
   rw [hF, List.take_length]
   exact back_of () ⟨rfl, rfl, rfl⟩
 ·rintro ⟨⟩
  (repeat' (first | exact rfl | ((conv => whnf); first | exact rfl | exact ⟨rfl, rfl⟩ | refine dk (by kernel_rfl) ?_ | refine pk (by kernel_rfl) ?_ | refine ⟨rfl, ?_⟩ | refine ⟨by (first | omega | (simp (disch := omega) only [wrapI]; first | omega | (simp; omega)) | (simp; omega)), ?_⟩ | (intro ep) | (refine ifB (fun hb => ?_) (fun hb => ?_) <;> (try simp only [qs] at hb) <;> (try simp (disch := omega) only [wrapI] at hb) <;> (try (exfalso; omega))) | fail)))
end Go.Ab.V

namespace Go.Ab.V
open Go.Proofs
def AfC (G : Steps) (d : Nat) : List Int := (List.range (szG G d)).map fun k => cntB (G.drop d) k
theorem AfC_at {G : Steps} {d k : Nat} (h : k < szG G d) : (AfC G d)[k]? = some (cntB (G.drop d) k) := by
 unfold AfC
 rw [List.getElem?_map, List.getElem?_range h]
 rfl
theorem AfC_len {G : Steps} {d : Nat} : (AfC G d).length = szG G d := by simp [AfC]
theorem AfC_end {G : Steps} : AfC G G.length = [1] := by
 unfold AfC szG
 rw [if_neg (by omega), List.drop_length]
 rfl
def A24 : Ann := fun r => match r with
 | 0 => { slots := [(0, 0)] }
 | 9 => { slots := [(0, 1)], frz := [10] }
 | 14 => { lifts := [(12, 3, 1)] }
 | 22 => { slots := [(2, 2), (3, 3)] }
 | _ => {}
abbrev hl4 : List AObj := [.hole, .hole, .hole, .hole]
set_option maxHeartbeats 16000000 in
set_option maxRecDepth 100000 in
theorem refCount24 (x : Lm) (n : List Nt) (hl : x.lo.length ≤ 9223372036854775807) (hh : x.hi.length ≤ 9223372036854775807) (h3 : n.length ≤ 9223372036854775807) : PRet C.P 24 [lmA x, ntsA n] (cntV x n) := by
 have hB := both56_spec x n hl hh h3
 unfold cntV
 by_cases c1 : both x n ≠ 0
 ·rw [if_pos c1]
  generalize both x n = b at hB c1
  refine pret_of ok mixed (A := A24) 4 Try.func24 rfl ?_
  (repeat' (first | exact rfl | ((conv => whnf); first | refine ⟨_, hB, ?_⟩ | exact rfl | exact ⟨rfl, rfl⟩ | refine dk (by kernel_rfl) ?_ | refine pk (by kernel_rfl) ?_ | refine ⟨rfl, ?_⟩ | refine ⟨by (first | omega | (simp (disch := omega) only [wrapI]; first | omega | (simp; omega)) | (simp; omega)), ?_⟩ | (intro ep) | (refine ifB (fun hb => ?_) (fun hb => ?_) <;> (try simp only [qs] at hb) <;> (try simp (disch := omega) only [wrapI] at hb) <;> (try (exfalso; omega))) | fail)))
 rw [if_neg c1]
 have c1 : both x n = 0 := by omega
 rw [c1] at hB
 obtain ⟨X, hN⟩ := both_zero c1
 have hE := explore39 x n X hN
 have he := err_eq X hN
 obtain ⟨E, hEE⟩ : ∃ E, E = expR x n (segR 0 n) 0 [[0, 0, 0, 0, 0]] [] := ⟨_, rfl⟩
 by_cases c3 : errR x n ≠ 0
 ·rw [if_neg c3]
  rw [← hEE] at hE he
  unfold expV at hE
  rw [if_neg (by rw [he]; exact c3), he] at hE
  generalize errR x n = b at c3 hE
  by_cases c4 : b = 72
  ·rw [if_pos c4]
   rw [c4] at hE
   refine pret_of ok mixed (A := A24) 4 Try.func24 rfl ?_
   (repeat' (first | exact rfl | ((conv => whnf); first | refine ⟨_, hB, ?_⟩ | refine ⟨_, hE, ?_⟩ | exact rfl | exact ⟨rfl, rfl⟩ | refine dk (by kernel_rfl) ?_ | refine pk (by kernel_rfl) ?_ | refine ⟨rfl, ?_⟩ | refine ⟨by (first | omega | (simp (disch := omega) only [wrapI]; first | omega | (simp; omega)) | (simp; omega)), ?_⟩ | (intro ep) | (refine ifB (fun hb => ?_) (fun hb => ?_) <;> (try simp only [qs] at hb) <;> (try simp (disch := omega) only [wrapI] at hb) <;> (try (exfalso; omega))) | fail)))
  ·rw [if_neg c4]
   refine pret_of ok mixed (A := A24) 4 Try.func24 rfl ?_
   (repeat' (first | exact rfl | ((conv => whnf); first | refine ⟨_, hB, ?_⟩ | refine ⟨_, hE, ?_⟩ | exact rfl | exact ⟨rfl, rfl⟩ | refine dk (by kernel_rfl) ?_ | refine pk (by kernel_rfl) ?_ | refine ⟨rfl, ?_⟩ | refine ⟨by (first | omega | (simp (disch := omega) only [wrapI]; first | omega | (simp; omega)) | (simp; omega)), ?_⟩ | (intro ep) | (refine ifB (fun hb => ?_) (fun hb => ?_) <;> (try simp only [qs] at hb) <;> (try simp (disch := omega) only [wrapI] at hb) <;> (try (exfalso; omega))) | fail)))
 have c3 : errR x n = 0 := by omega
 rw [if_pos c3]
 obtain ⟨Ls, hG⟩ := graph_of X hN c3
 have sok := graph_sok X hN hG
 have hEn : enR x n = E.1 := by unfold enR; rw [hEE]
 rw [← hEE] at hE he
 unfold expV at hE
 rw [if_pos (by rw [he, c3]), he, c3, ← hEn] at hE
 clear hEn hG
 generalize enR x n = G at hE sok
 have hGl := sok.len
 have hrG : ∀ d (h : d < G.length), (rowsO G)[0 + ((d : Nat) : Int).toNat]? = some [movesA G[d]] := fun d h => mapR (f := fun h => [movesA h]) h
 unfold stepsA at hE
 refine pret_of ok mixed (A := A24) 4 Try.func24 rfl ?_
 (repeat' (first | exact rfl | ((conv => whnf); first | refine ⟨_, hB, ?_⟩ | refine ⟨_, hE, ?_⟩ | exact rfl | exact ⟨rfl, rfl⟩ | refine dk (by kernel_rfl) ?_ | refine pk (by kernel_rfl) ?_ | refine ⟨rfl, ?_⟩ | refine ⟨by (first | omega | (simp (disch := omega) only [wrapI]; first | omega | (simp; omega)) | (simp; omega)), ?_⟩ | (intro ep) | refine ⟨pureRows_of1 (by kernel_rfl), ?_⟩ | (refine ifB (fun hb => ?_) (fun hb => ?_) <;> (try simp only [qs] at hb) <;> (try simp (disch := omega) only [wrapI] at hb) <;> (try (exfalso; omega))) | fail)))
 all_goals (conv => whnf)
 have e0 : (.lslc 1 (ints [1]) 0 1 false : AV) = intsA (AfC G G.length) := by rw [AfC_end]; rfl
 refine loopZ ok mixed (A := A24) [7, 10, 11] [] (S := { d : Nat // d ≤ G.length })
  (fr := fun d => frOf 0 88 [(7, stepsA G), (10, intsA (AfC G d.1)), (11, .int .i64 ((d.1 : Int) - 1))]) (h := fun _ => ⟨hl4, []⟩) (μ := fun d => d.1)
  ⟨G.length, Nat.le_refl _⟩ ?_ ?_
  [10] [] (S' := Unit) (X := fun _ => 0) (frX := fun _ => frOf 0 88 [(10, intsA (AfC G 0))]) (hX := fun _ => ⟨hl4, []⟩)
  [] [] (S2 := Empty) (frR := fun _ => []) (hR := fun _ => Heap.nil) ?_ (fun z => z.elim) ?_
 ·rw [← e0]
  (first | exact rfl | (simp (disch := omega) only [wrapI]; exact rfl))
 ·exact rfl
 ·rintro ⟨d, hd⟩
  show aexR _ _ _ (frOf 0 88 [(7, stepsA G), (10, intsA (AfC G d)), (11, .int .i64 ((d : Int) - 1))]) ⟨hl4, []⟩ _
  (conv => whnf)
  refine ifB (fun g => ?_) (fun g => ?_)
  ·simp only [decide_eq_true_eq] at g
   obtain ⟨d, rfl⟩ : ∃ d', d = d' + 1 := ⟨d - 1, by omega⟩
   have hd1 : d < G.length := by omega
   rw [show ((d + 1 : Nat) : Int) - 1 = (d : Int) by omega]
   have hrd := hrG d hd1
   have hgd : G.getD d [] = G[d] := by rw [List.getD_eq_getElem?_getD, List.getElem?_eq_getElem hd1]; rfl
   have hsz := sok.sz d
   have hms := sok.ms d
   have hnx := sok.nx d
   have hdrop : G.drop d = G[d] :: G.drop (d + 1) := List.drop_eq_getElem_cons hd1
   have hszd : szG G d = G[d].length := by unfold szG; rw [if_pos hd1, hgd]
   have hA : AfC G d = (List.range G[d].length).map fun k => cntB (G[d] :: G.drop (d + 1)) k := by unfold AfC; rw [hszd, hdrop]
   have hAf : ∀ k (h : k < szG G (d + 1)), (ints (AfC G (d + 1)))[0 + ((k : Nat) : Int).toNat]? = some [.int .i64 (cntB (G.drop (d + 1)) k)] := fun k h => by
    rw [Nat.zero_add, Int.toNat_natCast]
    unfold ints
    rw [List.getElem?_map, AfC_at h]
    rfl
   have hAFl : (AfC G (d + 1)).length = szG G (d + 1) := AfC_len
   obtain ⟨AF, hAF⟩ : ∃ AF, AF = AfC G (d + 1) := ⟨_, rfl⟩
   obtain ⟨G', hG'⟩ : ∃ G', G' = G.drop (d + 1) := ⟨_, rfl⟩
   rw [← hG'] at hA hAf
   rw [← hAF] at hAf hAFl ⊢
   rw [hgd] at hsz hms hnx
   generalize G[d] = gg at hrd hsz hms hnx hA
   (repeat' (first | ((conv => whnf); first | exact rfl | exact ⟨rfl, rfl⟩ | refine dk (by kernel_rfl) ?_ | refine pk (by kernel_rfl) ?_ | refine ⟨rfl, ?_⟩ | refine ⟨by (first | omega | (simp (disch := omega) only [wrapI]; first | omega | (simp; omega)) | (simp; omega)), ?_⟩ | (intro ep) | fail)))
   all_goals (conv => whnf)
   obtain ⟨hk, hhk⟩ : ∃ hk : Nat → List Int, hk = fun k => (List.range k).map fun k => cntB (gg :: G') k := ⟨_, rfl⟩
   have hkl : ∀ k, (hk k).length = k := fun k => by rw [hhk]; simp
   have hks1 : ∀ k, hk (k + 1) = hk k ++ [cntB (gg :: G') k] := fun k => by rw [hhk]; simp only [List.range_succ, List.map_append, List.map_cons, List.map_nil]
   have hA : AfC G d = hk gg.length := by rw [hA, hhk]
   refine loopZ ok mixed (A := A24) [7, 10, 11, 12, 13] [3] (S := { z : Nat × Nat // z.1 ≤ gg.length })
    (fr := fun z => frOf 0 88 [(7, stepsA G), (10, intsA AF), (11, .int .i64 (d : Int)), (12, .oslc (.s 3) z.1.2 1 0 z.1.1 false), (13, .int .i64 (z.1.1 : Int))])
    (h := fun z => ⟨[.hole, .hole, .hole, .vec z.1.2 (ints (hk z.1.1))], []⟩) (μ := fun z => gg.length - z.1.1)
    ⟨(0, ep), Nat.zero_le _⟩ ?_ ?_
    [7, 11, 12] [3] (S' := Nat) (X := fun _ => 2) (frX := fun e => frOf 0 88 [(7, stepsA G), (11, .int .i64 (d : Int)), (12, .oslc (.s 3) e 1 0 gg.length false)])
    (hX := fun e => ⟨[.hole, .hole, .hole, .vec e (ints (hk gg.length))], []⟩)
    [] [] (S2 := Empty) (frR := fun _ => []) (hR := fun _ => Heap.nil) ?_ (fun z => z.elim) ?_
   ·exact rfl
   ·rw [hhk]; exact rfl
   ·rintro ⟨⟨k, eh⟩, hk1⟩
    simp only at hk1
    show aexR _ _ _ (frOf 0 88 [(7, stepsA G), (10, intsA AF), (11, .int .i64 (d : Int)), (12, .oslc (.s 3) eh 1 0 k false), (13, .int .i64 (k : Int))])
     ⟨[.hole, .hole, .hole, .vec eh (ints (hk k))], []⟩ _
    unfold stepsA
    unfold movesA at hrd
    by_cases gk : k < gg.length
    ·have hrk : (rowsH gg)[0 + ((k : Nat) : Int).toNat]? = some [hereA gg[k]] := mapR (f := fun h => [hereA h]) gk
     have hgk : gg.getD k [] = gg[k] := by rw [List.getD_eq_getElem?_getD, List.getElem?_eq_getElem gk]; rfl
     have hms := hms k
     have hnx := hnx k
     have hDk : cntB (gg :: G') k = (gg[k].map fun h => cntB G' h.to).foldl (fun n c => mnC (n + c)) 0 := by rw [cntB_cons, hgk]
     rw [hgk] at hms hnx
     generalize gg[k] = ms at hrk hms hnx hDk
     obtain ⟨cs, hcs⟩ : ∃ cs : List Int, cs = ms.map fun h => cntB G' h.to := ⟨_, rfl⟩
     rw [← hcs] at hDk
     have hcl : cs.length = ms.length := by rw [hcs]; simp
     have hcb : ∀ z ∈ cs, 0 ≤ z ∧ z ≤ 1099511627776 := fun z hz => by
      rw [hcs] at hz
      obtain ⟨h, _, rfl⟩ := List.mem_map.1 hz
      exact cntB_bd _ _
     (repeat' (first | ((conv => whnf); first | refine optS hrd ?_ | exact rfl | exact ⟨rfl, rfl⟩ | refine dk (by kernel_rfl) ?_ | refine pk (by kernel_rfl) ?_ | refine ⟨rfl, ?_⟩ | refine ⟨by (first | omega | (simp (disch := omega) only [wrapI]; first | omega | (simp; omega)) | (simp; omega)), ?_⟩ | (intro ep) | (refine ifB (fun hb => ?_) (fun hb => ?_) <;> (try simp only [qs] at hb) <;> (try simp (disch := omega) only [wrapI] at hb) <;> (try (exfalso; omega))) | fail)))
     all_goals (conv => whnf)
     refine loopY ok mixed (A := A24) [7, 10, 11, 12, 13, 14, 15] [3] (S := { j : Nat // j ≤ ms.length })
      (fr := fun j => frOf 0 88 [(7, stepsA G), (10, intsA AF), (11, .int .i64 (d : Int)), (12, .oslc (.s 3) eh 1 0 k false), (13, .int .i64 (k : Int)), (14, .int .i64 ((cs.take j.1).foldl (fun n c => mnC (n + c)) 0)), (15, .int .i64 (j.1 : Int))])
      (h := fun _ => ⟨[.hole, .hole, .hole, .vec eh (ints (hk k))], []⟩) (μ := fun j => ms.length - j.1)
      ⟨0, Nat.zero_le _⟩ ?_ ?_
      [7, 10, 11, 12, 13, 14] [3] (S' := Unit) (X := fun _ => 4) (frX := fun _ => frOf 0 88 [(7, stepsA G), (10, intsA AF), (11, .int .i64 (d : Int)), (12, .oslc (.s 3) eh 1 0 k false), (13, .int .i64 (k : Int)), (14, .int .i64 (cs.foldl (fun n c => mnC (n + c)) 0))])
      (hX := fun _ => ⟨[.hole, .hole, .hole, .vec eh (ints (hk k))], []⟩)
      [] [] (S2 := Empty) (frR := fun _ => []) (hR := fun _ => Heap.nil) ?_ (fun z => z.elim) ?_
     ·exact rfl
     ·exact rfl
     ·rintro ⟨j, hj1⟩
      have hfb := cntB_fold hcb j
      have hfs : ∀ (g : j < cs.length), (cs.take (j + 1)).foldl (fun n c => mnC (n + c)) 0 = mnC ((cs.take j).foldl (fun n c => mnC (n + c)) 0 + cs[j]) := fun g => by rw [List.take_succ_eq_append_getElem g, List.foldl_append]; rfl
      obtain ⟨F, hF⟩ : ∃ F, F = (cs.take j).foldl (fun n c => mnC (n + c)) 0 := ⟨_, rfl⟩
      show aexR _ _ _ (frOf 0 88 [(7, stepsA G), (10, intsA AF), (11, .int .i64 (d : Int)), (12, .oslc (.s 3) eh 1 0 k false), (13, .int .i64 (k : Int)), (14, .int .i64 ((cs.take j).foldl (fun n c => mnC (n + c)) 0)), (15, .int .i64 (j : Int))])
       ⟨[.hole, .hole, .hole, .vec eh (ints (hk k))], []⟩ _
      rw [← hF] at hfb hfs ⊢
      unfold stepsA
      unfold hereA at hrk
      by_cases gj : j < ms.length
      ·have hrm : (rowsM ms)[0 + ((j : Nat) : Int).toNat]? = some (rmvR ms[j]) := mapR (f := rmvR) gj
       have hnx := hnx _ (List.getElem_mem gj)
       have hcj : cs[j]'(by omega) = cntB G' ms[j].to := by simp [hcs]
       have hfs := hfs (by omega)
       rw [hcj] at hfs
       generalize ms[j] = hm0 at hrm hnx hfs
       obtain ⟨ks, to, c, m⟩ := hm0
       simp only at hnx hfs
       unfold rmvR at hrm
       simp only at hrm
       have hrT := hAf to hnx
       have hcb := cntB_bd G' to
       rw [← hAFl] at hnx
       generalize cntB G' to = cc at hrT hcb hfs
       (repeat' (first | ((conv => whnf); first | refine optS hrd ?_ | refine optS hrk ?_ | refine optS hrm ?_ | refine optS hrT ?_ | exact rfl | exact ⟨rfl, rfl⟩ | refine dk (by kernel_rfl) ?_ | refine pk (by kernel_rfl) ?_ | refine ⟨rfl, ?_⟩ | refine ⟨by (first | omega | (simp (disch := omega) only [wrapI]; first | omega | (simp; omega)) | (simp; omega)), ?_⟩ | (intro ep) | (refine ifB (fun hb => ?_) (fun hb => ?_) <;> (try simp only [qs] at hb) <;> (try simp (disch := omega) only [wrapI] at hb) <;> (try (exfalso; omega))) | fail)))
       all_goals (conv => whnf)
       refine back_of ⟨j + 1, gj⟩ ⟨?_, rfl, by simp only; omega⟩
       simp only [hfs]
       (first | exact rfl | (simp (disch := omega) only [wrapI]; exact rfl))
      ·have gj : j = ms.length := by omega
       subst gj
       (repeat' (first | ((conv => whnf); first | refine optS hrd ?_ | refine optS hrk ?_ | exact rfl | exact ⟨rfl, rfl⟩ | refine dk (by kernel_rfl) ?_ | refine pk (by kernel_rfl) ?_ | refine ⟨rfl, ?_⟩ | refine ⟨by (first | omega | (simp (disch := omega) only [wrapI]; first | omega | (simp; omega)) | (simp; omega)), ?_⟩ | (intro ep) | (refine ifB (fun hb => ?_) (fun hb => ?_) <;> (try simp only [qs] at hb) <;> (try simp (disch := omega) only [wrapI] at hb) <;> (try (exfalso; omega))) | fail)))
       all_goals (conv => whnf)
       rw [hF, List.take_of_length_le (by omega)]
       exact back_of () ⟨rfl, rfl, rfl⟩
     ·rintro ⟨⟩
      rw [← hDk]
      (repeat' (first | ((conv => whnf); first | exact rfl | exact ⟨rfl, rfl⟩ | refine dk (by kernel_rfl) ?_ | refine pk (by kernel_rfl) ?_ | refine ⟨rfl, ?_⟩ | refine ⟨by (first | omega | (simp (disch := omega) only [wrapI]; first | omega | (simp; omega)) | (simp; omega)), ?_⟩ | (intro ep) | (refine ifB (fun hb => ?_) (fun hb => ?_) <;> (try simp only [qs] at hb) <;> (try simp (disch := omega) only [wrapI] at hb) <;> (try (exfalso; omega))) | fail)))
      all_goals (conv => whnf)
      have tl : List.take k (List.drop 0 (ints (hk k))) = ints (hk k) := by rw [List.drop_zero, List.take_of_length_le (by simp [ints, hkl])]
      have e' : ints (hk (k + 1)) = List.take k (List.drop 0 (ints (hk k))) ++ [[.int .i64 (cntB (gg :: G') k)]] := by rw [tl, hks1]; simp [ints]
      refine back_of (S := { z : Nat × Nat // z.1 ≤ gg.length }) ⟨(k + 1, ep), gk⟩ ⟨by (first | exact rfl | (simp (disch := omega) only [wrapI]; exact rfl)), ?_, by simp only; omega⟩
      simp only [e']
      exact rfl
    ·have gk : k = gg.length := by omega
     subst gk
     (repeat' (first | ((conv => whnf); first | refine optS hrd ?_ | exact rfl | exact ⟨rfl, rfl⟩ | refine dk (by kernel_rfl) ?_ | refine pk (by kernel_rfl) ?_ | refine ⟨rfl, ?_⟩ | refine ⟨by (first | omega | (simp (disch := omega) only [wrapI]; first | omega | (simp; omega)) | (simp; omega)), ?_⟩ | (intro ep) | (refine ifB (fun hb => ?_) (fun hb => ?_) <;> (try simp only [qs] at hb) <;> (try simp (disch := omega) only [wrapI] at hb) <;> (try (exfalso; omega))) | fail)))
     all_goals (conv => whnf)
     exact back_of eh ⟨rfl, rfl, rfl⟩
   ·intro e
    refine tr_fz 3 e (rows := ints (hk gg.length)) (fr' := frOf 0 88 [(7, stepsA G), (11, .int .i64 (d : Int)), (12, intsA (hk gg.length))])
     (st' := hl4) (by exact rfl) (pure_ints _) (by (repeat' (first | exact trivial | exact rfl | ((conv => whnf); first | exact trivial | exact rfl | refine ⟨?_, ?_⟩ | fail)))) (by (repeat' (first | exact trivial | exact rfl | ((conv => whnf); first | exact trivial | exact rfl | refine ⟨?_, ?_⟩ | fail)))) (fun o h => absurd h (by simp)) ?_ (by exact rfl) (tr_done ?_)
    ·unfold intsA
     rw [hkl]
     exact rfl
    (repeat' (first | ((conv => whnf); first | exact rfl | exact ⟨rfl, rfl⟩ | refine dk (by kernel_rfl) ?_ | refine pk (by kernel_rfl) ?_ | refine ⟨rfl, ?_⟩ | refine ⟨by (first | omega | (simp (disch := omega) only [wrapI]; first | omega | (simp; omega)) | (simp; omega)), ?_⟩ | (intro ep) | (refine ifB (fun hb => ?_) (fun hb => ?_) <;> (try simp only [qs] at hb) <;> (try simp (disch := omega) only [wrapI] at hb) <;> (try (exfalso; omega))) | fail)))
    all_goals (conv => whnf)
    rw [← hA]
    refine back_of (S := { d : Nat // d ≤ G.length }) ⟨d, by omega⟩ ⟨by (first | exact rfl | (simp (disch := omega) only [wrapI]; exact rfl)), rfl, by simp only; omega⟩
  ·simp only [decide_eq_false_iff_not] at g
   have g : d = 0 := by omega
   subst g
   (repeat' (first | ((conv => whnf); first | exact rfl | exact ⟨rfl, rfl⟩ | refine dk (by kernel_rfl) ?_ | refine pk (by kernel_rfl) ?_ | refine ⟨rfl, ?_⟩ | refine ⟨by (first | omega | (simp (disch := omega) only [wrapI]; first | omega | (simp; omega)) | (simp; omega)), ?_⟩ | (intro ep) | fail)))
   all_goals (conv => whnf)
   exact back_of () ⟨rfl, rfl, rfl⟩
 ·rintro ⟨⟩
  refine tr_done ?_
  have hone := sok.one
  have hr0 : (ints (AfC G 0))[0 + ((0 : Nat) : Int).toNat]? = some [.int .i64 (cntB G 0)] := by
   have := AfC_at (G := G) (d := 0) hone
   rw [List.drop_zero] at this
   rw [show 0 + ((0 : Nat) : Int).toNat = 0 from rfl]
   unfold ints
   rw [List.getElem?_map, this]
   rfl
  rw [← AfC_len] at hone
  (repeat' (first | exact rfl | ((conv => whnf); first | refine optS hr0 ?_ | exact rfl | exact ⟨rfl, rfl⟩ | refine dk (by kernel_rfl) ?_ | refine pk (by kernel_rfl) ?_ | refine ⟨rfl, ?_⟩ | refine ⟨by (first | omega | (simp (disch := omega) only [wrapI]; first | omega | (simp; omega)) | (simp; omega)), ?_⟩ | (intro ep) | (refine ifB (fun hb => ?_) (fun hb => ?_) <;> (try simp only [qs] at hb) <;> (try simp (disch := omega) only [wrapI] at hb) <;> (try (exfalso; omega))) | fail)))
end Go.Ab.V

namespace Go.Ab.V
open Go.Proofs
def stuE (x : Lm) (n : List Nt) : Int := (((segR 0 n)[(runL x n (segR 0 n).length 0 ([st0], [1]) []).2.2]?.bind fun q => n[q.1]?).map Nt.e).getD 0
def stuV (x : Lm) (n : List Nt) : AV := if both x n ≠ 0 then .tup [.int .i64 0, .int .i64 (both x n)] else if errR x n = 0 then .tup [.int .i64 0, .int .i64 3] else
 if errR x n = 72 then .tup [.int .i64 (stuE x n), .int .i64 0] else .tup [.int .i64 0, .int .i64 (errR x n)]
theorem run_at {x : Lm} {n : List Nt} (X : LmOk x) (hN : chkN n = 0) (h : errR x n ≠ 0) : (expR x n (segR 0 n) 0 [[0, 0, 0, 0, 0]] []).2.1 = ((runL x n (segR 0 n).length 0 ([st0], [1]) []).2.2 : Int) ∧ (runL x n (segR 0 n).length 0 ([st0], [1]) []).2.2 < (segR 0 n).length := by
 have hch : Chain n.length 0 (segR 0 n) := by have := chain_segR n.length 0 n (Nat.le_refl _); rwa [Nat.zero_add] at this
 have hr := run_exp X hN (segR 0 n).length 0 0 [[0, 0, 0, 0, 0]] ([st0], [1]) [] [] (by simp) (by simpa using hch) lay0_ok (fun _ => ⟨rfl, fun z hz => by rw [List.mem_singleton.1 hz]; exact ZOk.zero _⟩)
 rw [List.drop_zero] at hr
 have he := hr.err
 exact hr.at' (by rw [← he]; exact h)
def A25 : Ann := fun r => match r with
 | 0 => { slots := [(0, 0)] }
 | _ => {}
set_option maxHeartbeats 16000000 in
set_option maxRecDepth 100000 in
theorem stuck25 (x : Lm) (n : List Nt) (hl : x.lo.length ≤ 9223372036854775807) (hh : x.hi.length ≤ 9223372036854775807) (h3 : n.length ≤ 9223372036854775807) : PRet C.P 25 [lmA x, ntsA n] (stuV x n) := by
 have hB := check51_spec x n hl hh h3
 unfold stuV
 by_cases c1 : both x n ≠ 0
 ·rw [if_pos c1]
  generalize both x n = b at hB c1
  refine pret_of (okx [] [35]) mixed (A := A25) 1 Try.func25 rfl ?_
  (repeat' (first | exact rfl | ((conv => whnf); first | refine ⟨_, hB, ?_⟩ | exact rfl | exact ⟨rfl, rfl⟩ | refine dk (by kernel_rfl) ?_ | refine pk (by kernel_rfl) ?_ | refine ⟨rfl, ?_⟩ | refine ⟨by (first | omega | (simp (disch := omega) only [wrapI]; first | omega | (simp; omega)) | (simp; omega)), ?_⟩ | (intro ep) | (refine ifB (fun hb => ?_) (fun hb => ?_) <;> (try simp only [qs] at hb) <;> (try simp (disch := omega) only [wrapI] at hb) <;> (try (exfalso; omega))) | fail)))
 rw [if_neg c1]
 have c1 : both x n = 0 := by omega
 rw [c1] at hB
 obtain ⟨X, hN⟩ := both_zero c1
 have hr := run35 x n X hN
 have herr : errR x n = (runL x n (segR 0 n).length 0 ([st0], [1]) []).1 := rfl
 have hat := run_at X hN
 have hlen := (ntsOk_of hN).len
 have hsl := segR_lenle n
 unfold stuE
 obtain ⟨R, hR⟩ : ∃ R, R = runL x n (segR 0 n).length 0 ([st0], [1]) [] := ⟨_, rfl⟩
 rw [← hR] at hr herr hat ⊢
 obtain ⟨b, Ls, t⟩ := R
 simp only at herr hat ⊢
 rw [herr] at hat ⊢
 by_cases c3 : b = 0
 ·rw [if_pos c3]
  subst c3
  refine pret_of (okx [] [35]) mixed (A := A25) 1 Try.func25 rfl ?_
  (repeat' (first | exact rfl | ((conv => whnf); first | refine ⟨_, hB, ?_⟩ | exact rfl | exact ⟨rfl, rfl⟩ | refine dk (by kernel_rfl) ?_ | refine pk (by kernel_rfl) ?_ | refine ⟨rfl, ?_⟩ | refine ⟨by (first | omega | (simp (disch := omega) only [wrapI]; first | omega | (simp; omega)) | (simp; omega)), ?_⟩ | (intro ep) | (refine ifB (fun hb => ?_) (fun hb => ?_) <;> (try simp only [qs] at hb) <;> (try simp (disch := omega) only [wrapI] at hb) <;> (try (exfalso; omega))) | fail)))
  all_goals (conv => whnf)
  refine ACalls.part (st1 := []) (dy := []) 0 rfl (by exact rfl) (by exact rfl) hr ?_
  intro r h1 hq
  obtain ⟨es, e1, ε, rfl, hd⟩ := wq_ex hq
  rw [hd]
  (repeat' (first | exact rfl | ((conv => whnf); first | exact rfl | exact ⟨rfl, rfl⟩ | refine dk (by kernel_rfl) ?_ | refine pk (by kernel_rfl) ?_ | refine ⟨rfl, ?_⟩ | refine ⟨by (first | omega | (simp (disch := omega) only [wrapI]; first | omega | (simp; omega)) | (simp; omega)), ?_⟩ | (intro ep) | (refine ifB (fun hb => ?_) (fun hb => ?_) <;> (try simp only [qs] at hb) <;> (try simp (disch := omega) only [wrapI] at hb) <;> (try (exfalso; omega))) | fail)))
 rw [if_neg c3]
 obtain ⟨_, ht⟩ := hat c3
 by_cases c4 : b = 72
 ·rw [if_pos c4]
  subst c4
  have hs := List.getElem?_eq_getElem ht
  obtain ⟨sg, hq1⟩ := seg_at hs hlen
  have hrs : ((segR 0 n).map (segA n))[0 + ((t : Nat) : Int).toNat]? = some (segA n (segR 0 n)[t]) := mapR (f := segA n) ht
  rw [hs]
  have hsp := sg.pos
  have hsle := sg.le
  generalize (segR 0 n)[t] = q at hrs hsp hsle hq1
  obtain ⟨a, cnt⟩ := q
  simp only at hq1 hsp hsle
  have hra : (n.map ntR)[a + ((0 : Nat) : Int).toNat]? = some (ntR n[a]) := by
   rw [show a + ((0 : Nat) : Int).toNat = a from rfl, List.getElem?_map, List.getElem?_eq_getElem hq1]
   rfl
  rw [show (((some (a, cnt)).bind fun q => n[q.1]?).map Nt.e).getD 0 = n[a].e by simp [List.getElem?_eq_getElem hq1]]
  generalize n[a] = y at hra
  obtain ⟨ye, yc, yp, yf, yt⟩ := y
  unfold segA ntS at hrs
  simp only at hrs
  unfold ntR at hra
  simp only at hra
  refine pret_of (okx [] [35]) mixed (A := A25) 1 Try.func25 rfl ?_
  (repeat' (first | exact rfl | ((conv => whnf); first | refine ⟨_, hB, ?_⟩ | exact rfl | exact ⟨rfl, rfl⟩ | refine dk (by kernel_rfl) ?_ | refine pk (by kernel_rfl) ?_ | refine ⟨rfl, ?_⟩ | refine ⟨by (first | omega | (simp (disch := omega) only [wrapI]; first | omega | (simp; omega)) | (simp; omega)), ?_⟩ | (intro ep) | (refine ifB (fun hb => ?_) (fun hb => ?_) <;> (try simp only [qs] at hb) <;> (try simp (disch := omega) only [wrapI] at hb) <;> (try (exfalso; omega))) | fail)))
  all_goals (conv => whnf)
  refine ACalls.part (st1 := []) (dy := []) 0 rfl (by exact rfl) (by exact rfl) hr ?_
  intro r h1 hq
  obtain ⟨es, e1, ε, rfl, hd⟩ := wq_ex hq
  rw [hd]
  simp only
  obtain ⟨D, hD⟩ : ∃ D, D = runD x n es e1 ε Ls t := ⟨_, rfl⟩
  have hD0 : D[0]? = some (.vec es [srR x n (.oslc (.d 1) e1 1 0 Ls.length false) (.int .i64 (t : Int))]) := by rw [hD]; rfl
  rw [← hD]
  (repeat' (first | exact rfl | ((conv => whnf); first | refine optO hD0 ?_ | refine optS hrs ?_ | refine optS hra ?_ | exact rfl | exact ⟨rfl, rfl⟩ | refine dk (by kernel_rfl) ?_ | refine pk (by kernel_rfl) ?_ | refine ⟨rfl, ?_⟩ | refine ⟨by (first | omega | (simp (disch := omega) only [wrapI]; first | omega | (simp; omega)) | (simp; omega)), ?_⟩ | (intro ep) | (refine ifB (fun hb => ?_) (fun hb => ?_) <;> (try simp only [qs] at hb) <;> (try simp (disch := omega) only [wrapI] at hb) <;> (try (exfalso; omega))) | fail)))
 ·rw [if_neg c4]
  refine pret_of (okx [] [35]) mixed (A := A25) 1 Try.func25 rfl ?_
  (repeat' (first | exact rfl | ((conv => whnf); first | refine ⟨_, hB, ?_⟩ | exact rfl | exact ⟨rfl, rfl⟩ | refine dk (by kernel_rfl) ?_ | refine pk (by kernel_rfl) ?_ | refine ⟨rfl, ?_⟩ | refine ⟨by (first | omega | (simp (disch := omega) only [wrapI]; first | omega | (simp; omega)) | (simp; omega)), ?_⟩ | (intro ep) | (refine ifB (fun hb => ?_) (fun hb => ?_) <;> (try simp only [qs] at hb) <;> (try simp (disch := omega) only [wrapI] at hb) <;> (try (exfalso; omega))) | fail)))
  all_goals (conv => whnf)
  refine ACalls.part (st1 := []) (dy := []) 0 rfl (by exact rfl) (by exact rfl) hr ?_
  intro r h1 hq
  obtain ⟨es, e1, ε, rfl, hd⟩ := wq_ex hq
  rw [hd]
  (repeat' (first | exact rfl | ((conv => whnf); first | exact rfl | exact ⟨rfl, rfl⟩ | refine dk (by kernel_rfl) ?_ | refine pk (by kernel_rfl) ?_ | refine ⟨rfl, ?_⟩ | refine ⟨by (first | omega | (simp (disch := omega) only [wrapI]; first | omega | (simp; omega)) | (simp; omega)), ?_⟩ | (intro ep) | (refine ifB (fun hb => ?_) (fun hb => ?_) <;> (try simp only [qs] at hb) <;> (try simp (disch := omega) only [wrapI] at hb) <;> (try (exfalso; omega))) | fail)))
set_option maxHeartbeats 16000000 in
set_option maxRecDepth 100000 in
theorem refStuck26 (x : Lm) (n : List Nt) (hl : x.lo.length ≤ 9223372036854775807) (hh : x.hi.length ≤ 9223372036854775807) (h3 : n.length ≤ 9223372036854775807) : PRet C.P 26 [lmA x, ntsA n] (stuV x n) := by
 have hB := both56_spec x n hl hh h3
 unfold stuV
 by_cases c1 : both x n ≠ 0
 ·rw [if_pos c1]
  generalize both x n = b at hB c1
  refine pret_of ok mixed (A := A25) 1 Try.func26 rfl ?_
  (repeat' (first | exact rfl | ((conv => whnf); first | refine ⟨_, hB, ?_⟩ | exact rfl | exact ⟨rfl, rfl⟩ | refine dk (by kernel_rfl) ?_ | refine pk (by kernel_rfl) ?_ | refine ⟨rfl, ?_⟩ | refine ⟨by (first | omega | (simp (disch := omega) only [wrapI]; first | omega | (simp; omega)) | (simp; omega)), ?_⟩ | (intro ep) | (refine ifB (fun hb => ?_) (fun hb => ?_) <;> (try simp only [qs] at hb) <;> (try simp (disch := omega) only [wrapI] at hb) <;> (try (exfalso; omega))) | fail)))
 rw [if_neg c1]
 have c1 : both x n = 0 := by omega
 rw [c1] at hB
 obtain ⟨X, hN⟩ := both_zero c1
 have hE := explore39 x n X hN
 have he := err_eq X hN
 have hat := run_at X hN
 have hlen := (ntsOk_of hN).len
 have hev := refEvents_spec n hlen
 have hbl : (bnds n).length = (segR 0 n).length + 1 := by unfold bnds; simp
 unfold stuE
 generalize (runL x n (segR 0 n).length 0 ([st0], [1]) []).2.2 = t at hat
 unfold expV at hE
 generalize expR x n (segR 0 n) 0 [[0, 0, 0, 0, 0]] [] = E at hE he hat
 obtain ⟨E1, E2, E3⟩ := E
 simp only at he hat hE
 rw [← he] at hat ⊢
 by_cases c3 : E3 = 0
 ·rw [if_pos c3]
  rw [if_pos c3] at hE
  subst c3
  unfold stepsA at hE
  refine pret_of ok mixed (A := A25) 1 Try.func26 rfl ?_
  (repeat' (first | exact rfl | ((conv => whnf); first | refine ⟨_, hB, ?_⟩ | refine ⟨_, hE, ?_⟩ | exact rfl | exact ⟨rfl, rfl⟩ | refine dk (by kernel_rfl) ?_ | refine pk (by kernel_rfl) ?_ | refine ⟨rfl, ?_⟩ | refine ⟨by (first | omega | (simp (disch := omega) only [wrapI]; first | omega | (simp; omega)) | (simp; omega)), ?_⟩ | (intro ep) | (refine ifB (fun hb => ?_) (fun hb => ?_) <;> (try simp only [qs] at hb) <;> (try simp (disch := omega) only [wrapI] at hb) <;> (try (exfalso; omega))) | fail)))
 rw [if_neg c3]
 rw [if_neg c3] at hE
 obtain ⟨ha, ht⟩ := hat c3
 by_cases c4 : E3 = 72
 ·rw [if_pos c4]
  subst c4
  subst ha
  have hs := List.getElem?_eq_getElem ht
  obtain ⟨sg, hq1⟩ := seg_at hs hlen
  have hbt : (ints (bnds n))[0 + ((t : Nat) : Int).toNat]? = some [.int .i64 ((segR 0 n)[t].1 : Int)] := by
   rw [Nat.zero_add, Int.toNat_natCast]
   unfold ints bnds
   rw [List.getElem?_map, List.getElem?_append_left (by simpa using ht), List.getElem?_map, hs]
   rfl
  rw [hs]
  generalize (segR 0 n)[t] = q at hbt hq1
  obtain ⟨a, cnt⟩ := q
  simp only at hq1 hbt
  have hra : (n.map ntR)[0 + ((a : Nat) : Int).toNat]? = some (ntR n[a]) := mapR (f := ntR) hq1
  rw [show (((some (a, cnt)).bind fun q => n[q.1]?).map Nt.e).getD 0 = n[a].e by simp [List.getElem?_eq_getElem hq1]]
  generalize n[a] = y at hra
  obtain ⟨ye, yc, yp, yf, yt⟩ := y
  unfold ntR at hra
  simp only at hra
  refine pret_of ok mixed (A := A25) 1 Try.func26 rfl ?_
  (repeat' (first | exact rfl | ((conv => whnf); first | refine ⟨_, hB, ?_⟩ | refine ⟨_, hE, ?_⟩ | refine ⟨_, hev, ?_⟩ | refine optS hbt ?_ | refine optS hra ?_ | exact rfl | exact ⟨rfl, rfl⟩ | refine dk (by kernel_rfl) ?_ | refine pk (by kernel_rfl) ?_ | refine ⟨rfl, ?_⟩ | refine ⟨by (first | omega | (simp (disch := omega) only [wrapI]; first | omega | (simp; omega)) | (simp; omega)), ?_⟩ | (intro ep) | (refine ifB (fun hb => ?_) (fun hb => ?_) <;> (try simp only [qs] at hb) <;> (try simp (disch := omega) only [wrapI] at hb) <;> (try (exfalso; omega))) | fail)))
 ·rw [if_neg c4]
  refine pret_of ok mixed (A := A25) 1 Try.func26 rfl ?_
  (repeat' (first | exact rfl | ((conv => whnf); first | refine ⟨_, hB, ?_⟩ | refine ⟨_, hE, ?_⟩ | exact rfl | exact ⟨rfl, rfl⟩ | refine dk (by kernel_rfl) ?_ | refine pk (by kernel_rfl) ?_ | refine ⟨rfl, ?_⟩ | refine ⟨by (first | omega | (simp (disch := omega) only [wrapI]; first | omega | (simp; omega)) | (simp; omega)), ?_⟩ | (intro ep) | (refine ifB (fun hb => ?_) (fun hb => ?_) <;> (try simp only [qs] at hb) <;> (try simp (disch := omega) only [wrapI] at hb) <;> (try (exfalso; omega))) | fail)))
def A6 : Ann := fun r => match r with
 | 0 => { slots := [(0, 0)] }
 | _ => {}
theorem cntV_of (x : Lm) (n : List Nt) : (∃ e : Int, cntV x n = .tup [.int .i64 0, .int .i64 e]) ∨ (∃ c : Int, cntV x n = .tup [.int .i64 c, .int .i64 0] ∧ (0 < c ∧ c ≤ 64 → ∃ V : List (List AV), listV x n 64 = .tup [voisA V, .int .i64 0] ∧ (V.length : Int) = c)) := by
 unfold cntV listV
 by_cases c1 : both x n ≠ 0
 ·rw [if_pos c1]; exact .inl ⟨_, rfl⟩
 rw [if_neg c1, if_neg c1]
 by_cases c3 : errR x n = 0
 ·rw [if_pos c3, if_neg (by omega), if_neg (by omega)]
  refine .inr ⟨_, rfl, fun hc => ⟨_, rfl, ?_⟩⟩
  unfold voiL
  rw [List.length_map, List.length_take, show (64 : Int).toNat = 64 from rfl]
  unfold cntB mnC at hc ⊢
  split at hc <;> omega
 ·rw [if_neg c3]
  split
  ·exact .inl ⟨_, rfl⟩
  ·exact .inl ⟨_, rfl⟩
theorem stuV_of (x : Lm) (n : List Nt) : ∃ a b : Int, stuV x n = .tup [.int .i64 a, .int .i64 b] := by
 unfold stuV
 split
 ·exact ⟨_, _, rfl⟩
 ·split
  ·exact ⟨_, _, rfl⟩
  ·split
   ·exact ⟨_, _, rfl⟩
   ·exact ⟨_, _, rfl⟩
set_option maxHeartbeats 16000000 in
set_option maxRecDepth 100000 in
theorem law_counts (x : Lm) (n : List Nt) (h1 : x.lo.length ≤ 9223372036854775807) (h2 : x.hi.length ≤ 9223372036854775807) (h3 : n.length ≤ 9223372036854775807) : ACalls C.P 6 [caseA x n] Heap.nil fun r _ => r = .bool true := by
 have hM := many10 n 40 (by omega) h3
 have hM2 := many10 n 24 (by omega) h3
 have a1 := count23 x n h1 h2 h3
 have a2 := refCount24 x n h1 h2 h3
 have a3 := stuck25 x n h1 h2 h3
 have a4 := refStuck26 x n h1 h2 h3
 have a5 := list12 x n 64 h1 h2 h3
 obtain ⟨sa, sb, hs⟩ := stuV_of x n
 rw [hs] at a3 a4
 cases hb : manyB n.length 40 with
 | true =>
  rw [hb] at hM
  refine fn_of ok mixed (A := A6) 1 Try.func6 rfl ?_
  (repeat' (first | exact rfl | ((conv => whnf); first | refine ⟨_, hM, ?_⟩ | refine ⟨_, works2, ?_⟩ | exact rfl | exact ⟨rfl, rfl⟩ | refine dk (by kernel_rfl) ?_ | refine pk (by kernel_rfl) ?_ | refine ⟨rfl, ?_⟩ | refine ⟨by (first | omega | (simp (disch := omega) only [wrapI]; first | omega | (simp; omega)) | (simp; omega)), ?_⟩ | (intro ep) | (refine ifB (fun hb => ?_) (fun hb => ?_) <;> (try simp only [qs] at hb) <;> (try simp (disch := omega) only [wrapI] at hb) <;> (try (exfalso; omega))) | fail)))
 | false =>
  rw [hb] at hM
  rcases cntV_of x n with ⟨e, he⟩ | ⟨c, he, hc⟩
  ·rw [he] at a1 a2
   refine fn_of ok mixed (A := A6) 1 Try.func6 rfl ?_
   (repeat' (first | exact rfl | ((conv => whnf); first | refine ⟨_, hM, ?_⟩ | refine ⟨_, a1, ?_⟩ | refine ⟨_, a2, ?_⟩ | refine ⟨_, a3, ?_⟩ | refine ⟨_, a4, ?_⟩ | refine ⟨_, works2, ?_⟩ | exact rfl | exact ⟨rfl, rfl⟩ | refine dk (by kernel_rfl) ?_ | refine pk (by kernel_rfl) ?_ | refine ⟨rfl, ?_⟩ | refine ⟨by (first | omega | (simp (disch := omega) only [wrapI]; first | omega | (simp; omega)) | (simp; omega)), ?_⟩ | (intro ep) | (refine ifB (fun hb => ?_) (fun hb => ?_) <;> (try simp only [qs] at hb) <;> (try simp (disch := omega) only [wrapI] at hb) <;> (try (exfalso; omega))) | fail)))
  ·rw [he] at a1 a2
   by_cases cc : 0 < c ∧ c ≤ 64
   ·obtain ⟨V, hV, hVl⟩ := hc cc
    rw [hV] at a5
    unfold voisA at a5
    obtain ⟨c1, c2⟩ := cc
    cases hm : manyB n.length 24 with
    | true =>
     rw [hm] at hM2
     refine fn_of ok mixed (A := A6) 1 Try.func6 rfl ?_
     (repeat' (first | exact rfl | ((conv => whnf); first | refine ⟨_, hM, ?_⟩ | refine ⟨_, a1, ?_⟩ | refine ⟨_, a2, ?_⟩ | refine ⟨_, a3, ?_⟩ | refine ⟨_, a4, ?_⟩ | refine ⟨_, hM2, ?_⟩ | refine ⟨_, works2, ?_⟩ | exact rfl | exact ⟨rfl, rfl⟩ | refine dk (by kernel_rfl) ?_ | refine pk (by kernel_rfl) ?_ | refine ⟨rfl, ?_⟩ | refine ⟨by (first | omega | (simp (disch := omega) only [wrapI]; first | omega | (simp; omega)) | (simp; omega)), ?_⟩ | (intro ep) | (refine ifB (fun hb => ?_) (fun hb => ?_) <;> (try simp only [qs] at hb) <;> (try simp (disch := omega) only [wrapI] at hb) <;> (try (exfalso; omega))) | fail)))
    | false =>
     rw [hm] at hM2
     refine fn_of ok mixed (A := A6) 1 Try.func6 rfl ?_
     (repeat' (first | exact rfl | ((conv => whnf); first | refine ⟨_, hM, ?_⟩ | refine ⟨_, a1, ?_⟩ | refine ⟨_, a2, ?_⟩ | refine ⟨_, a3, ?_⟩ | refine ⟨_, a4, ?_⟩ | refine ⟨_, hM2, ?_⟩ | refine ⟨_, a5, ?_⟩ | refine ⟨_, works2, ?_⟩ | exact rfl | exact ⟨rfl, rfl⟩ | refine dk (by kernel_rfl) ?_ | refine pk (by kernel_rfl) ?_ | refine ⟨rfl, ?_⟩ | refine ⟨by (first | omega | (simp (disch := omega) only [wrapI]; first | omega | (simp; omega)) | (simp; omega)), ?_⟩ | (intro ep) | (refine ifB (fun hb => ?_) (fun hb => ?_) <;> (try simp only [qs] at hb) <;> (try simp (disch := omega) only [wrapI] at hb) <;> (try (exfalso; omega))) | fail)))
   ·have cc : c ≤ 0 ∨ 64 < c := by omega
    refine fn_of ok mixed (A := A6) 1 Try.func6 rfl ?_
    (repeat' (first | exact rfl | ((conv => whnf); first | refine ⟨_, hM, ?_⟩ | refine ⟨_, a1, ?_⟩ | refine ⟨_, a2, ?_⟩ | refine ⟨_, a3, ?_⟩ | refine ⟨_, a4, ?_⟩ | refine ⟨_, works2, ?_⟩ | exact rfl | exact ⟨rfl, rfl⟩ | refine dk (by kernel_rfl) ?_ | refine pk (by kernel_rfl) ?_ | refine ⟨rfl, ?_⟩ | refine ⟨by (first | omega | (simp (disch := omega) only [wrapI]; first | omega | (simp; omega)) | (simp; omega)), ?_⟩ | (intro ep) | (refine ifB (fun hb => ?_) (fun hb => ?_) <;> (try simp only [qs] at hb) <;> (try simp (disch := omega) only [wrapI] at hb) <;> (try (exfalso; omega))) | fail)))
end Go.Ab.V
