/-
  What is proved here serves the law's text: each part says its own claim and its conditions. No condition is left open.
-/
import Derived.Test.YthdhhhgjdegafaaKQ
set_option linter.unusedSimpArgs false
set_option linter.unusedVariables false

namespace Go.Ab.V
open Go.Proofs
def ind (t : Int) (x y : Nt) : Int := if t < x.t ∧ t < y.t ∧ x.p < y.p then 1 else 0
def crB (s : St) (t : Int) (b : Nat) : Nat → Int
 | 0 => 0
 | a + 1 => crB s t b a + ind t (s.get a) (s.get b)
def crA (s : St) (t : Int) : Nat → Int
 | 0 => 0
 | b + 1 => crA s t b + crB s t b b
def crs (s : St) (t : Int) : Int := crA s t 5
theorem ind_bd (t : Int) (x y : Nt) : 0 ≤ ind t x y ∧ ind t x y ≤ 1 := by unfold ind; split <;> omega
theorem crB_bd (s : St) (t : Int) (b : Nat) : ∀ a : Nat, 0 ≤ crB s t b a ∧ crB s t b a ≤ a
 | 0 => by simp [crB]
 | a + 1 => by
  have h1 := crB_bd s t b a
  have h2 := ind_bd t (s.get a) (s.get b)
  simp only [crB]; omega
theorem crA_bd (s : St) (t : Int) : ∀ b : Nat, b ≤ 5 → 0 ≤ crA s t b ∧ crA s t b ≤ 5 * b
 | 0, _ => by simp [crA]
 | b + 1, h => by
  have h1 := crA_bd s t b (by omega)
  have h2 := crB_bd s t b b
  simp only [crA]; omega
theorem crs_bd (s : St) (t : Int) : 0 ≤ crs s t ∧ crs s t ≤ 25 := by have := crA_bd s t 5 (by omega); unfold crs; omega
theorem row_t (s : St) {k : Nat} (hk : k < 5) : aPart false 1 (0 + (k : Int).toNat * 5 + 4) s.row = some (.int .i64 (s.get k).t) := by
 obtain rfl | rfl | rfl | rfl | rfl : k = 0 ∨ k = 1 ∨ k = 2 ∨ k = 3 ∨ k = 4 := by omega
 all_goals exact rfl
theorem row_p (s : St) {k : Nat} (hk : k < 5) : aPart false 1 (0 + (k : Int).toNat * 5 + 2) s.row = some (.int .i64 (s.get k).p) := by
 obtain rfl | rfl | rfl | rfl | rfl : k = 0 ∨ k = 1 ∨ k = 2 ∨ k = 3 ∨ k = 4 := by omega
 all_goals exact rfl
def A43 : Ann := fun _ => {}
set_option maxHeartbeats 16000000 in
set_option maxRecDepth 100000 in
theorem cross54 (s : St) (t : Int) (e0 : Nat) (o0 o1 o3 : AObj) :
  ACalls C.P 43 [.optr (.s 2) e0 25 0 0, .int .i64 t] ⟨hpV o0 o1 o3 e0 s, []⟩ fun r h => r = .int .i64 (crs s t) ∧ h.trunc 4 = ⟨hpV o0 o1 o3 e0 s, []⟩ := by
 refine fn_of (okx [] [42, 43]) mixed (A := A43) 0 Try.func43 rfl ?_
 (repeat' (first | exact rfl | ((conv => whnf); first | exact rfl | exact ⟨rfl, rfl⟩ | refine dk (by kernel_rfl) ?_ | refine pk (by kernel_rfl) ?_ | refine ⟨rfl, ?_⟩ | refine ⟨by (first | omega | (simp (disch := omega) only [wrapI]; first | omega | (simp; omega)) | (simp; omega)), ?_⟩ | (intro ep) | fail)))
 all_goals (conv => whnf)
 refine loopX (okx [] [42, 43]) mixed (A := A43) [0, 1, 4, 7] [0, 1, 2, 3] (S := { b : Nat // b ≤ 5 })
  (fr := fun x => frOf 0 52 [(0, .optr (.s 2) e0 25 0 0), (1, .int .i64 t), (4, .int .i64 (crA s t x.1)), (7, .int .i64 (x.1 : Int))])
  (h := fun x => ⟨hpV o0 o1 o3 e0 s, []⟩) (μ := fun x => 5 - x.1) ⟨0, by omega⟩ ?_ ?_
  [4] [0, 1, 2, 3] (S' := Unit) (X := fun _ => 0) (frX := fun x => frOf 0 52 [(4, .int .i64 (crs s t))]) (hX := fun x => ⟨hpV o0 o1 o3 e0 s, []⟩)
  (R := fun _ _ => False) ?_ (fun _ _ h => h.elim) ?_
 ·exact rfl
 ·exact rfl
 ·rintro ⟨b, hb⟩
  have hA := crA_bd s t b hb
  show aexR _ _ _ (frOf 0 52 [(0, .optr (.s 2) e0 25 0 0), (1, .int .i64 t), (4, .int .i64 (crA s t b)), (7, .int .i64 (b : Int))]) ⟨hpV o0 o1 o3 e0 s, []⟩ _
  (conv => whnf)
  refine ifB (fun g1 => ?_) (fun g1 => ?_)
  ·simp only [decide_eq_true_eq] at g1
   (repeat' (first | exact rfl | ((conv => whnf); first | exact rfl | exact ⟨rfl, rfl⟩ | refine dk (by kernel_rfl) ?_ | refine pk (by kernel_rfl) ?_ | refine ⟨rfl, ?_⟩ | refine ⟨by (first | omega | (simp (disch := omega) only [wrapI]; first | omega | (simp; omega)) | (simp; omega)), ?_⟩ | (intro ep) | fail)))
   all_goals (conv => whnf)
   refine loopX (okx [] [42, 43]) mixed (A := A43) [0, 1, 4, 5, 7, 10, 11] [0, 1, 2, 3] (S := { a : Nat // a ≤ b })
    (fr := fun x => frOf 0 52 [(0, .optr (.s 2) e0 25 0 0), (1, .int .i64 t), (4, .int .i64 (crA s t b + crB s t b x.1)), (5, .int .i64 (b : Int)), (7, .int .i64 (b : Int)), (10, .int .i64 (b : Int)), (11, .int .i64 (x.1 : Int))])
    (h := fun x => ⟨hpV o0 o1 o3 e0 s, []⟩) (μ := fun x => b - x.1) ⟨0, by omega⟩ ?_ ?_
    [0, 1, 4, 7] [0, 1, 2, 3] (S' := Unit) (X := fun _ => 2) (frX := fun x => frOf 0 52 [(0, .optr (.s 2) e0 25 0 0), (1, .int .i64 t), (4, .int .i64 (crA s t b + crB s t b b)), (7, .int .i64 (b : Int))])
    (hX := fun x => ⟨hpV o0 o1 o3 e0 s, []⟩) (R := fun _ _ => False) ?_ (fun _ _ h => h.elim) ?_
   ·show maskF 0 _ _ = frOf 0 52 [(0, .optr (.s 2) e0 25 0 0), (1, .int .i64 t), (4, .int .i64 (crA s t b + 0)), (5, .int .i64 (b : Int)), (7, .int .i64 (b : Int)), (10, .int .i64 (b : Int)), (11, .int .i64 0)]
    rw [Int.add_zero]
    exact rfl
   ·exact rfl
   ·rintro ⟨a, ha⟩
    have hB := crB_bd s t b a
    have hI := ind_bd t (s.get a) (s.get b)
    have hS : crB s t b (a + 1) = crB s t b a + ind t (s.get a) (s.get b) := rfl
    show aexR _ _ _ (frOf 0 52 [(0, .optr (.s 2) e0 25 0 0), (1, .int .i64 t), (4, .int .i64 (crA s t b + crB s t b a)), (5, .int .i64 (b : Int)), (7, .int .i64 (b : Int)), (10, .int .i64 (b : Int)), (11, .int .i64 (a : Int))]) ⟨hpV o0 o1 o3 e0 s, []⟩ _
    generalize hQ : crA s t b + crB s t b a = q at hA hB
    have hq : 0 ≤ q ∧ q ≤ 30 := by omega
    have hT : ∀ z : Int, z = q + ind t (s.get a) (s.get b) → z = crA s t b + crB s t b (a + 1) := fun z hz => by rw [hz, hS]; omega
    clear hB
    clear hA
    clear hI
    clear hS
    by_cases g2 : a < b
    ·have k1 := row_t s (show a < 5 by omega)
     have k2 := row_t s (show b < 5 by omega)
     have k3 := row_p s (show a < 5 by omega)
     have k4 := row_p s (show b < 5 by omega)
     unfold ind at hT
     by_cases c1 : t < (s.get a).t ∧ t < (s.get b).t ∧ (s.get a).p < (s.get b).p
     ·rw [if_pos c1] at hT
      (repeat' (first | exact rfl | ((conv => whnf); first | refine optA k1 ?_ | refine optA k2 ?_ | refine optA k3 ?_ | refine optA k4 ?_ | exact rfl | exact ⟨rfl, rfl⟩ | refine dk (by kernel_rfl) ?_ | refine pk (by kernel_rfl) ?_ | refine ⟨rfl, ?_⟩ | refine ⟨by (first | omega | (simp (disch := omega) only [wrapI]; first | omega | (simp; omega)) | (simp; omega)), ?_⟩ | (intro ep) | (refine ifB (fun hb => ?_) (fun hb => ?_) <;> (try simp only [qs] at hb) <;> (try simp (disch := omega) only [wrapI] at hb) <;> (try (exfalso; omega))) | fail)))
      all_goals (conv => whnf)
      refine back_of ⟨a + 1, by omega⟩ ⟨?_, rfl, by simp only; omega⟩
      rw [← hT (q + 1) rfl]
      (first | exact rfl | (simp (disch := omega) only [wrapI]; exact rfl))
     ·rw [if_neg c1] at hT
      (repeat' (first | exact rfl | ((conv => whnf); first | refine optA k1 ?_ | refine optA k2 ?_ | refine optA k3 ?_ | refine optA k4 ?_ | exact rfl | exact ⟨rfl, rfl⟩ | refine dk (by kernel_rfl) ?_ | refine pk (by kernel_rfl) ?_ | refine ⟨rfl, ?_⟩ | refine ⟨by (first | omega | (simp (disch := omega) only [wrapI]; first | omega | (simp; omega)) | (simp; omega)), ?_⟩ | (intro ep) | (refine ifB (fun hb => ?_) (fun hb => ?_) <;> (try simp only [qs] at hb) <;> (try simp (disch := omega) only [wrapI] at hb) <;> (try (exfalso; omega))) | fail)))
      all_goals (conv => whnf)
      all_goals refine back_of ⟨a + 1, by omega⟩ ⟨?_, rfl, by simp only; omega⟩
      all_goals rw [← hT q (by omega)]
      all_goals (first | exact rfl | (simp (disch := omega) only [wrapI]; exact rfl))
    ·have e : a = b := by omega
     subst e
     clear hT
     (conv => whnf)
     refine ifB (fun g3 => ?_) (fun g3 => ?_)
     ·simp only [decide_eq_true_eq] at g3; omega
     (repeat' (first | exact rfl | ((conv => whnf); first | exact rfl | exact ⟨rfl, rfl⟩ | refine dk (by kernel_rfl) ?_ | refine pk (by kernel_rfl) ?_ | refine ⟨rfl, ?_⟩ | refine ⟨by (first | omega | (simp (disch := omega) only [wrapI]; first | omega | (simp; omega)) | (simp; omega)), ?_⟩ | (intro ep) | fail)))
     all_goals (conv => whnf)
     refine back_of () ⟨rfl, ?_, rfl⟩
     rw [hQ]
     exact rfl
   ·rintro ⟨⟩
    (repeat' (first | exact rfl | ((conv => whnf); first | exact rfl | exact ⟨rfl, rfl⟩ | refine dk (by kernel_rfl) ?_ | refine pk (by kernel_rfl) ?_ | refine ⟨rfl, ?_⟩ | refine ⟨by (first | omega | (simp (disch := omega) only [wrapI]; first | omega | (simp; omega)) | (simp; omega)), ?_⟩ | (intro ep) | fail)))
    all_goals (conv => whnf)
    exact back_of ⟨b + 1, by omega⟩ ⟨by (first | exact rfl | (simp (disch := omega) only [wrapI]; exact rfl)), rfl, by simp only; omega⟩
  ·simp only [decide_eq_false_iff_not] at g1
   have e : b = 5 := by omega
   subst e
   (repeat' (first | exact rfl | ((conv => whnf); first | exact rfl | exact ⟨rfl, rfl⟩ | refine dk (by kernel_rfl) ?_ | refine pk (by kernel_rfl) ?_ | refine ⟨rfl, ?_⟩ | refine ⟨by (first | omega | (simp (disch := omega) only [wrapI]; first | omega | (simp; omega)) | (simp; omega)), ?_⟩ | (intro ep) | fail)))
   all_goals (conv => whnf)
   exact back_of () ⟨rfl, rfl, rfl⟩
 ·rintro ⟨⟩
  (repeat' (first | exact rfl | ((conv => whnf); first | exact rfl | exact ⟨rfl, rfl⟩ | refine dk (by kernel_rfl) ?_ | refine pk (by kernel_rfl) ?_ | refine ⟨rfl, ?_⟩ | refine ⟨by (first | omega | (simp (disch := omega) only [wrapI]; first | omega | (simp; omega)) | (simp; omega)), ?_⟩ | (intro ep) | fail)))
end Go.Ab.V

namespace Go.Ab.V
open Go.Proofs
def evt (x : Lm) : St → Int → Nat → Nat → List Nt → List Int → Sum Nat (St × Int)
 | s, m, _, 0, _, _ => .inr (s, m)
 | s, m, i, c + 1, n :: r, k :: q => match join x s n k with
  | none => .inl i
  | some d => evt x d.2 (m + d.1) (i + 1) c r q
 | _, _, i, _ + 1, _, _ => .inl i
def frN (l : List Nt) (a : Nat) : Int := ((l[a]?).map (·.f)).getD 0
def vals (x : Lm) (l : List Nt) (ks : List Int) : St → Int → Int → List (Nat × Nat) → Int × Int × Int × Int
 | _, c, m, [] => (0, 0, c, m)
 | s, c, m, (a, n) :: r => match evt x s m a n (l.drop a) (ks.drop a) with
  | .inl j => ((j : Int), 71, 0, 0)
  | .inr d => if x.cross < crs d.1 (frN l a) then ((a : Int) + n - 1, 71, 0, 0) else vals x l ks d.1 (c + crs d.1 (frN l a)) d.2 r
def valid (x : Lm) (l : List Nt) (ks : List Int) : Int × Int × Int × Int :=
 if both x l ≠ 0 then (0, both x l, 0, 0) else if ks.length ≠ l.length then (0, 1, 0, 0) else vals x l ks st0 0 0 (segR 0 l)
def valV (ks : List Int) (r : Int × Int × Int × Int) : AV := .tup [.agg [if r.2.1 = 0 then intsA ks else .nils, .int .i64 r.2.2.1, .int .i64 r.2.2.2], .int .i64 r.1, .int .i64 r.2.1]
theorem dst_bd {p q : Int} (h : 0 ≤ p ∧ p ≤ 127) (h2 : 0 ≤ q ∧ q ≤ 127) : 0 ≤ dst p q ∧ dst p q ≤ 127 := by unfold dst; split <;> omega
theorem join_ok {x : Lm} {s : St} {n : Nt} {v : Int} {d : Int × St} (h : join x s n v = some d) (h5 : x.lo.length ≤ 5) (hs : s.ok) (hn : ntFit n) : d.2.ok ∧ 0 ≤ d.1 ∧ d.1 ≤ 127 := by
 unfold join at h
 split at h
 ·cases h
 rename_i c1
 split at h
 ·cases h
 split at h
 ·cases h
 have hb := hs (v - 1).toNat
 have hk : (v - 1).toNat < 5 := by omega
 have hn2 := hn
 unfold ntFit at hb hn2
 have hd := dst_bd (p := n.p) (q := (s.get (v - 1).toNat).p) ⟨hn2.1, hn2.2.1⟩ ⟨hb.1, hb.2.1⟩
 split at h
 ·split at h
  ·cases h
  ·cases h
   exact ⟨St.set_ok hs hk hn, hd⟩
 ·cases h
  exact ⟨St.set_ok hs hk hn, by simp, by simp⟩
structure NtsOk (l : List Nt) : Prop where
 len : l.length ≤ 5600
 fit : ∀ n ∈ l, ¬ ntBad n
theorem chkNs_fit : ∀ (l : List Nt) (b : Option Nt), chkNs b l = 0 → ∀ n ∈ l, ¬ ntBad n
 | [], b, _, n, h => by simp at h
 | m :: r, none, h, n, hn => by
  unfold chkNs at h
  split at h
  ·simp at h
  ·rename_i c
   rcases List.mem_cons.1 hn with rfl | h2
   ·exact c
   ·exact chkNs_fit r (some m) h n h2
 | m :: r, some b, h, n, hn => by
  unfold chkNs at h
  split at h
  ·simp at h
  ·rename_i c
   split at h
   ·simp at h
   ·rcases List.mem_cons.1 hn with rfl | h2
    ·exact c
    ·exact chkNs_fit r (some m) h n h2
theorem ntsOk_of {l : List Nt} (h : chkN l = 0) : NtsOk l := by
 unfold chkN at h
 split at h
 ·simp at h
 ·exact ⟨by omega, chkNs_fit l none h⟩
theorem fit_of {n : Nt} (h : ¬ ntBad n) : ntFit n := by unfold ntBad at h; unfold ntFit; omega
structure LmOk (x : Lm) : Prop where
 lo1 : 1 ≤ x.lo.length
 lo5 : x.lo.length ≤ 5
 hi : x.hi.length = x.lo.length
 leap : 0 ≤ x.leap ∧ x.leap ≤ 127
 gap : 0 ≤ x.gap ∧ x.gap ≤ 262144
 cross : 0 ≤ x.cross ∧ x.cross ≤ 10
 prs : prs x.lo x.hi = 0
theorem lmOk_of {x : Lm} (h : chkL x = 0) : LmOk x := by
 unfold chkL at h
 split at h
 ·simp at h
 split at h
 ·simp at h
 split at h
 ·simp at h
 split at h
 ·simp at h
 split at h
 ·simp at h
 exact ⟨by omega, by omega, by omega, by omega, by omega, by omega, h⟩
theorem chain_le : ∀ {L o : Nat} {r : List (Nat × Nat)}, Chain L o r → o ≤ L
 | L, o, [], h => Nat.le_of_eq h
 | L, o, (a, n) :: r, h => by have := chain_le h.2.2; omega
theorem evt_cons {x : Lm} {s : St} {m : Int} {i c : Nat} {l : List Nt} {ks : List Int} (h1 : i < l.length) (h2 : i < ks.length) : evt x s m i (c + 1) (l.drop i) (ks.drop i) = match join x s l[i] ks[i] with
  | none => .inl i
  | some d => evt x d.2 (m + d.1) (i + 1) c (l.drop (i + 1)) (ks.drop (i + 1)) := by
 rw [List.drop_eq_getElem_cons h1, List.drop_eq_getElem_cons h2, evt]
theorem frN_at {l : List Nt} {a : Nat} (h : a < l.length) : frN l a = l[a].f := by unfold frN; simp [h]
end Go.Ab.V

namespace Go.Ab.V
open Go.Proofs
def A44 : Ann := fun r => match r with
 | 3 => { slots := [(0, 0), (2, 1)] }
 | _ => {}
set_option maxHeartbeats 1000000 in
set_option maxRecDepth 100000 in
theorem clone55_spec (l : List Int) (hl : l.length ≤ 100000) : PRet C.P 44 [intsA l] (intsA l) := by
 have t1 : List.take l.length (List.drop 0 (ints l)) = ints l := by rw [List.drop_zero, List.take_of_length_le (by simp [ints])]
 have hp : pureRows (ints l) := pure_ints l
 refine psub_of ok mixed (A := A44) 2 Try.func44 rfl rfl ?_
 (repeat' (first | exact rfl | ((conv => whnf); first | exact rfl | refine ⟨by kernel_rfl, ?_⟩ | exact ⟨rfl, rfl⟩ | refine ⟨rfl, ?_⟩ | refine ⟨by (first | omega | (simp (disch := omega) only [wrapI]; first | omega | (simp; omega)) | (simp; omega)), ?_⟩ | (intro ep) | refine ⟨fun hn0 => ?_, ?_⟩ | fail)))
 ·unfold intsA; rw [hn0]; exact Sub.nils
 ·rename_i ea eb h1 c
  rw [t1] at h1
  exact hp hn0 (by simpa using h1) c ep
 ·rw [t1]
  have e : (0 + (ints l).length) = l.length := by simp [ints]
  rw [e]
  exact Sub.refl _
def A17 : Ann := fun r => match r with
 | 0 => { slots := [(0, 0), (1, 1)] }
 | 6 => { slots := [(0, 2)] }
 | 13 => { slots := [(2, 3)] }
 | _ => {}
abbrev lz (n : List Nt) : AV := .lslc 1 ((segR 0 n).map (segA n)) 0 (segR 0 n).length false
set_option maxHeartbeats 16000000 in
set_option maxRecDepth 100000 in
theorem valid26 (x : Lm) (n : List Nt) (ks : List Int) (hl : x.lo.length ≤ 9223372036854775807) (hh : x.hi.length ≤ 9223372036854775807) (h3 : n.length ≤ 9223372036854775807) (h4 : ks.length ≤ 9223372036854775807) :
  PRet C.P 17 [lmA x, ntsA n, intsA ks] (valV ks (valid x n ks)) := by
 have hB := check51_spec x n hl hh h3
 unfold valid
 by_cases c1 : both x n ≠ 0
 ·rw [if_pos c1]
  unfold valV
  simp only
  rw [if_neg c1]
  generalize both x n = b at hB c1
  refine pret_of (okx [] [42, 43]) mixed (A := A17) 4 Try.func17 rfl ?_
  (repeat' (first | exact rfl | ((conv => whnf); first | refine ⟨_, hB, ?_⟩ | exact rfl | refine ⟨by kernel_rfl, ?_⟩ | exact ⟨rfl, rfl⟩ | refine ⟨rfl, ?_⟩ | refine ⟨by (first | omega | (simp (disch := omega) only [wrapI]; first | omega | (simp; omega)) | (simp; omega)), ?_⟩ | (intro ep) | (refine ifB (fun hb => ?_) (fun hb => ?_) <;> (try simp only [qs] at hb) <;> (try simp (disch := omega) only [wrapI] at hb) <;> (try (exfalso; omega))) | fail)))
 rw [if_neg c1]
 have c1 : both x n = 0 := by omega
 rw [c1] at hB
 by_cases c2 : ks.length ≠ n.length
 ·rw [if_pos c2]
  unfold valV
  simp only
  rw [if_neg (by decide)]
  refine pret_of (okx [] [42, 43]) mixed (A := A17) 4 Try.func17 rfl ?_
  (repeat' (first | exact rfl | ((conv => whnf); first | refine ⟨_, hB, ?_⟩ | exact rfl | refine ⟨by kernel_rfl, ?_⟩ | exact ⟨rfl, rfl⟩ | refine ⟨rfl, ?_⟩ | refine ⟨by (first | omega | (simp (disch := omega) only [wrapI]; first | omega | (simp; omega)) | (simp; omega)), ?_⟩ | (intro ep) | (refine ifB (fun hb => ?_) (fun hb => ?_) <;> (try simp only [qs] at hb) <;> (try simp (disch := omega) only [wrapI] at hb) <;> (try (exfalso; omega))) | fail)))
 rw [if_neg c2]
 have c2 : ks.length = n.length := by omega
 have hX : chkL x = 0 := by
  unfold both at c1; split at c1
  ·rename_i h; exact absurd c1 h
  ·rename_i h; simpa using h
 have hN : chkN n = 0 := by unfold both at c1; rw [hX] at c1; simpa using c1
 have X := lmOk_of hX
 have NN := ntsOk_of hN
 have hev := events_spec n NN.len
 have hcl := clone55_spec ks (by have := NN.len; omega)
 have hch : Chain n.length 0 (segR 0 n) := by have := chain_segR n.length 0 n (Nat.le_refl _); rwa [Nat.zero_add] at this
 have hlen := NN.len
 obtain ⟨R, hR⟩ : ∃ R, R = vals x n ks st0 0 0 (segR 0 n) := ⟨_, rfl⟩
 rw [← hR]
 refine pret_of (okx [] [42, 43]) mixed (A := A17) 4 Try.func17 rfl ?_
 (conv => whnf)
 intro e0
 (conv => whnf)
 intro e1
 (repeat' (first | exact rfl | ((conv => whnf); first | refine ⟨_, hB, ?_⟩ | refine ⟨_, hev, ?_⟩ | (intro e2) | exact rfl | refine ⟨by kernel_rfl, ?_⟩ | exact ⟨rfl, rfl⟩ | refine ⟨rfl, ?_⟩ | refine ⟨by (first | omega | (simp (disch := omega) only [wrapI]; first | omega | (simp; omega)) | (simp; omega)), ?_⟩ | (intro ep) | (refine ifB (fun hb => ?_) (fun hb => ?_) <;> (try simp only [qs] at hb) <;> (try simp (disch := omega) only [wrapI] at hb) <;> (try (exfalso; omega))) | fail)))
 all_goals (conv => whnf)
 generalize hS : segR 0 n = S at hR hch
 have hSl : (segR 0 n).length = S.length := by rw [hS]
 refine loopY (okx [] [42, 43]) mixed (A := A17) [2, 3, 6, 10, 11, 33, 34, 35] [0, 1, 2] (S := { z : Nat × Nat × St × Int × Int // z.1 ≤ S.length ∧ Chain n.length z.2.1 (S.drop z.1) ∧ z.2.2.1.ok ∧ (0 ≤ z.2.2.2.1 ∧ z.2.2.2.1 ≤ 25 * z.1) ∧ (0 ≤ z.2.2.2.2 ∧ z.2.2.2.2 ≤ 127 * z.2.1) ∧ z.1 ≤ z.2.1 ∧ vals x n ks z.2.2.1 z.2.2.2.1 z.2.2.2.2 (S.drop z.1) = R })
  (fr := fun z => frOf 0 89 [(2, intsA ks), (3, .optr (.s 0) e0 5 0 0), (6, .optr (.s 1) e1 3 0 0), (10, .optr (.s 2) e2 25 0 0), (11, .int .i64 (z.1.2.1 : Int)), (33, .lslc 1 (S.map (segA n)) 0 S.length false), (34, .int .i64 (S.length : Int)), (35, .int .i64 (z.1.1 : Int))])
  (h := fun z => ⟨[.vec e0 [lmR x], .vec e1 [[.nils, .int .i64 z.1.2.2.2.1, .int .i64 z.1.2.2.2.2]], .vec e2 [z.1.2.2.1.row], .hole], []⟩) (μ := fun z => S.length - z.1.1)
  ⟨(0, 0, st0, 0, 0), Nat.zero_le _, by simpa using hch, St.ok0, by simp, by simp, Nat.le_refl _, by simp [hR]⟩ ?_ ?_
  [2, 6] [1] (S' := { z : Int × Int // (0, 0, z.1, z.2) = R }) (X := fun _ => 0) (frX := fun z => frOf 0 89 [(2, intsA ks), (6, .optr (.s 1) e1 3 0 0)]) (hX := fun z => ⟨[.hole, .vec e1 [[.nils, .int .i64 z.1.1, .int .i64 z.1.2]], .hole, .hole], []⟩)
  [6, 7, 8] [1] (S2 := { j : Int // (j, 71, 0, 0) = R }) (frR := fun j => frOf 0 89 [(6, .optr (.s 1) e1 3 0 0), (7, .int .i64 j.1), (8, .int .i64 71)]) (hR := fun j => ⟨[.hole, .vec e1 [[.nils, .int .i64 0, .int .i64 0]], .hole, .hole], []⟩) ?_ ?_ ?_
 ·show maskF 0 _ _ = frOf 0 89 [(2, intsA ks), (3, .optr (.s 0) e0 5 0 0), (6, .optr (.s 1) e1 3 0 0), (10, .optr (.s 2) e2 25 0 0), (11, .int .i64 ((0 : Nat) : Int)), (33, .lslc 1 (S.map (segA n)) 0 S.length false), (34, .int .i64 (S.length : Int)), (35, .int .i64 ((0 : Nat) : Int))]
  subst hS
  exact rfl
 ·exact rfl
 ·rintro ⟨⟨j, o, s, c, m⟩, hj, hch, hs, hc, hm, hjo, hu⟩
  simp only at hj hch hs hc hm hjo hu
  show aexR _ _ _ (frOf 0 89 [(2, intsA ks), (3, .optr (.s 0) e0 5 0 0), (6, .optr (.s 1) e1 3 0 0), (10, .optr (.s 2) e2 25 0 0), (11, .int .i64 (o : Int)), (33, .lslc 1 (S.map (segA n)) 0 S.length false), (34, .int .i64 (S.length : Int)), (35, .int .i64 (j : Int))])
   ⟨[.vec e0 [lmR x], .vec e1 [[.nils, .int .i64 c, .int .i64 m]], .vec e2 [s.row], .hole], []⟩ _
  (conv => whnf)
  refine ifB (fun g1 => ?_) (fun g1 => ?_)
  ·simp only [decide_eq_true_eq] at g1
   have h1 : j < S.length := by omega
   have hm1 := mapR (f := segA n) h1
   rw [List.drop_eq_getElem_cons h1] at hu hch
   generalize S[j] = q at hm1 hu hch
   obtain ⟨a, cnt⟩ := q
   obtain ⟨rfl, hcnt, hch⟩ := hch
   have hle := chain_le hch
   have ha : a < n.length := by omega
   rw [vals, frN_at ha] at hu
   obtain ⟨E, hE⟩ : ∃ E, E = evt x s m a cnt (n.drop a) (ks.drop a) := ⟨_, rfl⟩
   rw [← hE] at hu
   replace hm1 : (S.map (segA n))[0 + (j : Int).toNat]? = some [ntS n a cnt] := hm1
   (repeat' (first | exact rfl | ((conv => whnf); first | refine optS hm1 ?_ | exact rfl | exact ⟨rfl, rfl⟩ | refine dk (by kernel_rfl) ?_ | refine pk (by kernel_rfl) ?_ | refine ⟨rfl, ?_⟩ | refine ⟨by (first | omega | (simp (disch := omega) only [wrapI]; first | omega | (simp; omega)) | (simp; omega)), ?_⟩ | (intro ep) | fail)))
   all_goals (conv => whnf)
   refine loopY (okx [] [42, 43]) mixed (A := A17) [2, 3, 6, 10, 11, 13, 33, 34, 35, 39, 40, 41] [0, 1, 2] (S := { z : Nat × St × Int // z.1 ≤ cnt ∧ z.2.1.ok ∧ (0 ≤ z.2.2 ∧ z.2.2 ≤ 127 * (a + z.1)) ∧ evt x z.2.1 z.2.2 (a + z.1) (cnt - z.1) (n.drop (a + z.1)) (ks.drop (a + z.1)) = E })
    (fr := fun z => frOf 0 89 [(2, intsA ks), (3, .optr (.s 0) e0 5 0 0), (6, .optr (.s 1) e1 3 0 0), (10, .optr (.s 2) e2 25 0 0), (11, .int .i64 ((a + z.1.1 : Nat) : Int)), (13, ntS n a cnt), (33, .lslc 1 (S.map (segA n)) 0 S.length false), (34, .int .i64 (S.length : Int)), (35, .int .i64 (j : Int)), (39, ntS n a cnt), (40, .int .i64 (cnt : Int)), (41, .int .i64 (z.1.1 : Int))])
    (h := fun z => ⟨[.vec e0 [lmR x], .vec e1 [[.nils, .int .i64 c, .int .i64 z.1.2.2]], .vec e2 [z.1.2.1.row], .hole], []⟩) (μ := fun z => cnt - z.1.1)
    ⟨(0, s, m), Nat.zero_le _, hs, by simp only; omega, by simp [hE]⟩ ?_ ?_
    [2, 3, 6, 10, 11, 13, 33, 34, 35] [0, 1, 2] (S' := { z : St × Int // z.1.ok ∧ (0 ≤ z.2 ∧ z.2 ≤ 127 * (a + cnt)) ∧ Sum.inr z = E }) (X := fun _ => 2)
    (frX := fun z => frOf 0 89 [(2, intsA ks), (3, .optr (.s 0) e0 5 0 0), (6, .optr (.s 1) e1 3 0 0), (10, .optr (.s 2) e2 25 0 0), (11, .int .i64 ((a + cnt : Nat) : Int)), (13, ntS n a cnt), (33, .lslc 1 (S.map (segA n)) 0 S.length false), (34, .int .i64 (S.length : Int)), (35, .int .i64 (j : Int))])
    (hX := fun z => ⟨[.vec e0 [lmR x], .vec e1 [[.nils, .int .i64 c, .int .i64 z.1.2]], .vec e2 [z.1.1.row], .hole], []⟩)
    [6, 7, 8] [1] (S2 := { j : Nat // Sum.inl j = E }) (frR := fun j => frOf 0 89 [(6, .optr (.s 1) e1 3 0 0), (7, .int .i64 (j.1 : Int)), (8, .int .i64 71)]) (hR := fun j => ⟨[.hole, .vec e1 [[.nils, .int .i64 0, .int .i64 0]], .hole, .hole], []⟩) ?_ ?_ ?_
   ·exact rfl
   ·exact rfl
   ·rintro ⟨⟨i, s', m'⟩, hi, hs', hm', hv⟩
    simp only at hi hs' hm' hv
    show aexR _ _ _ (frOf 0 89 [(2, intsA ks), (3, .optr (.s 0) e0 5 0 0), (6, .optr (.s 1) e1 3 0 0), (10, .optr (.s 2) e2 25 0 0), (11, .int .i64 ((a + i : Nat) : Int)), (13, ntS n a cnt), (33, .lslc 1 (S.map (segA n)) 0 S.length false), (34, .int .i64 (S.length : Int)), (35, .int .i64 (j : Int)), (39, ntS n a cnt), (40, .int .i64 (cnt : Int)), (41, .int .i64 (i : Int))])
     ⟨[.vec e0 [lmR x], .vec e1 [[.nils, .int .i64 c, .int .i64 m']], .vec e2 [s'.row], .hole], []⟩ _
    (conv => whnf)
    refine ifB (fun g2 => ?_) (fun g2 => ?_)
    ·simp only [decide_eq_true_eq] at g2
     have h2 : a + i < n.length := by omega
     have h3 : a + i < ks.length := by omega
     have hm2 := mapRo (f := ntR) h2
     have hm3 := intsR h3
     have hfit := fit_of (NN.fit _ (List.getElem_mem h2))
     rw [show cnt - i = (cnt - (i + 1)) + 1 by omega, evt_cons h2 h3] at hv
     generalize n[a + i] = nn at hm2 hfit hv
     generalize ks[a + i] = kk at hm3 hv
     have hJ := fun (e0 : Nat) o0 o1 o3 => join53 x s' nn kk X.hi X.lo5 X.gap hs' hfit e0 o0 o1 o3
     have hok := fun d hd => join_ok (x := x) (s := s') (n := nn) (v := kk) (d := d) hd X.lo5 hs' hfit
     cases hjn : join x s' nn kk with
     | none =>
      rw [hjn] at hJ hv
      simp only at hv
      (repeat' (first | exact rfl | ((conv => whnf); first | refine optS hm2 ?_ | refine optS hm3 ?_ | refine callT (hJ _ _ _ _) fun rest => ?_ | exact rfl | exact ⟨rfl, rfl⟩ | refine dk (by kernel_rfl) ?_ | refine pk (by kernel_rfl) ?_ | refine ⟨rfl, ?_⟩ | refine ⟨by (first | omega | (simp (disch := omega) only [wrapI]; first | omega | (simp; omega)) | (simp; omega)), ?_⟩ | (intro ep) | fail)))
      all_goals (conv => whnf)
      exact back_of ⟨a + i, hv⟩ ⟨by (first | exact rfl | (simp (disch := omega) only [wrapI]; exact rfl)), rfl⟩
     | some d =>
      rw [hjn] at hJ hv
      obtain ⟨d, s2⟩ := d
      obtain ⟨ho1, ho2, ho3⟩ := hok _ hjn
      simp only at hv ho1 ho2 ho3
      (repeat' (first | exact rfl | ((conv => whnf); first | refine optS hm2 ?_ | refine optS hm3 ?_ | refine callT (hJ _ _ _ _) fun rest => ?_ | exact rfl | exact ⟨rfl, rfl⟩ | refine dk (by kernel_rfl) ?_ | refine pk (by kernel_rfl) ?_ | refine ⟨rfl, ?_⟩ | refine ⟨by (first | omega | (simp (disch := omega) only [wrapI]; first | omega | (simp; omega)) | (simp; omega)), ?_⟩ | (intro ep) | fail)))
      all_goals (conv => whnf)
      refine back_of ⟨(i + 1, s2, m' + d), by simp only; omega, ho1, by simp only; omega, by simp only; rw [show a + (i + 1) = a + i + 1 by omega]; exact hv⟩ ⟨?_, ?_, by simp only; omega⟩
      ·(first | exact rfl | (simp (disch := omega) only [wrapI]; exact rfl))
      ·(first | exact rfl | (simp (disch := omega) only [wrapI]; exact rfl))
    ·simp only [decide_eq_false_iff_not] at g2
     have hi2 : i = cnt := by omega
     subst hi2
     rw [Nat.sub_self, evt] at hv
     (repeat' (first | exact rfl | ((conv => whnf); first | exact rfl | exact ⟨rfl, rfl⟩ | refine dk (by kernel_rfl) ?_ | refine pk (by kernel_rfl) ?_ | refine ⟨rfl, ?_⟩ | refine ⟨by (first | omega | (simp (disch := omega) only [wrapI]; first | omega | (simp; omega)) | (simp; omega)), ?_⟩ | (intro ep) | fail)))
     all_goals (conv => whnf)
     exact back_of ⟨(s', m'), hs', by simp only; omega, hv⟩ ⟨rfl, rfl, rfl⟩
   ·rintro ⟨z, hz⟩
    rw [← hz] at hu
    simp only at hu
    exact back_of ⟨(z : Int), hu⟩ ⟨rfl, rfl⟩
   ·rintro ⟨⟨s2, m2⟩, hs2, hm2, hz⟩
    simp only at hs2 hm2
    rw [← hz] at hu
    simp only at hu
    have hm0 := mapRo (f := ntR) (l := n) (o := a) (i := 0) ha
    have hn0 : n[a + 0] = n[a] := rfl
    rw [hn0] at hm0
    generalize n[a] = nn at hm0 hu
    obtain ⟨ne, nc, np, nf, nt⟩ := nn
    replace hm0 : (n.map ntR)[a + ((0 : Nat) : Int).toNat]? = some [.int .i64 ne, .int .i64 nc, .int .i64 np, .int .i64 nf, .int .i64 nt] := hm0
    simp only at hu
    have hC := fun (e0 : Nat) o0 o1 o3 => cross54 s2 nf e0 o0 o1 o3
    have hcb := crs_bd s2 nf
    generalize crs s2 nf = z at hu hC hcb
    by_cases c6 : x.cross < z
    ·rw [if_pos c6] at hu
     (repeat' (first | exact rfl | ((conv => whnf); first | refine optS hm0 ?_ | refine callT (hC _ _ _ _) fun rest => ?_ | exact rfl | exact ⟨rfl, rfl⟩ | refine dk (by kernel_rfl) ?_ | refine pk (by kernel_rfl) ?_ | refine ⟨rfl, ?_⟩ | refine ⟨by (first | omega | (simp (disch := omega) only [wrapI]; first | omega | (simp; omega)) | (simp; omega)), ?_⟩ | (intro ep) | (refine ifB (fun hb => ?_) (fun hb => ?_) <;> (try simp only [qs] at hb) <;> (try simp (disch := omega) only [wrapI] at hb) <;> (try (exfalso; omega))) | fail)))
     all_goals (conv => whnf)
     refine back_of ⟨(a : Int) + cnt - 1, hu⟩ ⟨?_, rfl⟩
     have e : IntKind.i64.wrap (((a + cnt : Nat) : Int) - 1) = (a : Int) + cnt - 1 := by rw [wrapI (by omega) (by omega)]; omega
     show maskF 0 _ _ = frOf 0 89 [(6, .optr (.s 1) e1 3 0 0), (7, .int .i64 ((a : Int) + cnt - 1)), (8, .int .i64 71)]
     rw [← e]
     exact rfl
    ·rw [if_neg c6] at hu
     (repeat' (first | exact rfl | ((conv => whnf); first | refine optS hm0 ?_ | refine callT (hC _ _ _ _) fun rest => ?_ | exact rfl | exact ⟨rfl, rfl⟩ | refine dk (by kernel_rfl) ?_ | refine pk (by kernel_rfl) ?_ | refine ⟨rfl, ?_⟩ | refine ⟨by (first | omega | (simp (disch := omega) only [wrapI]; first | omega | (simp; omega)) | (simp; omega)), ?_⟩ | (intro ep) | (refine ifB (fun hb => ?_) (fun hb => ?_) <;> (try simp only [qs] at hb) <;> (try simp (disch := omega) only [wrapI] at hb) <;> (try (exfalso; omega))) | fail)))
     all_goals (conv => whnf)
     refine back_of ⟨(j + 1, a + cnt, s2, c + z, m2), by simp only; omega, hch, hs2, by simp only; omega, by simp only; omega, by simp only; omega, hu⟩ ⟨?_, ?_, by simp only; omega⟩
     ·(first | exact rfl | (simp (disch := omega) only [wrapI]; exact rfl))
     ·(first | exact rfl | (simp (disch := omega) only [wrapI]; exact rfl))
  ·simp only [decide_eq_false_iff_not] at g1
   rw [List.drop_eq_nil_of_le (by omega), vals] at hu
   (repeat' (first | exact rfl | ((conv => whnf); first | exact rfl | exact ⟨rfl, rfl⟩ | refine dk (by kernel_rfl) ?_ | refine pk (by kernel_rfl) ?_ | refine ⟨rfl, ?_⟩ | refine ⟨by (first | omega | (simp (disch := omega) only [wrapI]; first | omega | (simp; omega)) | (simp; omega)), ?_⟩ | (intro ep) | fail)))
   all_goals (conv => whnf)
   exact back_of ⟨(c, m), hu⟩ ⟨rfl, rfl, rfl⟩
 ·rintro ⟨z, hz⟩
  (repeat' (first | ((conv => whnf); first | exact rfl | exact ⟨rfl, rfl⟩ | refine dk (by kernel_rfl) ?_ | refine pk (by kernel_rfl) ?_ | refine ⟨rfl, ?_⟩ | refine ⟨by (first | omega | (simp (disch := omega) only [wrapI]; first | omega | (simp; omega)) | (simp; omega)), ?_⟩ | (intro ep) | fail)))
  all_goals (subst hz; exact rfl)
 ·rintro ⟨⟨c, m⟩, hz⟩
  (repeat' (first | ((conv => whnf); first | refine ⟨_, hcl, ?_⟩ | exact rfl | exact ⟨rfl, rfl⟩ | refine dk (by kernel_rfl) ?_ | refine pk (by kernel_rfl) ?_ | refine ⟨rfl, ?_⟩ | refine ⟨by (first | omega | (simp (disch := omega) only [wrapI]; first | omega | (simp; omega)) | (simp; omega)), ?_⟩ | (intro ep) | fail)))
  all_goals (subst hz; exact rfl)
end Go.Ab.V

namespace Go.Ab.V
open Go.Proofs
theorem chkNs_adj : ∀ (l : List Nt) (b : Nt), chkNs (some b) l = 0 → ∀ (i : Nat) (h : i < l.length), ¬ ntOff ((b :: l)[i]'(by simp; omega)) l[i]
 | [], b, _, i, h => by simp at h
 | m :: r, b, h, i, hi => by
  unfold chkNs at h
  split at h
  ·simp at h
  ·split at h
   ·simp at h
   ·rename_i c
    cases i with
    | zero => exact c
    | succ i => exact chkNs_adj r m h i (by simpa using hi)
theorem nts_adj {l : List Nt} (h : chkN l = 0) {i : Nat} (hi : i + 1 < l.length) : ¬ ntOff l[i] l[i + 1] := by
 unfold chkN at h
 split at h
 ·simp at h
 cases l with
 | nil => simp at hi
 | cons m r =>
  unfold chkNs at h
  split at h
  ·simp at h
  ·exact chkNs_adj r m h i (by simpa using hi)
theorem nts_mono {l : List Nt} (h : chkN l = 0) {i : Nat} : ∀ {j : Nat} (hij : i ≤ j) (hj : j < l.length), l[i].e ≤ l[j].e
 | 0, hij, hj => by
           have : i = 0 := by omega
           subst this; exact Int.le_refl _
 | j + 1, hij, hj => by
  by_cases e : i = j + 1
  ·subst e; exact Int.le_refl _
  ·have h1 := nts_mono h (i := i) (j := j) (by omega) (by omega)
   have h2 := nts_adj h (i := j) hj
   unfold ntOff at h2
   omega
structure SegOk (l : List Nt) (a n : Nat) : Prop where
 pos : 0 < n
 le : a + n ≤ l.length
 same : ∀ (i : Nat) (h : i < n), (l[a + i]'(by omega)).e = (l[a]'(by omega)).e
 before : ∀ (h : 0 < a), (l[a - 1]'(by omega)).e ≠ (l[a]'(by omega)).e
theorem segR_ok (l : List Nt) : ∀ (k o : Nat), l.length - o ≤ k → (∀ (h : 0 < o) (h2 : o < l.length), l[o - 1].e ≠ l[o].e) → ∀ x ∈ segR o (l.drop o), SegOk l x.1 x.2
 | k, o, hk, hb, x, hx => by
  by_cases ho : o < l.length
  ·rw [segR_at l ho] at hx
   have hp := run1_pos l ho
   have hle := run1_le l[o].e (l.drop o)
   rw [List.length_drop] at hle
   obtain ⟨q, hq⟩ : ∃ q, run1 l[o].e (l.drop o) = q := ⟨_, rfl⟩
   rw [hq] at hx hp hle
   have hat : ∀ (i : Nat) (h : i < q), (l[o + i]'(by omega)).e = l[o].e := fun i h => by
    obtain ⟨h1, h2⟩ := run1_at (e := l[o].e) (l := l.drop o) (k := i) (by rw [hq]; exact h)
    rw [List.getElem_drop] at h2
    exact h2
   have hend : ∀ (h : o + q < l.length), (l[o + q]'h).e ≠ l[o].e := fun h => by
    have := run1_end (e := l[o].e) (l := l.drop o) (by rw [List.length_drop, hq]; omega)
    rw [List.getElem_drop] at this
    simp only [hq] at this
    exact this
   rcases List.mem_cons.1 hx with rfl | hx
   ·exact ⟨hp, by simp only; omega, hat, fun h => hb h ho⟩
   ·cases k with
    | zero => omega
    | succ k =>
     refine segR_ok l k (o + q) (by omega) (fun h h2 => ?_) x hx
     have h3 := hat (q - 1) (by omega)
     have h4 := hend h2
     have e : o + q - 1 = o + (q - 1) := by omega
     simp only [e]
     rw [h3]
     exact fun x => h4 x.symm
  ·rw [segR_end l ho] at hx
   simp at hx
theorem segOk_lt {l : List Nt} (h : chkN l = 0) {a n : Nat} (s : SegOk l a n) {i : Nat} (hi : i < a) (ha : a < l.length) : (l[i]'(by omega)).e < l[a].e := by
 have h1 := nts_mono h (i := i) (j := a - 1) (by omega) (by omega)
 have h2 := nts_mono h (i := a - 1) (j := a) (by omega) ha
 have h3 := s.before (by omega)
 omega
def look (l : List Nt) (z : Int) : Nt := if z = 0 then nt0 else (l[(z - 1).toNat]?).getD nt0
def lookS (l : List Nt) (s : List Int) : St := ⟨look l (s.getD 0 0), look l (s.getD 1 0), look l (s.getD 2 0), look l (s.getD 3 0), look l (s.getD 4 0)⟩
theorem lookS_get (l : List Nt) (s : List Int) {k : Nat} (hk : k < 5) : (lookS l s).get k = look l (s.getD k 0) := by
 obtain rfl | rfl | rfl | rfl | rfl : k = 0 ∨ k = 1 ∨ k = 2 ∨ k = 3 ∨ k = 4 := by omega
 all_goals rfl
theorem St.ext_get {s t : St} (h : ∀ k, k < 5 → s.get k = t.get k) : s = t := by
 obtain ⟨a, b, c, d, e⟩ := s
 obtain ⟨a', b', c', d', e'⟩ := t
 have h0 := h 0 (by omega)
 have h1 := h 1 (by omega)
 have h2 := h 2 (by omega)
 have h3 := h 3 (by omega)
 have h4 := h 4 (by omega)
 simp only [St.get] at h0 h1 h2 h3 h4
 rw [h0, h1, h2, h3, h4]
theorem lookS_set (l : List Nt) {s : List Int} (hs : s.length = 5) {k : Nat} (hk : k < 5) (z : Int) : lookS l (s.set k z) = (lookS l s).set k (look l z) := by
 refine St.ext_get fun j hj => ?_
 rw [lookS_get l _ hj, St.get_set _ hk]
 split
 ·rename_i e; subst e; rw [List.getD_eq_getElem?_getD, List.getElem?_set_self (by omega)]; rfl
 ·rename_i e
  rw [lookS_get l _ hj, List.getD_eq_getElem?_getD, List.getElem?_set_ne (by omega), List.getD_eq_getElem?_getD]
theorem look_at (l : List Nt) {i : Nat} (h : i < l.length) : look l ((i : Int) + 1) = l[i] := by
 unfold look
 rw [if_neg (by omega), show ((i : Int) + 1 - 1).toNat = i by omega]
 simp [h]
def nxt : List Int → Nat → Nat → List Int → List Int
 | s, _, 0, _ => s
 | s, i, c + 1, v :: q => nxt (s.set (v - 1).toNat ((i : Int) + 1)) (i + 1) c q
 | s, _, _ + 1, [] => s
theorem nxt_cons {s : List Int} {i c : Nat} {ks : List Int} (h : i < ks.length) : nxt s i (c + 1) (ks.drop i) = nxt (s.set (ks[i] - 1).toNat ((i : Int) + 1)) (i + 1) c (ks.drop (i + 1)) := by
 rw [List.drop_eq_getElem_cons h, nxt]
structure NxOk (L : Nat) (s : List Int) (a k : Nat) (nx : List Int) : Prop where
 len : nx.length = 5
 bd : ∀ i, i < 5 → 0 ≤ nx.getD i 0 ∧ nx.getD i 0 ≤ k
 old : ∀ i, i < 5 → nx.getD i 0 ≤ a → nx.getD i 0 = s.getD i 0
 out : ∀ i, i < 5 → L ≤ i → nx.getD i 0 = 0
theorem NxOk.set {L : Nat} {s : List Int} {a k : Nat} {nx : List Int} (h : NxOk L s a k nx) (hak : a ≤ k) {j : Nat} (hj : j < L) (hL : L ≤ 5) : NxOk L s a (k + 1) (nx.set j ((k : Int) + 1)) := by
 have hl := h.len
 have g : ∀ i, (nx.set j ((k : Int) + 1)).getD i 0 = if i = j then (k : Int) + 1 else nx.getD i 0 := fun i => by
  rw [List.getD_eq_getElem?_getD, List.getD_eq_getElem?_getD]
  split
  ·rename_i e; subst e; rw [List.getElem?_set_self (by omega)]; rfl
  ·rw [List.getElem?_set_ne (by omega)]
 refine ⟨by simp [hl], fun i hi => ?_, fun i hi => ?_, fun i hi hLi => ?_⟩
 ·rw [g]; have := h.bd i hi; split <;> omega
 ·rw [g]; split
  ·intro; omega
  ·exact h.old i hi
 ·rw [g, if_neg (by omega)]; exact h.out i hi hLi
theorem join_ref {x : Lm} {l : List Nt} {ks : List Int} (hx : LmOk x) (hc : chkN l = 0) {a n k : Nat} (sg : SegOk l a n) {s nx : List Int} (h : NxOk x.lo.length s a k nx) (h1 : a ≤ k) (h2 : k < a + n) (hk : k < l.length) (v : Int) :
  join x (lookS l nx) l[k] v = if v < 1 ∨ (x.lo.length : Int) < v then none else
   if l[k].p < x.lo.getD (v - 1).toNat 0 ∨ x.hi.getD (v - 1).toNat 0 < l[k].p then none else
   if (a : Int) < nx.getD (v - 1).toNat 0 then none else
   if 0 < nx.getD (v - 1).toNat 0 ∧ l[k].f ≤ (look l (nx.getD (v - 1).toNat 0)).t + x.gap then
    (if x.leap < dst l[k].p (look l (nx.getD (v - 1).toNat 0)).p then none else some (dst l[k].p (look l (nx.getD (v - 1).toNat 0)).p, lookS l (nx.set (v - 1).toNat ((k : Int) + 1))))
   else some (0, lookS l (nx.set (v - 1).toNat ((k : Int) + 1))) := by
 unfold join
 by_cases c1 : v < 1 ∨ (x.lo.length : Int) < v
 ·rw [if_pos c1, if_pos c1]
 rw [if_neg c1, if_neg c1]
 by_cases c2 : l[k].p < x.lo.getD (v - 1).toNat 0 ∨ x.hi.getD (v - 1).toNat 0 < l[k].p
 ·rw [if_pos c2, if_pos c2]
 rw [if_neg c2, if_neg c2]
 have hL := hx.lo5
 have hj : (v - 1).toNat < x.lo.length := by omega
 generalize (v - 1).toNat = j at hj
 rw [lookS_get l nx (by omega)]
 have hb := h.bd j (by omega)
 rw [lookS_set l h.len (by omega), look_at l hk]
 have hNN := ntsOk_of hc
 have ha : a < l.length := by have := sg.le; have := sg.pos; omega
 have hke : l[k].e = l[a].e := by
  have := sg.same (k - a) (by omega)
  simp only [show a + (k - a) = k by omega] at this
  exact this
 generalize nx.getD j 0 = z at hb
 by_cases hz : z = 0
 ·subst hz
  rw [if_neg (by simp [look, nt0]), if_neg (by simp [look, nt0]), if_neg (by omega), if_neg (by omega)]
 ·have hzl : (z - 1).toNat < l.length := by omega
  have hlk : look l z = l[(z - 1).toNat] := by unfold look; rw [if_neg hz, List.getElem?_eq_getElem hzl]; rfl
  have hnb := hNN.fit _ (List.getElem_mem hzl)
  have ht : 0 < l[(z - 1).toNat].t := by unfold ntBad at hnb; omega
  rw [hlk]
  by_cases c3 : (a : Int) < z
  ·have he : l[(z - 1).toNat].e = l[a].e := by
    have := sg.same ((z - 1).toNat - a) (by omega)
    simp only [show a + ((z - 1).toNat - a) = (z - 1).toNat by omega] at this
    exact this
   rw [if_pos c3, if_pos ⟨ht, by rw [he, hke]⟩]
  ·have he := segOk_lt hc sg (i := (z - 1).toNat) (by omega) ha
   have n1 : ¬ (0 < l[(z - 1).toNat].t ∧ l[(z - 1).toNat].e = l[k].e) := by omega
   rw [if_neg c3, if_neg n1]
   by_cases c4 : l[k].f ≤ l[(z - 1).toNat].t + x.gap
   ·have p1 : 0 < l[(z - 1).toNat].t ∧ l[k].f ≤ l[(z - 1).toNat].t + x.gap := ⟨ht, c4⟩
    have p2 : 0 < z ∧ l[k].f ≤ l[(z - 1).toNat].t + x.gap := ⟨by omega, c4⟩
    rw [if_pos p1, if_pos p2]
   ·have p1 : ¬ (0 < l[(z - 1).toNat].t ∧ l[k].f ≤ l[(z - 1).toNat].t + x.gap) := fun y => c4 y.2
    have p2 : ¬ (0 < z ∧ l[k].f ≤ l[(z - 1).toNat].t + x.gap) := fun y => c4 y.2
    rw [if_neg p1, if_neg p2]
def rB (s : St) (t : Int) (a : Nat) : Nat → Int
 | 0 => 0
 | d + 1 => rB s t a d + ind t (s.get a) (s.get (a + 1 + d))
def rA (s : St) (t : Int) (L : Nat) : Nat → Int
 | 0 => 0
 | a + 1 => rA s t L a + rB s t a (L - (a + 1))
theorem ind0 {t : Int} (h : 0 ≤ t) (x : Nt) : ind t x nt0 = 0 := by unfold ind nt0; rw [if_neg (by simp only; omega)]
theorem ind0' {t : Int} (h : 0 ≤ t) (x : Nt) : ind t nt0 x = 0 := by unfold ind nt0; rw [if_neg (by simp only; omega)]
theorem rA_crs {s : St} {t : Int} (ht : 0 ≤ t) {L : Nat} (h1 : 1 ≤ L) (h5 : L ≤ 5) (ho : ∀ k, k < 5 → L ≤ k → s.get k = nt0) : rA s t L L = crs s t := by
 obtain rfl | rfl | rfl | rfl | rfl : L = 1 ∨ L = 2 ∨ L = 3 ∨ L = 4 ∨ L = 5 := by omega
 ·have a1 := ho 1 (by omega) (by omega)
  have a2 := ho 2 (by omega) (by omega)
  have a3 := ho 3 (by omega) (by omega)
  have a4 := ho 4 (by omega) (by omega)
  simp [rA, rB, crs, crA, crB, a1, a2, a3, a4, ind0 ht, ind0' ht]
 ·have a2 := ho 2 (by omega) (by omega)
  have a3 := ho 3 (by omega) (by omega)
  have a4 := ho 4 (by omega) (by omega)
  simp [rA, rB, crs, crA, crB, a2, a3, a4, ind0 ht, ind0' ht]
 ·have a3 := ho 3 (by omega) (by omega)
  have a4 := ho 4 (by omega) (by omega)
  simp [rA, rB, crs, crA, crB, a3, a4, ind0 ht, ind0' ht]
  omega
 ·have a4 := ho 4 (by omega) (by omega)
  simp [rA, rB, crs, crA, crB, a4, ind0 ht, ind0' ht]
  omega
 ·simp [rA, rB, crs, crA, crB]
  omega
theorem rB_bd (s : St) (t : Int) (a : Nat) : ∀ d : Nat, 0 ≤ rB s t a d ∧ rB s t a d ≤ d
 | 0 => by simp [rB]
 | d + 1 => by
  have h1 := rB_bd s t a d
  have h2 := ind_bd t (s.get a) (s.get (a + 1 + d))
  simp only [rB]; omega
theorem rA_bd (s : St) (t : Int) (L : Nat) (hL : L ≤ 5) : ∀ a : Nat, 0 ≤ rA s t L a ∧ rA s t L a ≤ 5 * a
 | 0 => by simp [rA]
 | a + 1 => by
  have h1 := rA_bd s t L hL a
  have h2 := rB_bd s t a (L - (a + 1))
  simp only [rA]; omega
end Go.Ab.V

namespace Go.Ab.V
open Go.Proofs
def arr (s : List Int) : List AV := s.map (.int .i64)
theorem arr_at {s : List Int} {i : Nat} (h : i < s.length) : aPart false 1 (0 + (i : Int).toNat * 1) (arr s) = some (.int .i64 (s.getD i 0)) := by
 have e : 0 + (i : Int).toNat * 1 = i := by omega
 rw [e]
 unfold aPart
 rw [if_pos (by unfold arr; rw [List.length_map]; omega)]
 simp [arr, h]
theorem arr_wr {s : List Int} {v : Int} (h1 : 1 ≤ v) (h2 : v ≤ s.length) (h3 : s.length ≤ 5) : aPart false 1 (0 + (IntKind.i64.wrap (v - 1)).toNat * 1) (arr s) = some (.int .i64 (s.getD (v - 1).toNat 0)) := by
 have e : IntKind.i64.wrap (v - 1) = (((v - 1).toNat : Nat) : Int) := by rw [wrapI (by omega) (by omega)]; omega
 rw [e, arr_at (by omega)]
def A85 : Ann := fun _ => {}
theorem size74 (d : Int) (h : -100000 ≤ d ∧ d ≤ 100000) : PRet C.P 85 [.int .i64 d] (.int .i64 (if d < -d then -d else d)) := by
 refine pret_of ok mixed (A := A85) 0 Try.func85 rfl ?_
 (repeat' (first | exact rfl | ((conv => whnf); first | refine ⟨rfl, ?_⟩ | (intro ep))))
 all_goals (refine congrArg (AV.int .i64) ?_; simp (disch := omega) only [wrapI]; simp only [if_true, Int.zero_sub])
theorem dst_size (p q : Int) : (if p - q < -(p - q) then -(p - q) else p - q) = dst p q := by unfold dst; split <;> split <;> omega
theorem evt_nxt {x : Lm} {l : List Nt} {ks : List Int} (hx : LmOk x) (hc : chkN l = 0) {a n : Nat} (sg : SegOk l a n) (hkl : ks.length = l.length) {s : List Int} {d : St × Int} :
  ∀ (c k : Nat) (nx : List Int) (m : Int), NxOk x.lo.length s a k nx → a ≤ k → k + c = a + n → evt x (lookS l nx) m k c (l.drop k) (ks.drop k) = .inr d →
   lookS l (nxt nx k c (ks.drop k)) = d.1 ∧ NxOk x.lo.length s a (a + n) (nxt nx k c (ks.drop k))
 | 0, k, nx, m, h, h1, h2, he => by
  unfold evt at he
  cases he
  unfold nxt
  exact ⟨rfl, by rw [← h2]; exact h⟩
 | c + 1, k, nx, m, h, h1, h2, he => by
  have hkl' : k < l.length := by have := sg.le; omega
  rw [evt_cons hkl' (by omega), join_ref (ks := ks) hx hc sg h h1 (by omega) hkl'] at he
  rw [nxt_cons (by omega)]
  generalize hv : ks[k] = v at he
  have L5 := hx.lo5
  by_cases c1 : v < 1 ∨ (x.lo.length : Int) < v
  ·rw [if_pos c1] at he; cases he
  rw [if_neg c1] at he
  have h3 := h.set h1 (j := (v - 1).toNat) (by omega) L5
  split at he
  ·cases he
  rename_i d2 hd
  split at hd
  ·cases hd
  split at hd
  ·cases hd
  have key : d2.2 = lookS l (nx.set (v - 1).toNat ((k : Int) + 1)) := by
   split at hd
   ·split at hd
    ·cases hd
    ·cases hd; rfl
   ·cases hd; rfl
  rw [key] at he
  exact evt_nxt hx hc sg hkl c (k + 1) _ _ h3 (by omega) (by omega) he
def A64 : Ann := fun r => match r with
 | 0 => { slots := [(0, 0), (1, 1), (2, 2)] }
 | 1 => { slots := [(1, 3)] }
 | 6 => { slots := [(10, 4)] }
 | 10 => { slots := [(8, 5)] }
 | 25 => { slots := [(14, 6), (15, 7)], plan := some (.one 0 (.one 1 (.one 2 (.one 3 (.one 4 (.one 5 (.one 6 (.one 7 (.one 8 (.one 9 (.br3 10 14 15 (.one 11 (.one 12 (.br3 13 14 15 (.one 14 (.one 15 (.one 16 (.one 17 (.done))))) (.br 13 15 (.one 15 (.one 16 (.one 17 (.done)))) (.br 13 16 (.one 16 (.one 17 (.done))) (.one 13 (.one 17 (.done))))) (.br 13 14 (.one 14 (.one 16 (.one 17 (.done)))) (.br 13 16 (.one 16 (.one 17 (.done))) (.one 13 (.one 17 (.done)))))))) (.br 10 15 (.one 11 (.one 12 (.br 13 15 (.one 15 (.one 16 (.one 17 (.done)))) (.br 13 16 (.one 16 (.one 17 (.done))) (.one 13 (.one 17 (.done))))))) (.br 10 16 (.one 11 (.one 12 (.br 13 16 (.one 16 (.one 17 (.done))) (.one 13 (.one 17 (.done)))))) (.one 10 (.one 11 (.one 12 (.one 13 (.one 17 (.done)))))))) (.br 10 14 (.one 11 (.one 12 (.br 13 14 (.one 14 (.one 16 (.one 17 (.done)))) (.br 13 16 (.one 16 (.one 17 (.done))) (.one 13 (.one 17 (.done))))))) (.br 10 16 (.one 11 (.one 12 (.br 13 16 (.one 16 (.one 17 (.done))) (.one 13 (.one 17 (.done)))))) (.one 10 (.one 11 (.one 12 (.one 13 (.one 17 (.done))))))))))))))))))) }
 | _ => {}
def turnV (x : Lm) (n : List Nt) (ks : List Int) (s : List Int) (a cnt : Nat) : AV := match evt x (lookS n s) 0 a cnt (n.drop a) (ks.drop a) with
 | .inl j => .tup [.agg (arr s), .int .i64 0, .int .i64 0, .int .i64 (j : Int)]
 | .inr d => if x.cross < crs d.1 (frN n a) then .tup [.agg (arr s), .int .i64 0, .int .i64 0, .int .i64 ((a : Int) + cnt - 1)] else
  .tup [.agg (arr (nxt s a cnt (ks.drop a))), .int .i64 (crs d.1 (frN n a)), .int .i64 d.2, .int .i64 (-1)]
theorem l5 {l : List Int} (h : l.length = 5) : ∃ a b c d e, l = [a, b, c, d, e] := by
 match l, h with
 | [a, b, c, d, e], _ => exact ⟨a, b, c, d, e, rfl⟩
set_option maxHeartbeats 16000000 in
set_option maxRecDepth 100000 in
theorem turn58 (x : Lm) (n : List Nt) (ks s : List Int) (a cnt : Nat) (ls : List Int) (b : Nat) (hls : ∀ i, i < cnt → ls[b + i]? = ks[a + i]?) (X : LmOk x) (hN : chkN n = 0) (sg : SegOk n a cnt) (hkl : ks.length = n.length) (hs : NxOk x.lo.length s a a s) :
  PRet C.P 64 [lmA x, ntsA n, .int .i64 (a : Int), .int .i64 ((a + cnt : Nat) : Int), .agg (arr s), .lslc 1 (ints ls) b cnt false] (turnV x n ks s a cnt) := by
 have NN := ntsOk_of hN
 have hlen := NN.len
 have hle := sg.le
 have hpos := sg.pos
 have L5 := X.lo5
 have L1 := X.lo1
 have hxh := X.hi
 have hsl := hs.len
 have ha : a < n.length := by omega
 unfold turnV
 obtain ⟨E, hE⟩ : ∃ E, E = evt x (lookS n s) 0 a cnt (n.drop a) (ks.drop a) := ⟨_, rfl⟩
 rw [← hE]
 rw [frN_at ha]
 obtain ⟨NX, hNX⟩ : ∃ NX, NX = nxt s a cnt (ks.drop a) := ⟨_, rfl⟩
 rw [← hNX]
 obtain ⟨V, hV⟩ : ∃ V, V = (match E with
  | .inl j => AV.tup [.agg (arr s), .int .i64 0, .int .i64 0, .int .i64 (j : Int)]
  | .inr d => if x.cross < crs d.1 n[a].f then AV.tup [.agg (arr s), .int .i64 0, .int .i64 0, .int .i64 ((a : Int) + cnt - 1)] else
   AV.tup [.agg (arr NX), .int .i64 (crs d.1 n[a].f), .int .i64 d.2, .int .i64 (-1)]) := ⟨_, rfl⟩
 refine Eq.mp (congrArg (fun v => PRet C.P 64 _ v) hV) ?_
 have hfin := fun d => evt_nxt (d := d) X hN sg hkl cnt a s 0 hs (Nat.le_refl _) rfl
 obtain ⟨s0, s1, s2, s3, s4, rfl⟩ := l5 hsl
 refine pret_of ok mixed (A := A64) 8 Try.func64 rfl ?_
 (conv => whnf)
 intro e0
 (conv => whnf)
 intro e1
 (conv => whnf)
 intro e2
 (repeat' (first | exact rfl | ((conv => whnf); first | (intro e3) | exact rfl | exact ⟨rfl, rfl⟩ | refine dk (by kernel_rfl) ?_ | refine pk (by kernel_rfl) ?_ | refine ⟨rfl, ?_⟩ | refine ⟨by (first | omega | (simp (disch := omega) only [wrapI]; first | omega | (simp; omega)) | (simp; omega)), ?_⟩ | (intro ep) | fail)))
 all_goals (conv => whnf)
 have hX0 : ∀ v : Int, 1 ≤ v → v ≤ x.lo.length → (v - 1).toNat < 5 := fun v _ _ => by omega
 refine loopY ok mixed (A := A64) [1, 2, 3, 5, 6, 10, 12, 16, 17, 18] [0, 1, 2, 3] (S := { z : Nat × List Int × Int // (a ≤ z.1 ∧ z.1 ≤ a + cnt) ∧ NxOk x.lo.length [s0, s1, s2, s3, s4] a z.1 z.2.1 ∧ (0 ≤ z.2.2 ∧ z.2.2 ≤ 127 * z.1) ∧ evt x (lookS n z.2.1) z.2.2 z.1 (a + cnt - z.1) (n.drop z.1) (ks.drop z.1) = E ∧ nxt z.2.1 z.1 (a + cnt - z.1) (ks.drop z.1) = NX })
  (fr := fun z => frOf 0 204 [(1, ntsA n), (2, .int .i64 (a : Int)), (3, .int .i64 ((a + cnt : Nat) : Int)), (5, .lslc 1 (ints ls) b cnt false), (6, .optr (.s 0) e0 5 0 0), (10, .optr (.s 1) e1 5 0 0), (12, .optr (.s 2) e2 5 0 0), (16, .optr (.s 3) e3 5 0 0), (17, .int .i64 z.1.2.2), (18, .int .i64 (z.1.1 : Int))])
  (h := fun z => ⟨[.vec e0 [lmR x], .vec e1 [arr [s0, s1, s2, s3, s4]], .vec e2 [arr [0, 0, 0, 0, 0]], .vec e3 [arr z.1.2.1], .hole, .hole, .hole, .hole], []⟩) (μ := fun z => a + cnt - z.1.1)
  ⟨(a, [s0, s1, s2, s3, s4], 0), by simp only; omega, hs, by simp only; omega, by simp only; rw [hE, show a + cnt - a = cnt by omega], by simp only; rw [hNX, show a + cnt - a = cnt by omega]⟩ ?_ ?_
  [1, 2, 3, 6, 10, 12, 16, 17] [0, 1, 2, 3] (S' := { z : List Int × Int // NxOk x.lo.length [s0, s1, s2, s3, s4] a (a + cnt) z.1 ∧ (0 ≤ z.2 ∧ z.2 ≤ 127 * (a + cnt)) ∧ Sum.inr (lookS n z.1, z.2) = E ∧ z.1 = NX }) (X := fun _ => 0)
  (frX := fun z => frOf 0 204 [(1, ntsA n), (2, .int .i64 (a : Int)), (3, .int .i64 ((a + cnt : Nat) : Int)), (6, .optr (.s 0) e0 5 0 0), (10, .optr (.s 1) e1 5 0 0), (12, .optr (.s 2) e2 5 0 0), (16, .optr (.s 3) e3 5 0 0), (17, .int .i64 z.1.2)])
  (hX := fun z => ⟨[.vec e0 [lmR x], .vec e1 [arr [s0, s1, s2, s3, s4]], .vec e2 [arr [0, 0, 0, 0, 0]], .vec e3 [arr z.1.1], .hole, .hole, .hole, .hole], []⟩)
  [12, 13, 14, 15] [2] (S2 := { j : Nat // Sum.inl j = E }) (frR := fun j => frOf 0 204 [(12, .optr (.s 2) e2 5 0 0), (13, .int .i64 0), (14, .int .i64 0), (15, .int .i64 (j.1 : Int))])
  (hR := fun j => ⟨[.hole, .hole, .vec e2 [arr [s0, s1, s2, s3, s4]], .hole, .hole, .hole, .hole, .hole], []⟩) ?_ ?_ ?_
 ·exact rfl
 ·exact rfl
 ·rintro ⟨⟨k, nx, m⟩, hk, hnx, hm, hv, hw⟩
  simp only at hk hnx hm hv hw
  show aexR _ _ _ (frOf 0 204 [(1, ntsA n), (2, .int .i64 (a : Int)), (3, .int .i64 ((a + cnt : Nat) : Int)), (5, .lslc 1 (ints ls) b cnt false), (6, .optr (.s 0) e0 5 0 0), (10, .optr (.s 1) e1 5 0 0), (12, .optr (.s 2) e2 5 0 0), (16, .optr (.s 3) e3 5 0 0), (17, .int .i64 m), (18, .int .i64 (k : Int))])
   ⟨[.vec e0 [lmR x], .vec e1 [arr [s0, s1, s2, s3, s4]], .vec e2 [arr [0, 0, 0, 0, 0]], .vec e3 [arr nx], .hole, .hole, .hole, .hole], []⟩ _
  (conv => whnf)
  refine ifB (fun g1 => ?_) (fun g1 => ?_)
  ·simp only [decide_eq_true_eq] at g1
   have h1 : k < n.length := by omega
   have h2 : k < ks.length := by omega
   have hk1 : (ints ls)[b + (IntKind.i64.wrap ((k : Int) - (a : Int))).toNat]? = some [.int .i64 ks[k]] := by
    have h3 := hls (k - a) (by omega)
    rw [show a + (k - a) = k by omega, List.getElem?_eq_getElem h2] at h3
    rw [wrapI (by omega) (by omega), show ((k : Int) - (a : Int)).toNat = k - a by omega]
    unfold ints
    rw [List.getElem?_map, h3]
    rfl
   have hm1 := mapR (f := ntR) h1
   rw [show a + cnt - k = (a + cnt - (k + 1)) + 1 by omega] at hv hw
   rw [evt_cons h1 h2, join_ref (ks := ks) X hN sg hnx hk.1 (by omega) h1] at hv
   rw [nxt_cons h2] at hw
   have hfit := fit_of (NN.fit _ (List.getElem_mem h1))
   generalize n[k] = nn at hk1 hm1 hv hfit
   generalize ks[k] = v at hk1 hv hw
   obtain ⟨ne, nc, np, nf, nt⟩ := nn
   replace hm1 : (n.map ntR)[0 + (k : Int).toNat]? = some [.int .i64 ne, .int .i64 nc, .int .i64 np, .int .i64 nf, .int .i64 nt] := hm1
   unfold ntFit at hfit
   simp only at hfit hv
   by_cases c1 : v < 1 ∨ (x.lo.length : Int) < v
   ·rw [if_pos c1] at hv
    simp only at hv
    (repeat' (first | exact rfl | ((conv => whnf); first | refine optS hk1 ?_ | refine optS hm1 ?_ | exact rfl | exact ⟨rfl, rfl⟩ | refine dk (by kernel_rfl) ?_ | refine pk (by kernel_rfl) ?_ | refine ⟨rfl, ?_⟩ | refine ⟨by (first | omega | (simp (disch := omega) only [wrapI]; first | omega | (simp; omega)) | (simp; omega)), ?_⟩ | (intro ep) | (refine ifB (fun hb => ?_) (fun hb => ?_) <;> (try simp only [qs] at hb) <;> (try simp (disch := omega) only [wrapI] at hb) <;> (try (exfalso; omega))) | fail)))
    all_goals (conv => whnf)
    all_goals exact back_of ⟨k, hv⟩ ⟨by (first | exact rfl | (simp (disch := omega) only [wrapI]; exact rfl)), rfl⟩
   rw [if_neg c1] at hv
   have hj : (v - 1).toNat < x.lo.length := by omega
   have r1 := arr_wr (s := nx) (v := v) (by omega) (by rw [hnx.len]; omega) (by rw [hnx.len]; omega)
   have r2 := arr_wr (s := [s0, s1, s2, s3, s4]) (v := v) (by omega) (by simp only [List.length_cons, List.length_nil]; omega) (by simp only [List.length_cons, List.length_nil]; omega)
   have hw' : IntKind.i64.wrap (v - 1) = (((v - 1).toNat : Nat) : Int) := by rw [wrapI (by omega) (by omega)]; omega
   have hlo : (ints x.lo)[0 + (IntKind.i64.wrap (v - 1)).toNat]? = some [.int .i64 (x.lo.getD (v - 1).toNat 0)] := by
    rw [hw', intsR hj, List.getD_eq_getElem?_getD, List.getElem?_eq_getElem hj]; rfl
   have hhi : (ints x.hi)[0 + (IntKind.i64.wrap (v - 1)).toNat]? = some [.int .i64 (x.hi.getD (v - 1).toNat 0)] := by
    have hj2 : (v - 1).toNat < x.hi.length := by rw [X.hi]; exact hj
    rw [hw', intsR hj2, List.getD_eq_getElem?_getD, List.getElem?_eq_getElem hj2]; rfl
   have hset := hnx.set hk.1 hj L5
   have hbd := hnx.bd (v - 1).toNat (by omega)
   have hold := hnx.old (v - 1).toNat (by omega)
   have hnl := hnx.len
   generalize x.lo.getD (v - 1).toNat 0 = lk at hlo hv
   generalize x.hi.getD (v - 1).toNat 0 = hk' at hhi hv
   generalize nx.getD (v - 1).toNat 0 = z at r1 hbd hold hv
   generalize [s0, s1, s2, s3, s4].getD (v - 1).toNat 0 = zs at r2 hold
   have hv0 : 1 ≤ v ∧ v ≤ 5 := by omega
   by_cases c2 : np < lk ∨ hk' < np
   ·rw [if_pos c2] at hv
    simp only at hv
    (repeat' (first | exact rfl | ((conv => whnf); first | refine optS hk1 ?_ | refine optS hm1 ?_ | refine optS hlo ?_ | refine optS hhi ?_ | exact rfl | exact ⟨rfl, rfl⟩ | refine dk (by kernel_rfl) ?_ | refine pk (by kernel_rfl) ?_ | refine ⟨rfl, ?_⟩ | refine ⟨by (first | omega | (simp (disch := omega) only [wrapI]; first | omega | (simp; omega)) | (simp; omega)), ?_⟩ | (intro ep) | (refine ifB (fun hb => ?_) (fun hb => ?_) <;> (try simp only [qs] at hb) <;> (try simp (disch := omega) only [wrapI] at hb) <;> (try (exfalso; omega))) | fail)))
    all_goals (conv => whnf)
    all_goals exact back_of ⟨k, hv⟩ ⟨by (first | exact rfl | (simp (disch := omega) only [wrapI]; exact rfl)), rfl⟩
   rw [if_neg c2] at hv
   by_cases c3 : (a : Int) < z
   ·rw [if_pos c3] at hv
    simp only at hv
    (repeat' (first | exact rfl | ((conv => whnf); first | refine optS hk1 ?_ | refine optS hm1 ?_ | refine optS hlo ?_ | refine optS hhi ?_ | refine optA r1 ?_ | exact rfl | exact ⟨rfl, rfl⟩ | refine dk (by kernel_rfl) ?_ | refine pk (by kernel_rfl) ?_ | refine ⟨rfl, ?_⟩ | refine ⟨by (first | omega | (simp (disch := omega) only [wrapI]; first | omega | (simp; omega)) | (simp; omega)), ?_⟩ | (intro ep) | (refine ifB (fun hb => ?_) (fun hb => ?_) <;> (try simp only [qs] at hb) <;> (try simp (disch := omega) only [wrapI] at hb) <;> (try (exfalso; omega))) | fail)))
    all_goals (conv => whnf)
    all_goals exact back_of ⟨k, hv⟩ ⟨by (first | exact rfl | (simp (disch := omega) only [wrapI]; exact rfl)), rfl⟩
   rw [if_neg c3] at hv
   have ez : z = zs := hold (by omega)
   subst ez
   have hstep : ∀ (d : Int), 0 ≤ d ∧ d ≤ 127 → evt x (lookS n (nx.set (v - 1).toNat ((k : Int) + 1))) (m + d) (k + 1) (a + cnt - (k + 1)) (n.drop (k + 1)) (ks.drop (k + 1)) = E →
     (a ≤ k + 1 ∧ k + 1 ≤ a + cnt) ∧ NxOk x.lo.length [s0, s1, s2, s3, s4] a (k + 1) (nx.set (v - 1).toNat ((k : Int) + 1)) ∧ (0 ≤ m + d ∧ m + d ≤ 127 * ((k + 1 : Nat) : Int)) ∧ evt x (lookS n (nx.set (v - 1).toNat ((k : Int) + 1))) (m + d) (k + 1) (a + cnt - (k + 1)) (n.drop (k + 1)) (ks.drop (k + 1)) = E ∧ nxt (nx.set (v - 1).toNat ((k : Int) + 1)) (k + 1) (a + cnt - (k + 1)) (ks.drop (k + 1)) = NX :=
    fun d hd he => ⟨by omega, hset, by omega, he, hw⟩
   clear hset
   by_cases c4 : 0 < z
   ·have hzl : (z - 1).toNat < n.length := by omega
    have hzw : IntKind.i64.wrap (z - 1) = (((z - 1).toNat : Nat) : Int) := by rw [wrapI (by omega) (by omega)]; omega
    have hm2 : (n.map ntR)[0 + (IntKind.i64.wrap (z - 1)).toNat]? = some (ntR n[(z - 1).toNat]) := by rw [hzw]; exact mapR hzl
    have hlk : look n z = n[(z - 1).toNat] := by unfold look; rw [if_neg (by omega), List.getElem?_eq_getElem hzl]; rfl
    rw [hlk] at hv
    have hf2 := fit_of (NN.fit _ (List.getElem_mem hzl))
    generalize n[(z - 1).toNat] = b at hm2 hv hf2
    obtain ⟨be, bc, bp, bf, bt⟩ := b
    replace hm2 : (n.map ntR)[0 + (IntKind.i64.wrap (z - 1)).toNat]? = some [.int .i64 be, .int .i64 bc, .int .i64 bp, .int .i64 bf, .int .i64 bt] := hm2
    unfold ntFit at hf2
    simp only at hf2 hv
    have hgap := X.gap
    by_cases c5 : nf ≤ bt + x.gap
    ·rw [if_pos ⟨c4, c5⟩] at hv
     have hdb := dst_bd (p := np) (q := bp) (by omega) (by omega)
     have w74 : PRet C.P 85 [.int .i64 (IntKind.i64.wrap (np - bp))] (.int .i64 (dst np bp)) := by
      have := size74 (np - bp) (by omega)
      rw [dst_size] at this
      rw [wrapI (by omega) (by omega)]; exact this
     generalize dst np bp = d at w74 hv hdb
     by_cases c6 : x.leap < d
     ·rw [if_pos c6] at hv
      simp only at hv
      (repeat' (first | exact rfl | ((conv => whnf); first | refine optS hk1 ?_ | refine optS hm1 ?_ | refine optA r1 ?_ | refine optA r2 ?_ | refine optS hlo ?_ | refine optS hhi ?_ | refine optS hm2 ?_ | refine ⟨_, w74, ?_⟩ | exact rfl | exact ⟨rfl, rfl⟩ | refine dk (by kernel_rfl) ?_ | refine pk (by kernel_rfl) ?_ | refine ⟨rfl, ?_⟩ | refine ⟨by (first | omega | (simp (disch := omega) only [wrapI]; first | omega | (simp; omega)) | (simp; omega)), ?_⟩ | (intro ep) | (refine ifB (fun hb => ?_) (fun hb => ?_) <;> (try simp only [qs] at hb) <;> (try simp (disch := omega) only [wrapI] at hb) <;> (try (exfalso; omega))) | fail)))
      all_goals (conv => whnf)
      all_goals exact back_of ⟨k, hv⟩ ⟨by (first | exact rfl | (simp (disch := omega) only [wrapI]; exact rfl)), rfl⟩
     ·rw [if_neg c6] at hv
      simp only at hv
      have hq := hstep d hdb hv
      clear hstep
      clear hold
      (repeat' (first | exact rfl | ((conv => whnf); first | refine optS hk1 ?_ | refine optS hm1 ?_ | refine optA r1 ?_ | refine optA r2 ?_ | refine optS hlo ?_ | refine optS hhi ?_ | refine optS hm2 ?_ | refine ⟨_, w74, ?_⟩ | exact rfl | exact ⟨rfl, rfl⟩ | refine dk (by kernel_rfl) ?_ | refine pk (by kernel_rfl) ?_ | refine ⟨rfl, ?_⟩ | refine ⟨by (first | omega | (simp (disch := omega) only [wrapI]; first | omega | (simp; omega)) | (simp; omega)), ?_⟩ | (intro ep) | (refine ifB (fun hb => ?_) (fun hb => ?_) <;> (try simp only [qs] at hb) <;> (try simp (disch := omega) only [wrapI] at hb) <;> (try (exfalso; omega))) | fail)))
      all_goals
       clear hb
       obtain ⟨n0, n1, n2, n3, n4, rfl⟩ := l5 hnl
       have h5 : v = 1 ∨ v = 2 ∨ v = 3 ∨ v = 4 ∨ v = 5 := by omega
       rcases h5 with rfl | rfl | rfl | rfl | rfl
       all_goals
        (repeat' (first | exact rfl | ((conv => whnf); first | exact rfl | exact ⟨rfl, rfl⟩ | refine dk (by kernel_rfl) ?_ | refine pk (by kernel_rfl) ?_ | refine ⟨rfl, ?_⟩ | refine ⟨by (first | omega | (simp (disch := omega) only [wrapI]; first | omega | (simp; omega)) | (simp; omega)), ?_⟩ | (intro ep) | fail)))
        all_goals (conv => whnf)
        exact back_of ⟨(k + 1, _, m + d), hq⟩ ⟨by (first | exact rfl | (simp (disch := omega) only [wrapI]; exact rfl)), by (first | exact rfl | (simp (disch := omega) only [wrapI]; exact rfl)), by simp only; omega⟩
    ·rw [if_neg (fun y => c5 y.2)] at hv
     simp only at hv
     have hq := hstep 0 (by omega) hv
     simp only [Int.add_zero] at hq
     clear hstep
     clear hold
     (repeat' (first | exact rfl | ((conv => whnf); first | refine optS hk1 ?_ | refine optS hm1 ?_ | refine optA r1 ?_ | refine optA r2 ?_ | refine optS hlo ?_ | refine optS hhi ?_ | refine optS hm2 ?_ | refine ⟨_, w74, ?_⟩ | exact rfl | exact ⟨rfl, rfl⟩ | refine dk (by kernel_rfl) ?_ | refine pk (by kernel_rfl) ?_ | refine ⟨rfl, ?_⟩ | refine ⟨by (first | omega | (simp (disch := omega) only [wrapI]; first | omega | (simp; omega)) | (simp; omega)), ?_⟩ | (intro ep) | (refine ifB (fun hb => ?_) (fun hb => ?_) <;> (try simp only [qs] at hb) <;> (try simp (disch := omega) only [wrapI] at hb) <;> (try (exfalso; omega))) | fail)))
     all_goals
      obtain ⟨n0, n1, n2, n3, n4, rfl⟩ := l5 hnl
      have h5 : v = 1 ∨ v = 2 ∨ v = 3 ∨ v = 4 ∨ v = 5 := by omega
      rcases h5 with rfl | rfl | rfl | rfl | rfl
      all_goals
       (repeat' (first | exact rfl | ((conv => whnf); first | exact rfl | exact ⟨rfl, rfl⟩ | refine dk (by kernel_rfl) ?_ | refine pk (by kernel_rfl) ?_ | refine ⟨rfl, ?_⟩ | refine ⟨by (first | omega | (simp (disch := omega) only [wrapI]; first | omega | (simp; omega)) | (simp; omega)), ?_⟩ | (intro ep) | fail)))
       all_goals (conv => whnf)
       exact back_of ⟨(k + 1, _, m), hq⟩ ⟨by (first | exact rfl | (simp (disch := omega) only [wrapI]; exact rfl)), by (first | exact rfl | (simp (disch := omega) only [wrapI]; exact rfl)), by simp only; omega⟩
   ·rw [if_neg (fun y => c4 y.1)] at hv
    simp only at hv
    have hq := hstep 0 (by omega) hv
    simp only [Int.add_zero] at hq
    clear hstep
    clear hold
    have hm2 := hm1
    have w74 := size74 0 (by omega)
    (repeat' (first | exact rfl | ((conv => whnf); first | refine optS hk1 ?_ | refine optS hm1 ?_ | refine optA r1 ?_ | refine optA r2 ?_ | refine optS hlo ?_ | refine optS hhi ?_ | refine optS hm2 ?_ | refine ⟨_, w74, ?_⟩ | exact rfl | exact ⟨rfl, rfl⟩ | refine dk (by kernel_rfl) ?_ | refine pk (by kernel_rfl) ?_ | refine ⟨rfl, ?_⟩ | refine ⟨by (first | omega | (simp (disch := omega) only [wrapI]; first | omega | (simp; omega)) | (simp; omega)), ?_⟩ | (intro ep) | (refine ifB (fun hb => ?_) (fun hb => ?_) <;> (try simp only [qs] at hb) <;> (try simp (disch := omega) only [wrapI] at hb) <;> (try (exfalso; omega))) | fail)))
    all_goals
     obtain ⟨n0, n1, n2, n3, n4, rfl⟩ := l5 hnl
     have h5 : v = 1 ∨ v = 2 ∨ v = 3 ∨ v = 4 ∨ v = 5 := by omega
     rcases h5 with rfl | rfl | rfl | rfl | rfl
     all_goals
      (repeat' (first | exact rfl | ((conv => whnf); first | exact rfl | exact ⟨rfl, rfl⟩ | refine dk (by kernel_rfl) ?_ | refine pk (by kernel_rfl) ?_ | refine ⟨rfl, ?_⟩ | refine ⟨by (first | omega | (simp (disch := omega) only [wrapI]; first | omega | (simp; omega)) | (simp; omega)), ?_⟩ | (intro ep) | fail)))
      all_goals (conv => whnf)
      exact back_of ⟨(k + 1, _, m), hq⟩ ⟨by (first | exact rfl | (simp (disch := omega) only [wrapI]; exact rfl)), by (first | exact rfl | (simp (disch := omega) only [wrapI]; exact rfl)), by simp only; omega⟩
  ·simp only [decide_eq_false_iff_not] at g1
   have hk2 : k = a + cnt := by omega
   subst hk2
   rw [Nat.sub_self, evt] at hv
   rw [Nat.sub_self, nxt] at hw
   (repeat' (first | exact rfl | ((conv => whnf); first | exact rfl | exact ⟨rfl, rfl⟩ | refine dk (by kernel_rfl) ?_ | refine pk (by kernel_rfl) ?_ | refine ⟨rfl, ?_⟩ | refine ⟨by (first | omega | (simp (disch := omega) only [wrapI]; first | omega | (simp; omega)) | (simp; omega)), ?_⟩ | (intro ep) | fail)))
   all_goals (conv => whnf)
   exact back_of ⟨(nx, m), hnx, by simp only; omega, hv, hw⟩ ⟨rfl, rfl, rfl⟩
 ·rintro ⟨j, hj⟩
  (repeat' (first | ((conv => whnf); first | exact rfl | exact ⟨rfl, rfl⟩ | refine dk (by kernel_rfl) ?_ | refine pk (by kernel_rfl) ?_ | refine ⟨rfl, ?_⟩ | refine ⟨by (first | omega | (simp (disch := omega) only [wrapI]; first | omega | (simp; omega)) | (simp; omega)), ?_⟩ | (intro ep) | fail)))
  all_goals (rw [hV]; subst hj; exact rfl)
 ·rintro ⟨⟨nx, m⟩, hnx, hm, hv, hw⟩
  simp only at hnx hm hv hw
  subst hw
  have hnl := hnx.len
  have hm0 := mapR (f := ntR) ha
  have hnb0 := NN.fit _ (List.getElem_mem ha)
  generalize hna : n[a] = na at hm0 hnb0
  obtain ⟨ae, ac, ap, t, at'⟩ := na
  replace hm0 : (n.map ntR)[0 + (a : Int).toNat]? = some [.int .i64 ae, .int .i64 ac, .int .i64 ap, .int .i64 t, .int .i64 at'] := hm0
  have ht0 : 0 ≤ t := by unfold ntBad at hnb0; simp only at hnb0; omega
  clear hnb0
  subst hv
  simp only at hV
  obtain ⟨st, hst⟩ : ∃ st, st = lookS n nx := ⟨_, rfl⟩
  have hcr : rA st t x.lo.length x.lo.length = crs st t := rA_crs ht0 L1 L5 (fun k h5 hk => by
   rw [hst, lookS_get n nx h5, hnx.out k h5 hk]; rfl)
  have hcb := crs_bd st t
  have hget : ∀ (i : Nat), i < 5 → (nx.getD i 0 = 0 ∧ st.get i = nt0) ∨ (1 ≤ nx.getD i 0 ∧ ∃ h : (nx.getD i 0 - 1).toNat < n.length, st.get i = n[(nx.getD i 0 - 1).toNat]) := fun i hi => by
   have hb := hnx.bd i hi
   rw [hst, lookS_get n nx hi]
   by_cases hz : nx.getD i 0 = 0
   ·exact .inl ⟨hz, by rw [hz]; rfl⟩
   ·have hzl : (nx.getD i 0 - 1).toNat < n.length := by omega
    exact .inr ⟨by omega, hzl, by unfold look; rw [if_neg hz, List.getElem?_eq_getElem hzl]; rfl⟩
  have hbd := hnx.bd
  (repeat' (first | ((conv => whnf); first | exact rfl | exact ⟨rfl, rfl⟩ | refine dk (by kernel_rfl) ?_ | refine pk (by kernel_rfl) ?_ | refine ⟨rfl, ?_⟩ | refine ⟨by (first | omega | (simp (disch := omega) only [wrapI]; first | omega | (simp; omega)) | (simp; omega)), ?_⟩ | (intro ep) | fail)))
  all_goals (conv => whnf)
  refine loopX ok mixed (A := A64) [1, 2, 3, 6, 10, 12, 16, 17, 23, 24] [0, 1, 2, 3] (S := { i : Nat // i ≤ x.lo.length })
   (fr := fun i => frOf 0 204 [(1, ntsA n), (2, .int .i64 (a : Int)), (3, .int .i64 ((a + cnt : Nat) : Int)), (6, .optr (.s 0) e0 5 0 0), (10, .optr (.s 1) e1 5 0 0), (12, .optr (.s 2) e2 5 0 0), (16, .optr (.s 3) e3 5 0 0), (17, .int .i64 m), (23, .int .i64 (rA st t x.lo.length i.1)), (24, .int .i64 (i.1 : Int))])
   (h := fun i => ⟨[.vec e0 [lmR x], .vec e1 [arr [s0, s1, s2, s3, s4]], .vec e2 [arr [0, 0, 0, 0, 0]], .vec e3 [arr nx], .hole, .hole, .hole, .hole], []⟩) (μ := fun i => x.lo.length - i.1) ⟨0, by omega⟩ ?_ ?_
   [3, 6, 10, 12, 16, 17, 23] [0, 1, 2, 3] (S' := Unit) (X := fun _ => 2)
   (frX := fun i => frOf 0 204 [(3, .int .i64 ((a + cnt : Nat) : Int)), (6, .optr (.s 0) e0 5 0 0), (10, .optr (.s 1) e1 5 0 0), (12, .optr (.s 2) e2 5 0 0), (16, .optr (.s 3) e3 5 0 0), (17, .int .i64 m), (23, .int .i64 (crs st t))])
   (hX := fun i => ⟨[.vec e0 [lmR x], .vec e1 [arr [s0, s1, s2, s3, s4]], .vec e2 [arr [0, 0, 0, 0, 0]], .vec e3 [arr nx], .hole, .hole, .hole, .hole], []⟩) (R := fun _ _ => False) ?_ (fun _ _ h => h.elim) ?_
  ·exact rfl
  ·exact rfl
  ·rintro ⟨i, hi⟩
   have hA := rA_bd st t x.lo.length L5 i
   show aexR _ _ _ (frOf 0 204 [(1, ntsA n), (2, .int .i64 (a : Int)), (3, .int .i64 ((a + cnt : Nat) : Int)), (6, .optr (.s 0) e0 5 0 0), (10, .optr (.s 1) e1 5 0 0), (12, .optr (.s 2) e2 5 0 0), (16, .optr (.s 3) e3 5 0 0), (17, .int .i64 m), (23, .int .i64 (rA st t x.lo.length i)), (24, .int .i64 (i : Int))]) ⟨[.vec e0 [lmR x], .vec e1 [arr [s0, s1, s2, s3, s4]], .vec e2 [arr [0, 0, 0, 0, 0]], .vec e3 [arr nx], .hole, .hole, .hole, .hole], []⟩ _
   (repeat' (first | exact rfl | ((conv => whnf); first | exact rfl | exact ⟨rfl, rfl⟩ | refine dk (by kernel_rfl) ?_ | refine pk (by kernel_rfl) ?_ | refine ⟨rfl, ?_⟩ | refine ⟨by (first | omega | (simp (disch := omega) only [wrapI]; first | omega | (simp; omega)) | (simp; omega)), ?_⟩ | (intro ep) | fail)))
   all_goals (conv => whnf)
   refine ifB (fun g1 => ?_) (fun g1 => ?_)
   ·simp only [decide_eq_true_eq] at g1
    have hi2 : i < x.lo.length := by omega
    (repeat' (first | exact rfl | ((conv => whnf); first | exact rfl | exact ⟨rfl, rfl⟩ | refine dk (by kernel_rfl) ?_ | refine pk (by kernel_rfl) ?_ | refine ⟨rfl, ?_⟩ | refine ⟨by (first | omega | (simp (disch := omega) only [wrapI]; first | omega | (simp; omega)) | (simp; omega)), ?_⟩ | (intro ep) | fail)))
    all_goals (conv => whnf)
    refine loopX ok mixed (A := A64) [1, 2, 3, 6, 10, 12, 16, 17, 23, 24, 25] [0, 1, 2, 3] (S := { d : Nat // i + 1 + d ≤ x.lo.length })
     (fr := fun d => frOf 0 204 [(1, ntsA n), (2, .int .i64 (a : Int)), (3, .int .i64 ((a + cnt : Nat) : Int)), (6, .optr (.s 0) e0 5 0 0), (10, .optr (.s 1) e1 5 0 0), (12, .optr (.s 2) e2 5 0 0), (16, .optr (.s 3) e3 5 0 0), (17, .int .i64 m), (23, .int .i64 (rA st t x.lo.length i + rB st t i d.1)), (24, .int .i64 (i : Int)), (25, .int .i64 ((i + 1 + d.1 : Nat) : Int))])
     (h := fun d => ⟨[.vec e0 [lmR x], .vec e1 [arr [s0, s1, s2, s3, s4]], .vec e2 [arr [0, 0, 0, 0, 0]], .vec e3 [arr nx], .hole, .hole, .hole, .hole], []⟩) (μ := fun d => x.lo.length - (i + 1 + d.1)) ⟨0, by omega⟩ ?_ ?_
     [1, 2, 3, 6, 10, 12, 16, 17, 23, 24] [0, 1, 2, 3] (S' := Unit) (X := fun _ => 4)
     (frX := fun d => frOf 0 204 [(1, ntsA n), (2, .int .i64 (a : Int)), (3, .int .i64 ((a + cnt : Nat) : Int)), (6, .optr (.s 0) e0 5 0 0), (10, .optr (.s 1) e1 5 0 0), (12, .optr (.s 2) e2 5 0 0), (16, .optr (.s 3) e3 5 0 0), (17, .int .i64 m), (23, .int .i64 (rA st t x.lo.length i + rB st t i (x.lo.length - (i + 1)))), (24, .int .i64 (i : Int))])
     (hX := fun d => ⟨[.vec e0 [lmR x], .vec e1 [arr [s0, s1, s2, s3, s4]], .vec e2 [arr [0, 0, 0, 0, 0]], .vec e3 [arr nx], .hole, .hole, .hole, .hole], []⟩) (R := fun _ _ => False) ?_ (fun _ _ h => h.elim) ?_
    ·show maskF 0 _ _ = frOf 0 204 [(1, ntsA n), (2, .int .i64 (a : Int)), (3, .int .i64 ((a + cnt : Nat) : Int)), (6, .optr (.s 0) e0 5 0 0), (10, .optr (.s 1) e1 5 0 0), (12, .optr (.s 2) e2 5 0 0), (16, .optr (.s 3) e3 5 0 0), (17, .int .i64 m), (23, .int .i64 (rA st t x.lo.length i + 0)), (24, .int .i64 (i : Int)), (25, .int .i64 ((i + 1 : Nat) : Int))]
     rw [Int.add_zero]
     (first | exact rfl | (simp (disch := omega) only [wrapI]; exact rfl))
    ·exact rfl
    ·rintro ⟨d, hd⟩
     have hB := rB_bd st t i d
     obtain ⟨j, hj⟩ : ∃ j, j = i + 1 + d := ⟨_, rfl⟩
     have hT : ∀ z : Int, z = rA st t x.lo.length i + rB st t i d + ind t (st.get i) (st.get j) → z = rA st t x.lo.length i + rB st t i (d + 1) := fun z hz => by
      rw [hz, rB, ← hj]; omega
     show aexR _ _ _ (frOf 0 204 [(1, ntsA n), (2, .int .i64 (a : Int)), (3, .int .i64 ((a + cnt : Nat) : Int)), (6, .optr (.s 0) e0 5 0 0), (10, .optr (.s 1) e1 5 0 0), (12, .optr (.s 2) e2 5 0 0), (16, .optr (.s 3) e3 5 0 0), (17, .int .i64 m), (23, .int .i64 (rA st t x.lo.length i + rB st t i d)), (24, .int .i64 (i : Int)), (25, .int .i64 ((i + 1 + d : Nat) : Int))]) ⟨[.vec e0 [lmR x], .vec e1 [arr [s0, s1, s2, s3, s4]], .vec e2 [arr [0, 0, 0, 0, 0]], .vec e3 [arr nx], .hole, .hole, .hole, .hole], []⟩ _
     rw [← hj]
     rw [← hj] at hd
     generalize hQ : rA st t x.lo.length i + rB st t i d = q at hT
     have hq : 0 ≤ q ∧ q ≤ 30 := by omega
     (repeat' (first | exact rfl | ((conv => whnf); first | exact rfl | exact ⟨rfl, rfl⟩ | refine dk (by kernel_rfl) ?_ | refine pk (by kernel_rfl) ?_ | refine ⟨rfl, ?_⟩ | refine ⟨by (first | omega | (simp (disch := omega) only [wrapI]; first | omega | (simp; omega)) | (simp; omega)), ?_⟩ | (intro ep) | fail)))
     all_goals (conv => whnf)
     refine ifB (fun g2 => ?_) (fun g2 => ?_)
     ·simp only [decide_eq_true_eq] at g2
      have hj2 : j < x.lo.length := by omega
      have r1 := arr_at (s := nx) (i := i) (by omega)
      have r2 := arr_at (s := nx) (i := j) (by omega)
      have b1 := hbd i (by omega)
      have b2 := hbd j (by omega)
      have g3 := hget i (by omega)
      have g4 := hget j (by omega)
      clear hA
      clear hB
      clear hQ
      have fin : ∀ z : Int, z = q + ind t (st.get i) (st.get j) → frOf 0 204 [(1, ntsA n), (2, .int .i64 (a : Int)), (3, .int .i64 ((a + cnt : Nat) : Int)), (6, .optr (.s 0) e0 5 0 0), (10, .optr (.s 1) e1 5 0 0), (12, .optr (.s 2) e2 5 0 0), (16, .optr (.s 3) e3 5 0 0), (17, .int .i64 m), (23, .int .i64 z), (24, .int .i64 (i : Int)), (25, .int .i64 ((j + 1 : Nat) : Int))] =
       frOf 0 204 [(1, ntsA n), (2, .int .i64 (a : Int)), (3, .int .i64 ((a + cnt : Nat) : Int)), (6, .optr (.s 0) e0 5 0 0), (10, .optr (.s 1) e1 5 0 0), (12, .optr (.s 2) e2 5 0 0), (16, .optr (.s 3) e3 5 0 0), (17, .int .i64 m), (23, .int .i64 (rA st t x.lo.length i + rB st t i (d + 1))), (24, .int .i64 (i : Int)), (25, .int .i64 ((i + 1 + (d + 1) : Nat) : Int))] := fun z hz => by
       rw [← hT z hz, show i + 1 + (d + 1) = j + 1 by omega]
      clear hT
      generalize nx.getD i 0 = z1 at r1 b1 g3
      generalize nx.getD j 0 = z2 at r2 b2 g4
      rcases g3 with ⟨g3, e3⟩ | ⟨g3, l3, e3⟩
      ·rw [e3] at fin
       rw [ind0' ht0, Int.add_zero] at fin
       (repeat' (first | exact rfl | ((conv => whnf); first | refine optA r1 ?_ | refine optA r2 ?_ | refine optS hm1 ?_ | refine optS hm2 ?_ | refine optS hm0 ?_ | exact rfl | refine dk (by kernel_rfl) ?_ | (refine pk (by kernel_rfl) ?_; apply planR_meet; focus (repeat' (first | (rename_i ep1; first | exact ⟨ep1, ep, rfl, rfl⟩ | exact ⟨ep, ep1, rfl, rfl⟩) | ((conv => whnf); first | refine optA r1 ?_ | refine optA r2 ?_ | refine optS hm1 ?_ | refine optS hm2 ?_ | refine optS hm0 ?_ | refine ⟨rfl, ?_⟩ | refine ⟨by (first | omega | (simp (disch := omega) only [wrapI]; first | omega | (simp; omega)) | (simp; omega)), ?_⟩ | (intro ep) | refine ⟨?_, ?_⟩ | refine ⟨?_, ?_, ?_⟩ | fail)))) | refine ⟨rfl, ?_⟩ | refine ⟨by (first | omega | (simp (disch := omega) only [wrapI]; first | omega | (simp; omega)) | (simp; omega)), ?_⟩ | (intro ep) | (refine ifB (fun hb => ?_) (fun hb => ?_) <;> (try simp only [qs] at hb) <;> (try simp (disch := omega) only [wrapI] at hb) <;> (try (exfalso; omega))) | fail)))
       all_goals (conv => whnf)
       all_goals refine back_of ⟨d + 1, by omega⟩ ⟨?_, rfl, by simp only; omega⟩
       all_goals refine Eq.trans ?_ (fin q rfl)
       all_goals (first | exact rfl | (simp (disch := omega) only [wrapI]; exact rfl))
      rcases g4 with ⟨g4, e4⟩ | ⟨g4, l4, e4⟩
      ·rw [e4] at fin
       rw [ind0 ht0, Int.add_zero] at fin
       (repeat' (first | exact rfl | ((conv => whnf); first | refine optA r1 ?_ | refine optA r2 ?_ | refine optS hm1 ?_ | refine optS hm2 ?_ | refine optS hm0 ?_ | exact rfl | refine dk (by kernel_rfl) ?_ | (refine pk (by kernel_rfl) ?_; apply planR_meet; focus (repeat' (first | (rename_i ep1; first | exact ⟨ep1, ep, rfl, rfl⟩ | exact ⟨ep, ep1, rfl, rfl⟩) | ((conv => whnf); first | refine optA r1 ?_ | refine optA r2 ?_ | refine optS hm1 ?_ | refine optS hm2 ?_ | refine optS hm0 ?_ | refine ⟨rfl, ?_⟩ | refine ⟨by (first | omega | (simp (disch := omega) only [wrapI]; first | omega | (simp; omega)) | (simp; omega)), ?_⟩ | (intro ep) | refine ⟨?_, ?_⟩ | refine ⟨?_, ?_, ?_⟩ | fail)))) | refine ⟨rfl, ?_⟩ | refine ⟨by (first | omega | (simp (disch := omega) only [wrapI]; first | omega | (simp; omega)) | (simp; omega)), ?_⟩ | (intro ep) | (refine ifB (fun hb => ?_) (fun hb => ?_) <;> (try simp only [qs] at hb) <;> (try simp (disch := omega) only [wrapI] at hb) <;> (try (exfalso; omega))) | fail)))
       all_goals (conv => whnf)
       all_goals refine back_of ⟨d + 1, by omega⟩ ⟨?_, rfl, by simp only; omega⟩
       all_goals refine Eq.trans ?_ (fin q rfl)
       all_goals (first | exact rfl | (simp (disch := omega) only [wrapI]; exact rfl))
      rw [e3, e4] at fin
      have hm1 := mapR (f := ntR) l3
      have hm2 := mapR (f := ntR) l4
      have w1 : IntKind.i64.wrap (z1 - 1) = (((z1 - 1).toNat : Nat) : Int) := by rw [wrapI (by omega) (by omega)]; omega
      have w2 : IntKind.i64.wrap (z2 - 1) = (((z2 - 1).toNat : Nat) : Int) := by rw [wrapI (by omega) (by omega)]; omega
      rw [← w1] at hm1
      rw [← w2] at hm2
      generalize n[(z1 - 1).toNat] = u at hm1 fin
      generalize n[(z2 - 1).toNat] = y at hm2 fin
      obtain ⟨ue, uc, up, uf, ut⟩ := u
      obtain ⟨ye, yc, yp, yf, yt⟩ := y
      replace hm1 : (n.map ntR)[0 + (IntKind.i64.wrap (z1 - 1)).toNat]? = some [.int .i64 ue, .int .i64 uc, .int .i64 up, .int .i64 uf, .int .i64 ut] := hm1
      replace hm2 : (n.map ntR)[0 + (IntKind.i64.wrap (z2 - 1)).toNat]? = some [.int .i64 ye, .int .i64 yc, .int .i64 yp, .int .i64 yf, .int .i64 yt] := hm2
      unfold ind at fin
      simp only at fin
      by_cases c1 : t < ut ∧ t < yt ∧ up < yp
      ·rw [if_pos c1] at fin
       (repeat' (first | exact rfl | ((conv => whnf); first | refine optA r1 ?_ | refine optA r2 ?_ | refine optS hm1 ?_ | refine optS hm2 ?_ | refine optS hm0 ?_ | exact rfl | refine dk (by kernel_rfl) ?_ | (refine pk (by kernel_rfl) ?_; apply planR_meet; focus (repeat' (first | (rename_i ep1; first | exact ⟨ep1, ep, rfl, rfl⟩ | exact ⟨ep, ep1, rfl, rfl⟩) | ((conv => whnf); first | refine optA r1 ?_ | refine optA r2 ?_ | refine optS hm1 ?_ | refine optS hm2 ?_ | refine optS hm0 ?_ | refine ⟨rfl, ?_⟩ | refine ⟨by (first | omega | (simp (disch := omega) only [wrapI]; first | omega | (simp; omega)) | (simp; omega)), ?_⟩ | (intro ep) | refine ⟨?_, ?_⟩ | refine ⟨?_, ?_, ?_⟩ | fail)))) | refine ⟨rfl, ?_⟩ | refine ⟨by (first | omega | (simp (disch := omega) only [wrapI]; first | omega | (simp; omega)) | (simp; omega)), ?_⟩ | (intro ep) | (refine ifB (fun hb => ?_) (fun hb => ?_) <;> (try simp only [qs] at hb) <;> (try simp (disch := omega) only [wrapI] at hb) <;> (try (exfalso; omega))) | fail)))
       all_goals (conv => whnf)
       all_goals refine back_of ⟨d + 1, by omega⟩ ⟨?_, rfl, by simp only; omega⟩
       all_goals refine Eq.trans ?_ (fin (q + 1) rfl)
       all_goals (first | exact rfl | (simp (disch := omega) only [wrapI]; exact rfl))
      ·rw [if_neg c1, Int.add_zero] at fin
       (repeat' (first | exact rfl | ((conv => whnf); first | refine optA r1 ?_ | refine optA r2 ?_ | refine optS hm1 ?_ | refine optS hm2 ?_ | refine optS hm0 ?_ | exact rfl | refine dk (by kernel_rfl) ?_ | (refine pk (by kernel_rfl) ?_; apply planR_meet; focus (repeat' (first | (rename_i ep1; first | exact ⟨ep1, ep, rfl, rfl⟩ | exact ⟨ep, ep1, rfl, rfl⟩) | ((conv => whnf); first | refine optA r1 ?_ | refine optA r2 ?_ | refine optS hm1 ?_ | refine optS hm2 ?_ | refine optS hm0 ?_ | refine ⟨rfl, ?_⟩ | refine ⟨by (first | omega | (simp (disch := omega) only [wrapI]; first | omega | (simp; omega)) | (simp; omega)), ?_⟩ | (intro ep) | refine ⟨?_, ?_⟩ | refine ⟨?_, ?_, ?_⟩ | fail)))) | refine ⟨rfl, ?_⟩ | refine ⟨by (first | omega | (simp (disch := omega) only [wrapI]; first | omega | (simp; omega)) | (simp; omega)), ?_⟩ | (intro ep) | (refine ifB (fun hb => ?_) (fun hb => ?_) <;> (try simp only [qs] at hb) <;> (try simp (disch := omega) only [wrapI] at hb) <;> (try (exfalso; omega))) | fail)))
       all_goals (conv => whnf)
       all_goals refine back_of ⟨d + 1, by omega⟩ ⟨?_, rfl, by simp only; omega⟩
       all_goals refine Eq.trans ?_ (fin q rfl)
       all_goals (first | exact rfl | (simp (disch := omega) only [wrapI]; exact rfl))
     ·simp only [decide_eq_false_iff_not] at g2
      have ed : d = x.lo.length - (i + 1) := by omega
      clear hT
      (repeat' (first | exact rfl | ((conv => whnf); first | exact rfl | exact ⟨rfl, rfl⟩ | refine dk (by kernel_rfl) ?_ | refine pk (by kernel_rfl) ?_ | refine ⟨rfl, ?_⟩ | refine ⟨by (first | omega | (simp (disch := omega) only [wrapI]; first | omega | (simp; omega)) | (simp; omega)), ?_⟩ | (intro ep) | fail)))
      all_goals (conv => whnf)
      refine back_of () ⟨rfl, ?_, rfl⟩
      rw [← ed, hQ]
      exact rfl
    ·rintro ⟨⟩
     (repeat' (first | exact rfl | ((conv => whnf); first | exact rfl | exact ⟨rfl, rfl⟩ | refine dk (by kernel_rfl) ?_ | refine pk (by kernel_rfl) ?_ | refine ⟨rfl, ?_⟩ | refine ⟨by (first | omega | (simp (disch := omega) only [wrapI]; first | omega | (simp; omega)) | (simp; omega)), ?_⟩ | (intro ep) | fail)))
     all_goals (conv => whnf)
     refine back_of ⟨i + 1, by omega⟩ ⟨?_, rfl, by simp only; omega⟩
     (first | exact rfl | (simp (disch := omega) only [wrapI]; exact rfl))
   ·simp only [decide_eq_false_iff_not] at g1
    have ei : i = x.lo.length := by omega
    subst ei
    (repeat' (first | exact rfl | ((conv => whnf); first | exact rfl | exact ⟨rfl, rfl⟩ | refine dk (by kernel_rfl) ?_ | refine pk (by kernel_rfl) ?_ | refine ⟨rfl, ?_⟩ | refine ⟨by (first | omega | (simp (disch := omega) only [wrapI]; first | omega | (simp; omega)) | (simp; omega)), ?_⟩ | (intro ep) | fail)))
    all_goals (conv => whnf)
    refine back_of () ⟨rfl, ?_, rfl⟩
    rw [← hcr]
    exact rfl
  ·rintro ⟨⟩
   have hcx := X.cross
   rw [← hst, hna] at hV
   simp only at hV
   obtain ⟨n0, n1, n2, n3, n4, rfl⟩ := l5 hnl
   by_cases c6 : x.cross < crs st t
   ·rw [if_pos c6] at hV
    (repeat' (first | ((conv => whnf); first | exact rfl | exact ⟨rfl, rfl⟩ | refine dk (by kernel_rfl) ?_ | refine pk (by kernel_rfl) ?_ | refine ⟨rfl, ?_⟩ | refine ⟨by (first | omega | (simp (disch := omega) only [wrapI]; first | omega | (simp; omega)) | (simp; omega)), ?_⟩ | (intro ep) | (refine ifB (fun hb => ?_) (fun hb => ?_) <;> (try simp only [qs] at hb) <;> (try simp (disch := omega) only [wrapI] at hb) <;> (try (exfalso; omega))) | fail)))
    all_goals (conv => whnf)
    all_goals (rw [hV])
    all_goals (refine congrArg (fun z => AV.tup [.agg (arr [s0, s1, s2, s3, s4]), .int .i64 0, .int .i64 0, .int .i64 z]) (?_ : _ = (a : Int) + cnt - 1))
    all_goals (rw [wrapI (by omega) (by omega)]; omega)
   ·rw [if_neg c6] at hV
    (repeat' (first | ((conv => whnf); first | exact rfl | exact ⟨rfl, rfl⟩ | refine dk (by kernel_rfl) ?_ | refine pk (by kernel_rfl) ?_ | refine ⟨rfl, ?_⟩ | refine ⟨by (first | omega | (simp (disch := omega) only [wrapI]; first | omega | (simp; omega)) | (simp; omega)), ?_⟩ | (intro ep) | (refine ifB (fun hb => ?_) (fun hb => ?_) <;> (try simp only [qs] at hb) <;> (try simp (disch := omega) only [wrapI] at hb) <;> (try (exfalso; omega))) | fail)))
    all_goals (rw [hV]; exact rfl)
end Go.Ab.V
