/-
  What is proved here serves the law's text: each part says its own claim and its conditions. No condition is left open.
-/
import Derived.Test.YthdhhhgjdegafaaKQ
set_option linter.unusedSimpArgs false
set_option linter.unusedVariables false

namespace Go.Ab.V
open Go.Proofs
def ind (t : Int) (x y : Nt) : Int := if t < x.t ∧ t < y.t ∧ x.p < y.p then 1 else 0
def crB (s : St) (t : Int) (b : Nat) : Nat → Int
 | 0 => 0
 | a + 1 => crB s t b a + ind t (s.get a) (s.get b)
def crA (s : St) (t : Int) : Nat → Int
 | 0 => 0
 | b + 1 => crA s t b + crB s t b b
def crs (s : St) (t : Int) : Int := crA s t 5
theorem ind_bd (t : Int) (x y : Nt) : 0 ≤ ind t x y ∧ ind t x y ≤ 1 := by unfold ind; split <;> omega
theorem crB_bd (s : St) (t : Int) (b : Nat) : ∀ a : Nat, 0 ≤ crB s t b a ∧ crB s t b a ≤ a
 | 0 => by simp [crB]
 | a + 1 => by
  have h1 := crB_bd s t b a
  have h2 := ind_bd t (s.get a) (s.get b)
  simp only [crB]; omega
theorem crA_bd (s : St) (t : Int) : ∀ b : Nat, b ≤ 5 → 0 ≤ crA s t b ∧ crA s t b ≤ 5 * b
 | 0, _ => by simp [crA]
 | b + 1, h => by
  have h1 := crA_bd s t b (by omega)
  have h2 := crB_bd s t b b
  simp only [crA]; omega
theorem crs_bd (s : St) (t : Int) : 0 ≤ crs s t ∧ crs s t ≤ 25 := by have := crA_bd s t 5 (by omega); unfold crs; omega
theorem row_t (s : St) {k : Nat} (hk : k < 5) : aPart false 1 (0 + (k : Int).toNat * 5 + 4) s.row = some (.int .i64 (s.get k).t) := by
 obtain rfl | rfl | rfl | rfl | rfl : k = 0 ∨ k = 1 ∨ k = 2 ∨ k = 3 ∨ k = 4 := by omega
 all_goals exact rfl
theorem row_p (s : St) {k : Nat} (hk : k < 5) : aPart false 1 (0 + (k : Int).toNat * 5 + 2) s.row = some (.int .i64 (s.get k).p) := by
 obtain rfl | rfl | rfl | rfl | rfl : k = 0 ∨ k = 1 ∨ k = 2 ∨ k = 3 ∨ k = 4 := by omega
 all_goals exact rfl
def A43 : Ann := fun _ => {}
set_option maxHeartbeats 16000000 in
set_option maxRecDepth 100000 in
theorem cross54 (s : St) (t : Int) (e0 : Nat) (o0 o1 o3 : AObj) :
  ACalls C.P 43 [.optr (.s 2) e0 25 0 0, .int .i64 t] ⟨hpV o0 o1 o3 e0 s, []⟩ fun r h => r = .int .i64 (crs s t) ∧ h.trunc 4 = ⟨hpV o0 o1 o3 e0 s, []⟩ := by
 refine fn_of (okx [] [42, 43]) mixed (A := A43) 0 Try.func43 rfl ?_
 (repeat' (first | exact rfl | ((conv => whnf); first | exact rfl | exact ⟨rfl, rfl⟩ | refine go1 ?_ | (intro ep) | fail)))
 all_goals (conv => whnf)
 refine loopX (okx [] [42, 43]) mixed (A := A43) [0, 1, 4, 7] [0, 1, 2, 3] (S := { b : Nat // b ≤ 5 })
  (fr := fun x => frOf 0 52 [(0, .optr (.s 2) e0 25 0 0), (1, .int .i64 t), (4, .int .i64 (crA s t x.1)), (7, .int .i64 (x.1 : Int))])
  (h := fun x => ⟨hpV o0 o1 o3 e0 s, []⟩) (μ := fun x => 5 - x.1) ⟨0, by omega⟩ ?_ ?_
  [4] [0, 1, 2, 3] (S' := Unit) (X := fun _ => 0) (frX := fun x => frOf 0 52 [(4, .int .i64 (crs s t))]) (hX := fun x => ⟨hpV o0 o1 o3 e0 s, []⟩)
  (R := fun _ _ => False) ?_ (fun _ _ h => h.elim) ?_
 ·exact rfl
 ·exact rfl
 ·rintro ⟨b, hb⟩
  have hA := crA_bd s t b hb
  show aexR _ _ _ (frOf 0 52 [(0, .optr (.s 2) e0 25 0 0), (1, .int .i64 t), (4, .int .i64 (crA s t b)), (7, .int .i64 (b : Int))]) ⟨hpV o0 o1 o3 e0 s, []⟩ _
  (conv => whnf)
  refine ifB (fun g1 => ?_) (fun g1 => ?_)
  ·simp only [decide_eq_true_eq] at g1
   (repeat' (first | exact rfl | ((conv => whnf); first | exact rfl | exact ⟨rfl, rfl⟩ | refine go1 ?_ | (intro ep) | fail)))
   all_goals (conv => whnf)
   refine loopX (okx [] [42, 43]) mixed (A := A43) [0, 1, 4, 5, 7, 10, 11] [0, 1, 2, 3] (S := { a : Nat // a ≤ b })
    (fr := fun x => frOf 0 52 [(0, .optr (.s 2) e0 25 0 0), (1, .int .i64 t), (4, .int .i64 (crA s t b + crB s t b x.1)), (5, .int .i64 (b : Int)), (7, .int .i64 (b : Int)), (10, .int .i64 (b : Int)), (11, .int .i64 (x.1 : Int))])
    (h := fun x => ⟨hpV o0 o1 o3 e0 s, []⟩) (μ := fun x => b - x.1) ⟨0, by omega⟩ ?_ ?_
    [0, 1, 4, 7] [0, 1, 2, 3] (S' := Unit) (X := fun _ => 2) (frX := fun x => frOf 0 52 [(0, .optr (.s 2) e0 25 0 0), (1, .int .i64 t), (4, .int .i64 (crA s t b + crB s t b b)), (7, .int .i64 (b : Int))])
    (hX := fun x => ⟨hpV o0 o1 o3 e0 s, []⟩) (R := fun _ _ => False) ?_ (fun _ _ h => h.elim) ?_
   ·show maskF 0 _ _ = frOf 0 52 [(0, .optr (.s 2) e0 25 0 0), (1, .int .i64 t), (4, .int .i64 (crA s t b + 0)), (5, .int .i64 (b : Int)), (7, .int .i64 (b : Int)), (10, .int .i64 (b : Int)), (11, .int .i64 0)]
    rw [Int.add_zero]
    exact rfl
   ·exact rfl
   ·rintro ⟨a, ha⟩
    have hB := crB_bd s t b a
    have hI := ind_bd t (s.get a) (s.get b)
    have hS : crB s t b (a + 1) = crB s t b a + ind t (s.get a) (s.get b) := rfl
    show aexR _ _ _ (frOf 0 52 [(0, .optr (.s 2) e0 25 0 0), (1, .int .i64 t), (4, .int .i64 (crA s t b + crB s t b a)), (5, .int .i64 (b : Int)), (7, .int .i64 (b : Int)), (10, .int .i64 (b : Int)), (11, .int .i64 (a : Int))]) ⟨hpV o0 o1 o3 e0 s, []⟩ _
    generalize hQ : crA s t b + crB s t b a = q at hA hB
    have hq : 0 ≤ q ∧ q ≤ 30 := by omega
    have hT : ∀ z : Int, z = q + ind t (s.get a) (s.get b) → z = crA s t b + crB s t b (a + 1) := fun z hz => by rw [hz, hS]; omega
    clear hB
    clear hA
    clear hI
    clear hS
    by_cases g2 : a < b
    ·have k1 := row_t s (show a < 5 by omega)
     have k2 := row_t s (show b < 5 by omega)
     have k3 := row_p s (show a < 5 by omega)
     have k4 := row_p s (show b < 5 by omega)
     unfold ind at hT
     by_cases c1 : t < (s.get a).t ∧ t < (s.get b).t ∧ (s.get a).p < (s.get b).p
     ·rw [if_pos c1] at hT
      (repeat' (first | exact rfl | ((conv => whnf); first | refine optA k1 ?_ | refine optA k2 ?_ | refine optA k3 ?_ | refine optA k4 ?_ | exact rfl | exact ⟨rfl, rfl⟩ | refine go1 ?_ | (intro ep) | (refine ifB (fun hb => ?_) (fun hb => ?_) <;> (try simp only [qs] at hb) <;> (try simp (disch := omega) only [wrapI] at hb) <;> (try (exfalso; omega))) | fail)))
      all_goals (conv => whnf)
      refine back_of ⟨a + 1, by omega⟩ ⟨?_, rfl, by simp only; omega⟩
      rw [← hT (q + 1) rfl]
      (first | exact rfl | (simp (disch := omega) only [wrapI]; exact rfl))
     ·rw [if_neg c1] at hT
      (repeat' (first | exact rfl | ((conv => whnf); first | refine optA k1 ?_ | refine optA k2 ?_ | refine optA k3 ?_ | refine optA k4 ?_ | exact rfl | exact ⟨rfl, rfl⟩ | refine go1 ?_ | (intro ep) | (refine ifB (fun hb => ?_) (fun hb => ?_) <;> (try simp only [qs] at hb) <;> (try simp (disch := omega) only [wrapI] at hb) <;> (try (exfalso; omega))) | fail)))
      all_goals (conv => whnf)
      all_goals refine back_of ⟨a + 1, by omega⟩ ⟨?_, rfl, by simp only; omega⟩
      all_goals rw [← hT q (by omega)]
      all_goals (first | exact rfl | (simp (disch := omega) only [wrapI]; exact rfl))
    ·have e : a = b := by omega
     subst e
     clear hT
     (conv => whnf)
     refine ifB (fun g3 => ?_) (fun g3 => ?_)
     ·simp only [decide_eq_true_eq] at g3; omega
     (repeat' (first | exact rfl | ((conv => whnf); first | exact rfl | exact ⟨rfl, rfl⟩ | refine go1 ?_ | (intro ep) | fail)))
     all_goals (conv => whnf)
     refine back_of () ⟨rfl, ?_, rfl⟩
     rw [hQ]
     exact rfl
   ·rintro ⟨⟩
    (repeat' (first | exact rfl | ((conv => whnf); first | exact rfl | exact ⟨rfl, rfl⟩ | refine go1 ?_ | (intro ep) | fail)))
    all_goals (conv => whnf)
    exact back_of ⟨b + 1, by omega⟩ ⟨by (first | exact rfl | (simp (disch := omega) only [wrapI]; exact rfl)), rfl, by simp only; omega⟩
  ·simp only [decide_eq_false_iff_not] at g1
   have e : b = 5 := by omega
   subst e
   (repeat' (first | exact rfl | ((conv => whnf); first | exact rfl | exact ⟨rfl, rfl⟩ | refine go1 ?_ | (intro ep) | fail)))
   all_goals (conv => whnf)
   exact back_of () ⟨rfl, rfl, rfl⟩
 ·rintro ⟨⟩
  (repeat' (first | exact rfl | ((conv => whnf); first | exact rfl | exact ⟨rfl, rfl⟩ | refine go1 ?_ | (intro ep) | fail)))
end Go.Ab.V

namespace Go.Ab.V
open Go.Proofs
def evt (x : Lm) : St → Int → Nat → Nat → List Nt → List Int → Sum Nat (St × Int)
 | s, m, _, 0, _, _ => .inr (s, m)
 | s, m, i, c + 1, n :: r, k :: q => match join x s n k with
  | none => .inl i
  | some d => evt x d.2 (m + d.1) (i + 1) c r q
 | _, _, i, _ + 1, _, _ => .inl i
def frN (l : List Nt) (a : Nat) : Int := ((l[a]?).map (·.f)).getD 0
def vals (x : Lm) (l : List Nt) (ks : List Int) : St → Int → Int → List (Nat × Nat) → Int × Int × Int × Int
 | _, c, m, [] => (0, 0, c, m)
 | s, c, m, (a, n) :: r => match evt x s m a n (l.drop a) (ks.drop a) with
  | .inl j => ((j : Int), 71, 0, 0)
  | .inr d => if x.cross < crs d.1 (frN l a) then ((a : Int) + n - 1, 71, 0, 0) else vals x l ks d.1 (c + crs d.1 (frN l a)) d.2 r
def valid (x : Lm) (l : List Nt) (ks : List Int) : Int × Int × Int × Int :=
 if both x l ≠ 0 then (0, both x l, 0, 0) else if ks.length ≠ l.length then (0, 1, 0, 0) else vals x l ks st0 0 0 (segR 0 l)
theorem dst_bd {p q : Int} (h : 0 ≤ p ∧ p ≤ 127) (h2 : 0 ≤ q ∧ q ≤ 127) : 0 ≤ dst p q ∧ dst p q ≤ 127 := by unfold dst; split <;> omega
theorem join_ok {x : Lm} {s : St} {n : Nt} {v : Int} {d : Int × St} (h : join x s n v = some d) (h5 : x.lo.length ≤ 5) (hs : s.ok) (hn : ntFit n) : d.2.ok ∧ 0 ≤ d.1 ∧ d.1 ≤ 127 := by
 unfold join at h
 split at h
 ·cases h
 rename_i c1
 split at h
 ·cases h
 split at h
 ·cases h
 have hb := hs (v - 1).toNat
 have hk : (v - 1).toNat < 5 := by omega
 have hn2 := hn
 unfold ntFit at hb hn2
 have hd := dst_bd (p := n.p) (q := (s.get (v - 1).toNat).p) ⟨hn2.1, hn2.2.1⟩ ⟨hb.1, hb.2.1⟩
 split at h
 ·split at h
  ·cases h
  ·cases h
   exact ⟨St.set_ok hs hk hn, hd⟩
 ·cases h
  exact ⟨St.set_ok hs hk hn, by simp, by simp⟩
structure NtsOk (l : List Nt) : Prop where
 len : l.length ≤ 5600
 fit : ∀ n ∈ l, ¬ ntBad n
theorem chkNs_fit : ∀ (l : List Nt) (b : Option Nt), chkNs b l = 0 → ∀ n ∈ l, ¬ ntBad n
 | [], b, _, n, h => by simp at h
 | m :: r, none, h, n, hn => by
  unfold chkNs at h
  split at h
  ·simp at h
  ·rename_i c
   rcases List.mem_cons.1 hn with rfl | h2
   ·exact c
   ·exact chkNs_fit r (some m) h n h2
 | m :: r, some b, h, n, hn => by
  unfold chkNs at h
  split at h
  ·simp at h
  ·rename_i c
   split at h
   ·simp at h
   ·rcases List.mem_cons.1 hn with rfl | h2
    ·exact c
    ·exact chkNs_fit r (some m) h n h2
theorem ntsOk_of {l : List Nt} (h : chkN l = 0) : NtsOk l := by
 unfold chkN at h
 split at h
 ·simp at h
 ·exact ⟨by omega, chkNs_fit l none h⟩
theorem fit_of {n : Nt} (h : ¬ ntBad n) : ntFit n := by unfold ntBad at h; unfold ntFit; omega
structure LmOk (x : Lm) : Prop where
 lo1 : 1 ≤ x.lo.length
 lo5 : x.lo.length ≤ 5
 hi : x.hi.length = x.lo.length
 leap : 0 ≤ x.leap ∧ x.leap ≤ 127
 gap : 0 ≤ x.gap ∧ x.gap ≤ 262144
 cross : 0 ≤ x.cross ∧ x.cross ≤ 10
 prs : prs x.lo x.hi = 0
theorem lmOk_of {x : Lm} (h : chkL x = 0) : LmOk x := by
 unfold chkL at h
 split at h
 ·simp at h
 split at h
 ·simp at h
 split at h
 ·simp at h
 split at h
 ·simp at h
 split at h
 ·simp at h
 exact ⟨by omega, by omega, by omega, by omega, by omega, by omega, h⟩
theorem chain_le : ∀ {L o : Nat} {r : List (Nat × Nat)}, Chain L o r → o ≤ L
 | L, o, [], h => Nat.le_of_eq h
 | L, o, (a, n) :: r, h => by have := chain_le h.2.2; omega
theorem evt_cons {x : Lm} {s : St} {m : Int} {i c : Nat} {l : List Nt} {ks : List Int} (h1 : i < l.length) (h2 : i < ks.length) : evt x s m i (c + 1) (l.drop i) (ks.drop i) = match join x s l[i] ks[i] with
  | none => .inl i
  | some d => evt x d.2 (m + d.1) (i + 1) c (l.drop (i + 1)) (ks.drop (i + 1)) := by
 rw [List.drop_eq_getElem_cons h1, List.drop_eq_getElem_cons h2, evt]
theorem frN_at {l : List Nt} {a : Nat} (h : a < l.length) : frN l a = l[a].f := by unfold frN; simp [h]
end Go.Ab.V

namespace Go.Ab.V
open Go.Proofs
abbrev lz (n : List Nt) : AV := .lslc 1 ((segR 0 n).map (segA n)) 0 (segR 0 n).length false
end Go.Ab.V

namespace Go.Ab.V
open Go.Proofs
theorem chkNs_adj : ∀ (l : List Nt) (b : Nt), chkNs (some b) l = 0 → ∀ (i : Nat) (h : i < l.length), ¬ ntOff ((b :: l)[i]'(by simp; omega)) l[i]
 | [], b, _, i, h => by simp at h
 | m :: r, b, h, i, hi => by
  unfold chkNs at h
  split at h
  ·simp at h
  ·split at h
   ·simp at h
   ·rename_i c
    cases i with
    | zero => exact c
    | succ i => exact chkNs_adj r m h i (by simpa using hi)
theorem nts_adj {l : List Nt} (h : chkN l = 0) {i : Nat} (hi : i + 1 < l.length) : ¬ ntOff l[i] l[i + 1] := by
 unfold chkN at h
 split at h
 ·simp at h
 cases l with
 | nil => simp at hi
 | cons m r =>
  unfold chkNs at h
  split at h
  ·simp at h
  ·exact chkNs_adj r m h i (by simpa using hi)
theorem nts_mono {l : List Nt} (h : chkN l = 0) {i : Nat} : ∀ {j : Nat} (hij : i ≤ j) (hj : j < l.length), l[i].e ≤ l[j].e
 | 0, hij, hj => by
           have : i = 0 := by omega
           subst this; exact Int.le_refl _
 | j + 1, hij, hj => by
  by_cases e : i = j + 1
  ·subst e; exact Int.le_refl _
  ·have h1 := nts_mono h (i := i) (j := j) (by omega) (by omega)
   have h2 := nts_adj h (i := j) hj
   unfold ntOff at h2
   omega
structure SegOk (l : List Nt) (a n : Nat) : Prop where
 pos : 0 < n
 le : a + n ≤ l.length
 same : ∀ (i : Nat) (h : i < n), (l[a + i]'(by omega)).e = (l[a]'(by omega)).e
 before : ∀ (h : 0 < a), (l[a - 1]'(by omega)).e ≠ (l[a]'(by omega)).e
theorem segR_ok (l : List Nt) : ∀ (k o : Nat), l.length - o ≤ k → (∀ (h : 0 < o) (h2 : o < l.length), l[o - 1].e ≠ l[o].e) → ∀ x ∈ segR o (l.drop o), SegOk l x.1 x.2
 | k, o, hk, hb, x, hx => by
  by_cases ho : o < l.length
  ·rw [segR_at l ho] at hx
   have hp := run1_pos l ho
   have hle := run1_le l[o].e (l.drop o)
   rw [List.length_drop] at hle
   obtain ⟨q, hq⟩ : ∃ q, run1 l[o].e (l.drop o) = q := ⟨_, rfl⟩
   rw [hq] at hx hp hle
   have hat : ∀ (i : Nat) (h : i < q), (l[o + i]'(by omega)).e = l[o].e := fun i h => by
    obtain ⟨h1, h2⟩ := run1_at (e := l[o].e) (l := l.drop o) (k := i) (by rw [hq]; exact h)
    rw [List.getElem_drop] at h2
    exact h2
   have hend : ∀ (h : o + q < l.length), (l[o + q]'h).e ≠ l[o].e := fun h => by
    have := run1_end (e := l[o].e) (l := l.drop o) (by rw [List.length_drop, hq]; omega)
    rw [List.getElem_drop] at this
    simp only [hq] at this
    exact this
   rcases List.mem_cons.1 hx with rfl | hx
   ·exact ⟨hp, by simp only; omega, hat, fun h => hb h ho⟩
   ·cases k with
    | zero => omega
    | succ k =>
     refine segR_ok l k (o + q) (by omega) (fun h h2 => ?_) x hx
     have h3 := hat (q - 1) (by omega)
     have h4 := hend h2
     have e : o + q - 1 = o + (q - 1) := by omega
     simp only [e]
     rw [h3]
     exact fun x => h4 x.symm
  ·rw [segR_end l ho] at hx
   simp at hx
theorem segOk_lt {l : List Nt} (h : chkN l = 0) {a n : Nat} (s : SegOk l a n) {i : Nat} (hi : i < a) (ha : a < l.length) : (l[i]'(by omega)).e < l[a].e := by
 have h1 := nts_mono h (i := i) (j := a - 1) (by omega) (by omega)
 have h2 := nts_mono h (i := a - 1) (j := a) (by omega) ha
 have h3 := s.before (by omega)
 omega
def look (l : List Nt) (z : Int) : Nt := if z = 0 then nt0 else (l[(z - 1).toNat]?).getD nt0
def lookS (l : List Nt) (s : List Int) : St := ⟨look l (s.getD 0 0), look l (s.getD 1 0), look l (s.getD 2 0), look l (s.getD 3 0), look l (s.getD 4 0)⟩
theorem lookS_get (l : List Nt) (s : List Int) {k : Nat} (hk : k < 5) : (lookS l s).get k = look l (s.getD k 0) := by
 obtain rfl | rfl | rfl | rfl | rfl : k = 0 ∨ k = 1 ∨ k = 2 ∨ k = 3 ∨ k = 4 := by omega
 all_goals rfl
theorem St.ext_get {s t : St} (h : ∀ k, k < 5 → s.get k = t.get k) : s = t := by
 obtain ⟨a, b, c, d, e⟩ := s
 obtain ⟨a', b', c', d', e'⟩ := t
 have h0 := h 0 (by omega)
 have h1 := h 1 (by omega)
 have h2 := h 2 (by omega)
 have h3 := h 3 (by omega)
 have h4 := h 4 (by omega)
 simp only [St.get] at h0 h1 h2 h3 h4
 rw [h0, h1, h2, h3, h4]
theorem lookS_set (l : List Nt) {s : List Int} (hs : s.length = 5) {k : Nat} (hk : k < 5) (z : Int) : lookS l (s.set k z) = (lookS l s).set k (look l z) := by
 refine St.ext_get fun j hj => ?_
 rw [lookS_get l _ hj, St.get_set _ hk]
 split
 ·rename_i e; subst e; rw [List.getD_eq_getElem?_getD, List.getElem?_set_self (by omega)]; rfl
 ·rename_i e
  rw [lookS_get l _ hj, List.getD_eq_getElem?_getD, List.getElem?_set_ne (by omega), List.getD_eq_getElem?_getD]
theorem look_at (l : List Nt) {i : Nat} (h : i < l.length) : look l ((i : Int) + 1) = l[i] := by
 unfold look
 rw [if_neg (by omega), show ((i : Int) + 1 - 1).toNat = i by omega]
 simp [h]
def nxt : List Int → Nat → Nat → List Int → List Int
 | s, _, 0, _ => s
 | s, i, c + 1, v :: q => nxt (s.set (v - 1).toNat ((i : Int) + 1)) (i + 1) c q
 | s, _, _ + 1, [] => s
theorem nxt_cons {s : List Int} {i c : Nat} {ks : List Int} (h : i < ks.length) : nxt s i (c + 1) (ks.drop i) = nxt (s.set (ks[i] - 1).toNat ((i : Int) + 1)) (i + 1) c (ks.drop (i + 1)) := by
 rw [List.drop_eq_getElem_cons h, nxt]
structure NxOk (L : Nat) (s : List Int) (a k : Nat) (nx : List Int) : Prop where
 len : nx.length = 5
 bd : ∀ i, i < 5 → 0 ≤ nx.getD i 0 ∧ nx.getD i 0 ≤ k
 old : ∀ i, i < 5 → nx.getD i 0 ≤ a → nx.getD i 0 = s.getD i 0
 out : ∀ i, i < 5 → L ≤ i → nx.getD i 0 = 0
theorem NxOk.set {L : Nat} {s : List Int} {a k : Nat} {nx : List Int} (h : NxOk L s a k nx) (hak : a ≤ k) {j : Nat} (hj : j < L) (hL : L ≤ 5) : NxOk L s a (k + 1) (nx.set j ((k : Int) + 1)) := by
 have hl := h.len
 have g : ∀ i, (nx.set j ((k : Int) + 1)).getD i 0 = if i = j then (k : Int) + 1 else nx.getD i 0 := fun i => by
  rw [List.getD_eq_getElem?_getD, List.getD_eq_getElem?_getD]
  split
  ·rename_i e; subst e; rw [List.getElem?_set_self (by omega)]; rfl
  ·rw [List.getElem?_set_ne (by omega)]
 refine ⟨by simp [hl], fun i hi => ?_, fun i hi => ?_, fun i hi hLi => ?_⟩
 ·rw [g]; have := h.bd i hi; split <;> omega
 ·rw [g]; split
  ·intro; omega
  ·exact h.old i hi
 ·rw [g, if_neg (by omega)]; exact h.out i hi hLi
theorem join_ref {x : Lm} {l : List Nt} {ks : List Int} (hx : LmOk x) (hc : chkN l = 0) {a n k : Nat} (sg : SegOk l a n) {s nx : List Int} (h : NxOk x.lo.length s a k nx) (h1 : a ≤ k) (h2 : k < a + n) (hk : k < l.length) (v : Int) :
  join x (lookS l nx) l[k] v = if v < 1 ∨ (x.lo.length : Int) < v then none else
   if l[k].p < x.lo.getD (v - 1).toNat 0 ∨ x.hi.getD (v - 1).toNat 0 < l[k].p then none else
   if (a : Int) < nx.getD (v - 1).toNat 0 then none else
   if 0 < nx.getD (v - 1).toNat 0 ∧ l[k].f ≤ (look l (nx.getD (v - 1).toNat 0)).t + x.gap then
    (if x.leap < dst l[k].p (look l (nx.getD (v - 1).toNat 0)).p then none else some (dst l[k].p (look l (nx.getD (v - 1).toNat 0)).p, lookS l (nx.set (v - 1).toNat ((k : Int) + 1))))
   else some (0, lookS l (nx.set (v - 1).toNat ((k : Int) + 1))) := by
 unfold join
 by_cases c1 : v < 1 ∨ (x.lo.length : Int) < v
 ·rw [if_pos c1, if_pos c1]
 rw [if_neg c1, if_neg c1]
 by_cases c2 : l[k].p < x.lo.getD (v - 1).toNat 0 ∨ x.hi.getD (v - 1).toNat 0 < l[k].p
 ·rw [if_pos c2, if_pos c2]
 rw [if_neg c2, if_neg c2]
 have hL := hx.lo5
 have hj : (v - 1).toNat < x.lo.length := by omega
 generalize (v - 1).toNat = j at hj
 rw [lookS_get l nx (by omega)]
 have hb := h.bd j (by omega)
 rw [lookS_set l h.len (by omega), look_at l hk]
 have hNN := ntsOk_of hc
 have ha : a < l.length := by have := sg.le; have := sg.pos; omega
 have hke : l[k].e = l[a].e := by
  have := sg.same (k - a) (by omega)
  simp only [show a + (k - a) = k by omega] at this
  exact this
 generalize nx.getD j 0 = z at hb
 by_cases hz : z = 0
 ·subst hz
  rw [if_neg (by simp [look, nt0]), if_neg (by simp [look, nt0]), if_neg (by omega), if_neg (by omega)]
 ·have hzl : (z - 1).toNat < l.length := by omega
  have hlk : look l z = l[(z - 1).toNat] := by unfold look; rw [if_neg hz, List.getElem?_eq_getElem hzl]; rfl
  have hnb := hNN.fit _ (List.getElem_mem hzl)
  have ht : 0 < l[(z - 1).toNat].t := by unfold ntBad at hnb; omega
  rw [hlk]
  by_cases c3 : (a : Int) < z
  ·have he : l[(z - 1).toNat].e = l[a].e := by
    have := sg.same ((z - 1).toNat - a) (by omega)
    simp only [show a + ((z - 1).toNat - a) = (z - 1).toNat by omega] at this
    exact this
   rw [if_pos c3, if_pos ⟨ht, by rw [he, hke]⟩]
  ·have he := segOk_lt hc sg (i := (z - 1).toNat) (by omega) ha
   have n1 : ¬ (0 < l[(z - 1).toNat].t ∧ l[(z - 1).toNat].e = l[k].e) := by omega
   rw [if_neg c3, if_neg n1]
   by_cases c4 : l[k].f ≤ l[(z - 1).toNat].t + x.gap
   ·have p1 : 0 < l[(z - 1).toNat].t ∧ l[k].f ≤ l[(z - 1).toNat].t + x.gap := ⟨ht, c4⟩
    have p2 : 0 < z ∧ l[k].f ≤ l[(z - 1).toNat].t + x.gap := ⟨by omega, c4⟩
    rw [if_pos p1, if_pos p2]
   ·have p1 : ¬ (0 < l[(z - 1).toNat].t ∧ l[k].f ≤ l[(z - 1).toNat].t + x.gap) := fun y => c4 y.2
    have p2 : ¬ (0 < z ∧ l[k].f ≤ l[(z - 1).toNat].t + x.gap) := fun y => c4 y.2
    rw [if_neg p1, if_neg p2]
end Go.Ab.V

namespace Go.Ab.V
open Go.Proofs
def arr (s : List Int) : List AV := s.map (.int .i64)
theorem evt_nxt {x : Lm} {l : List Nt} {ks : List Int} (hx : LmOk x) (hc : chkN l = 0) {a n : Nat} (sg : SegOk l a n) (hkl : ks.length = l.length) {s : List Int} {d : St × Int} :
  ∀ (c k : Nat) (nx : List Int) (m : Int), NxOk x.lo.length s a k nx → a ≤ k → k + c = a + n → evt x (lookS l nx) m k c (l.drop k) (ks.drop k) = .inr d →
   lookS l (nxt nx k c (ks.drop k)) = d.1 ∧ NxOk x.lo.length s a (a + n) (nxt nx k c (ks.drop k))
 | 0, k, nx, m, h, h1, h2, he => by
  unfold evt at he
  cases he
  unfold nxt
  exact ⟨rfl, by rw [← h2]; exact h⟩
 | c + 1, k, nx, m, h, h1, h2, he => by
  have hkl' : k < l.length := by have := sg.le; omega
  rw [evt_cons hkl' (by omega), join_ref (ks := ks) hx hc sg h h1 (by omega) hkl'] at he
  rw [nxt_cons (by omega)]
  generalize hv : ks[k] = v at he
  have L5 := hx.lo5
  by_cases c1 : v < 1 ∨ (x.lo.length : Int) < v
  ·rw [if_pos c1] at he; cases he
  rw [if_neg c1] at he
  have h3 := h.set h1 (j := (v - 1).toNat) (by omega) L5
  split at he
  ·cases he
  rename_i d2 hd
  split at hd
  ·cases hd
  split at hd
  ·cases hd
  have key : d2.2 = lookS l (nx.set (v - 1).toNat ((k : Int) + 1)) := by
   split at hd
   ·split at hd
    ·cases hd
    ·cases hd; rfl
   ·cases hd; rfl
  rw [key] at he
  exact evt_nxt hx hc sg hkl c (k + 1) _ _ h3 (by omega) (by omega) he
def turnV (x : Lm) (n : List Nt) (ks : List Int) (s : List Int) (a cnt : Nat) : AV := match evt x (lookS n s) 0 a cnt (n.drop a) (ks.drop a) with
 | .inl j => .tup [.agg (arr s), .int .i64 0, .int .i64 0, .int .i64 (j : Int)]
 | .inr d => if x.cross < crs d.1 (frN n a) then .tup [.agg (arr s), .int .i64 0, .int .i64 0, .int .i64 ((a : Int) + cnt - 1)] else
  .tup [.agg (arr (nxt s a cnt (ks.drop a))), .int .i64 (crs d.1 (frN n a)), .int .i64 d.2, .int .i64 (-1)]
theorem l5 {l : List Int} (h : l.length = 5) : ∃ a b c d e, l = [a, b, c, d, e] := by
 match l, h with
 | [a, b, c, d, e], _ => exact ⟨a, b, c, d, e, rfl⟩
end Go.Ab.V
