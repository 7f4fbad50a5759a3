/-
  What is proved here serves the law's text: each part says its own claim and its conditions. No condition is left open.
-/
import Derived.Test.YthdhhhgjdegafaaKR
import Derived.Test.YthdhhhgjdegafaaKQ
import Derived.Test.YthdhhhgjdegafaaKS
import Derived.Test.YthdhhhgjdegafaaKV
import Derived.Test.YthdhhhgjdegafaaKU
import Derived.Test.YthdhhhgjdegafaaKW
set_option linter.unusedSimpArgs false
set_option linter.unusedVariables false

namespace Go.Ab.V
open Go.Proofs
theorem nx0 (L : Nat) : NxOk L [0, 0, 0, 0, 0] 0 0 [0, 0, 0, 0, 0] := by
 have h : ∀ i, i < 5 → [(0 : Int), 0, 0, 0, 0].getD i 0 = 0 := fun i hi => by
  obtain rfl | rfl | rfl | rfl | rfl : i = 0 ∨ i = 1 ∨ i = 2 ∨ i = 3 ∨ i = 4 := by omega
  all_goals rfl
 exact ⟨rfl, fun i hi => by rw [h i hi]; simp, fun i hi _ => rfl, fun i hi _ => h i hi⟩
theorem evt_bd {x : Lm} (h5 : x.lo.length ≤ 5) : ∀ (c i : Nat) (s : St) (m : Int) (l : List Nt) (ks : List Int) (d : St × Int), s.ok → (∀ n ∈ l, ntFit n) → evt x s m i c l ks = .inr d → m ≤ d.2 ∧ d.2 ≤ m + 127 * c
 | 0, i, s, m, l, ks, d, hs, hl, h => by
  unfold evt at h; cases h; simp
 | c + 1, i, s, m, [], ks, d, hs, hl, h => by simp [evt] at h
 | c + 1, i, s, m, n :: r, [], d, hs, hl, h => by simp [evt] at h
 | c + 1, i, s, m, n :: r, k :: q, d, hs, hl, h => by
  unfold evt at h
  cases hj : join x s n k with
  | none => rw [hj] at h; simp at h
  | some d2 =>
   rw [hj] at h
   simp only at h
   obtain ⟨h1, h2, h3⟩ := join_ok hj h5 hs (hl n (by simp))
   have := evt_bd h5 c (i + 1) d2.2 (m + d2.1) r q d h1 (fun x hx => hl x (by simp [hx])) h
   omega
theorem lookS_ok {l : List Nt} (hl : ∀ n ∈ l, ntFit n) (s : List Int) : (lookS l s).ok := by
 have h : ∀ z, ntFit (look l z) := fun z => by
  unfold look
  split
  ·unfold ntFit nt0; decide
  ·cases hh : l[(z - 1).toNat]? with
   | none => unfold ntFit nt0; simp
   | some n => exact hl n (List.mem_of_getElem? hh)
 intro k
 unfold St.get lookS
 split <;> first | exact h _ | (unfold ntFit nt0; decide)
end Go.Ab.V

namespace Go.Ab.V
open Go.Proofs
def okC (l : List Int) (v : Int) : Bool := !l.contains v
def upto (a b : Nat) : List Int := (List.range (b - a)).map fun (k : Nat) => ((a + k : Nat) : Int) + 1
def extU (L : Nat) (C : List (List Int)) : List (List Int) := extL (upto 0 L) okC C
def chC (L : Nat) : Nat → List (List Int) → List (List Int)
 | 0, C => C
 | k + 1, C => chC L k (extU L C)
theorem pureRows_of1 {rows : List (List AV)} (h : (rows.all fun r => r.all AV.pure1) = true) : pureRows rows :=
 fun row hr c hc => List.all_eq_true.1 (List.all_eq_true.1 h row hr) c hc
end Go.Ab.V

namespace Go.Ab.V
open Go.Proofs
def sitZ (x : Lm) (n : List Nt) (f z : Int) : Int := if 0 < z ∧ (look n z).t + x.gap < f then 0 else z
def sitS (x : Lm) (n : List Nt) (f : Int) (s : List Int) : List Int := s.map (sitZ x n f)
theorem idxA_none {α : Type} [DecidableEq α] {D : List α} {s : α} (hno : ∀ j, j < D.length → D[j]? ≠ some s) : idxA s D = D.length := by
 by_cases c : s ∈ D
 ·exact absurd (idxA_get c) (hno _ (idxA_lt c))
 ·unfold idxA
  rw [List.findIdx_eq_length]
  intro x hx
  simp only [beq_eq_false_iff_ne, ne_eq]
  intro e
  rw [e] at hx
  exact c hx
end Go.Ab.V

namespace Go.Ab.V
open Go.Proofs
structure ZOk (L k : Nat) (s : List Int) : Prop where
 len : s.length = 5
 bd : ∀ i, i < 5 → 0 ≤ s.getD i 0 ∧ s.getD i 0 ≤ k
 out : ∀ i, i < 5 → L ≤ i → s.getD i 0 = 0
theorem ZOk.nx {L k : Nat} {s : List Int} (h : ZOk L k s) : NxOk L s k k s := ⟨h.len, h.bd, fun _ _ _ => rfl, h.out⟩
theorem NxOk.z {L a k : Nat} {s nx : List Int} (h : NxOk L s a k nx) : ZOk L k nx := ⟨h.len, h.bd, h.out⟩
theorem ZOk.mem {L k : Nat} {s : List Int} (h : ZOk L k s) : ∀ z ∈ s, 0 ≤ z ∧ z ≤ k := by
 intro z hz
 obtain ⟨i, hi⟩ := List.mem_iff_getElem?.1 hz
 have hl := (List.getElem?_eq_some_iff.1 hi).1
 rw [h.len] at hl
 have := h.bd i hl
 rw [List.getD_eq_getElem?_getD, hi] at this
 exact this
theorem ZOk.zero (L : Nat) : ZOk L 0 [0, 0, 0, 0, 0] := (nx0 L).z
theorem sitS_ok {L k : Nat} {s : List Int} (h : ZOk L k s) (x : Lm) (n : List Nt) (f : Int) : ZOk L k (sitS x n f s) := by
 have g : ∀ i, i < 5 → (sitS x n f s).getD i 0 = sitZ x n f (s.getD i 0) := fun i hi => by
  have hl := h.len
  unfold sitS
  rw [List.getD_eq_getElem?_getD, List.getElem?_map, List.getD_eq_getElem?_getD, List.getElem?_eq_getElem (by omega)]
  rfl
 refine ⟨by unfold sitS; rw [List.length_map]; exact h.len, fun i hi => ?_, fun i hi hL => ?_⟩
 ·rw [g i hi]
  have := h.bd i hi
  unfold sitZ
  split <;> omega
 ·rw [g i hi, h.out i hi hL]
  unfold sitZ
  rw [if_neg (by omega)]
def padK (n : List Nt) (a : Nat) (l : List Int) : List Int := List.replicate a 0 ++ l ++ List.replicate (n.length - a - l.length) 0
theorem padK_len {n : List Nt} {a : Nat} {l : List Int} (h : a + l.length ≤ n.length) : (padK n a l).length = n.length := by
 unfold padK; simp; omega
def refT (x : Lm) (n : List Nt) (a cnt : Nat) (s : List Int) (l : List Int) : Option (List Int × Int × Int) := match evt x (lookS n s) 0 a cnt (n.drop a) ((padK n a l).drop a) with
 | .inl _ => none
 | .inr d => if x.cross < crs d.1 (frN n a) then none else some (nxt s a cnt ((padK n a l).drop a), crs d.1 (frN n a), d.2)
theorem refT_turn {x : Lm} {n : List Nt} {a cnt : Nat} {s l : List Int} (X : LmOk x) (hN : chkN n = 0) (sg : SegOk n a cnt) (hz : ZOk x.lo.length a s) (hl : l.length = cnt) :
  (refT x n a cnt s l = none ∧ ∃ j : Int, 0 ≤ j ∧ turnV x n (padK n a l) s a cnt = .tup [.agg (arr s), .int .i64 0, .int .i64 0, .int .i64 j]) ∨
  (∃ nx c m, refT x n a cnt s l = some (nx, c, m) ∧ turnV x n (padK n a l) s a cnt = .tup [.agg (arr nx), .int .i64 c, .int .i64 m, .int .i64 (-1)] ∧ ZOk x.lo.length (a + cnt) nx ∧ (0 ≤ c ∧ c ≤ 10) ∧ (0 ≤ m ∧ m ≤ 127 * cnt)) := by
 have hp := sg.pos
 have hle := sg.le
 have NN := ntsOk_of hN
 have hev := fun d => evt_nxt (d := d) X hN sg (padK_len (n := n) (a := a) (l := l) (by omega)) cnt a s 0 hz.nx (Nat.le_refl _) rfl
 have hbd := fun d => evt_bd (x := x) X.lo5 cnt a (lookS n s) 0 (n.drop a) ((padK n a l).drop a) d (lookS_ok (fun y hy => fit_of (NN.fit y hy)) s) (fun y hy => fit_of (NN.fit y (List.mem_of_mem_drop hy)))
 unfold refT turnV
 generalize evt x (lookS n s) 0 a cnt (n.drop a) ((padK n a l).drop a) = E at hev hbd
 cases E with
 | inl j => exact .inl ⟨rfl, j, by omega, rfl⟩
 | inr d =>
  obtain ⟨h1, h2⟩ := hev d rfl
  have h3 := hbd d rfl
  have hc := X.cross
  have hcb := crs_bd d.1 (frN n a)
  simp only
  by_cases c6 : x.cross < crs d.1 (frN n a)
  ·rw [if_pos c6, if_pos c6]
   exact .inl ⟨rfl, _, by omega, rfl⟩
  ·rw [if_neg c6, if_neg c6]
   exact .inr ⟨_, _, _, rfl, rfl, h2.z, by omega, by omega⟩
structure RMv where
 ks : List Int
 to : Nat
 c : Int
 m : Int
def rOpt (x : Lm) (n : List Nt) (a cnt : Nat) (s : List Int) (acc : List (List Int) × List RMv) (l : List Int) : List (List Int) × List RMv := match refT x n a cnt s l with
 | none => acc
 | some (nx, c, m) => if a + cnt < n.length then (putN acc.1 (sitS x n (frN n (a + cnt)) nx), acc.2 ++ [⟨l, idxA (sitS x n (frN n (a + cnt)) nx) acc.1, c, m⟩]) else (acc.1, acc.2 ++ [⟨l, 0, c, m⟩])
def rHere (x : Lm) (n : List Nt) (a cnt : Nat) (s : List Int) (opts : List (List Int)) (acc : List (List Int) × List RMv) : List (List Int) × List RMv := opts.foldl (rOpt x n a cnt s) acc
def rSt (x : Lm) (n : List Nt) (a cnt : Nat) (opts : List (List Int)) (acc : List (List Int) × List (List RMv)) (s : List Int) : List (List Int) × List (List RMv) := ((rHere x n a cnt s opts (acc.1, [])).1, acc.2 ++ [(rHere x n a cnt s opts (acc.1, [])).2])
def rMoves (x : Lm) (n : List Nt) (a cnt : Nat) (opts : List (List Int)) (st : List (List Int)) (acc : List (List Int) × List (List RMv)) : List (List Int) × List (List RMv) := st.foldl (rSt x n a cnt opts) acc
def optsR (x : Lm) (cnt : Nat) : List (List Int) := chC x.lo.length cnt [[]]
def rEv (x : Lm) (n : List Nt) (a cnt : Nat) (st : List (List Int)) : List (List Int) × List (List RMv) := rMoves x n a cnt (optsR x cnt) st ([], [])
abbrev Steps := List (List (List RMv))
def anyM (l : List (List RMv)) : Bool := l.any fun h => !h.isEmpty
def expR (x : Lm) (n : List Nt) : List (Nat × Nat) → Nat → List (List Int) → Steps → Steps × Int × Int
 | [], _, _, out => (out, 0, 0)
 | (a, cnt) :: r, i, st, out => if anyM (rEv x n a cnt st).2 = false then ([], (i : Int), 72) else if 1000 < (rEv x n a cnt st).1.length then ([], (i : Int), 2) else expR x n r (i + 1) (rEv x n a cnt st).1 (out ++ [(rEv x n a cnt st).2])
theorem chC_mem (L : Nat) : ∀ (j : Nat) (C : List (List Int)) (q : Nat), (∀ l ∈ C, l.length = q ∧ l.Nodup ∧ ∀ v ∈ l, 1 ≤ v ∧ v ≤ L) → ∀ l ∈ chC L j C, l.length = q + j ∧ l.Nodup ∧ ∀ v ∈ l, 1 ≤ v ∧ v ≤ L
 | 0, C, q, h, l, hl => h l hl
 | j + 1, C, q, h, l, hl => by
  have := chC_mem L j (extU L C) (q + 1) (fun l hl => ?_) l hl
  ·rw [show q + (j + 1) = q + 1 + j by omega]; exact this
  ·unfold extU extL at hl
   obtain ⟨l0, h0, h1⟩ := List.mem_flatMap.1 hl
   obtain ⟨v, hv, rfl⟩ := List.mem_map.1 h1
   obtain ⟨hv1, hv2⟩ := List.mem_filter.1 hv
   obtain ⟨a1, a2, a3⟩ := h l0 h0
   unfold upto at hv1
   obtain ⟨k, hk, rfl⟩ := List.mem_map.1 hv1
   have hk := List.mem_range.1 hk
   unfold okC at hv2
   simp only [Bool.not_eq_true', List.contains_eq_mem, decide_eq_false_iff_not] at hv2
   refine ⟨by simp [a1], ?_, fun u hu => ?_⟩
   ·rw [List.nodup_append]
    exact ⟨a2, by simp, fun x hx y hy e => hv2 (by rw [List.mem_singleton.1 hy] at e; rw [← e]; exact hx)⟩
   ·rcases List.mem_append.1 hu with h | h
    ·exact a3 u h
    ·rw [List.mem_singleton.1 h]; omega
end Go.Ab.V

namespace Go.Ab.V
open Go.Proofs
end Go.Ab.V
