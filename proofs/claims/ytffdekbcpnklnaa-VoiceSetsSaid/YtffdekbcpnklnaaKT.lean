/-
  What is proved here serves the law's text: each part says its own claim and its conditions. No condition is left open.
-/
import Derived.Test.YtffdekbcpnklnaaKS
import Derived.IntWalk
set_option linter.unusedSimpArgs false
set_option linter.unusedVariables false

/-
  All signs, in the document's words. No condition.
-/
namespace Go.Ab.V
open Go.Proofs

def A88 : Ann := fun r => match r with
  | 1 => { slots := [(2, 0)] }
  | 5 => { slots := [(8, 1), (9, 2)] }
  | 6 => { slots := [(2, 3), (3, 4)] }
  | _ => {}

set_option maxRecDepth 100000 in
set_option maxHeartbeats 4000000 in
theorem refAll_spec : PRet C.P 88 [] (.lslc 3 allRows 0 21 false) := by
  refine pret_of ok mixed (A := A88) 5 Try.func88 rfl ?_
  (repeat ((conv => whnf); first | exact rfl | exact ⟨rfl, rfl⟩ | refine ⟨rfl, ?_⟩ | refine ⟨by decide, ?_⟩ | refine ⟨by kernel_rfl, ?_⟩ | (intro ep)))
  (conv => whnf)
  refine loopU ok mixed (A := A88) 100 ?_
  (repeat ((conv => whnf); first | exact rfl | exact ⟨rfl, rfl⟩ | refine ⟨rfl, ?_⟩ | refine ⟨by decide, ?_⟩ | refine ⟨by kernel_rfl, ?_⟩ | (intro ep)))
  (conv => whnf)
  refine ⟨pureRows_of (by kernel_rfl), ?_⟩
  (conv => whnf)
  exact ⟨rfl, by kernel_rfl⟩

end Go.Ab.V

/-
  The fewest signs, as a table. No condition.
-/
namespace Go.Ab.V
open Go.Proofs

/-- the signs as plain data -/
def allS : List (Int × Bool × Bool) := allRows.map fun r => match r with
  | [.int _ v, .bool d, .bool t] => (v, d, t)
  | _ => (0, false, false)
def sRow (s : Int × Bool × Bool) : List AV := [.int .i64 s.1, .bool s.2.1, .bool s.2.2]
def tkS (s : Int × Bool × Bool) : Int := ticks s.1 s.2.1 s.2.2

theorem allRows_eq : allRows = allS.map sRow := rfl
theorem allS_len : allS.length = 21 := by decide

/-- one sign more in the account of a duration i, whose fewest are x so far -/
def better (tab : List Int) (i : Int) (x : Int) (t : Int) : Int :=
  let y := tab.getD (i - t).toNat (-1)
  if t ≤ i ∧ 0 ≤ y ∧ (x < 0 ∨ y + 1 < x) then y + 1 else x
def least (tab : List Int) (i : Int) : Int := (allS.map tkS).foldl (better tab i) (-1)
def table : Nat → List Int
  | 0 => [0]
  | n + 1 => table n ++ [least (table n) (n + 1)]

end Go.Ab.V

/-
  The document's table of fewest signs. No condition.
-/
namespace Go.Ab.V
open Go.Proofs

def A87 : Ann := fun r => match r with
  | 2 => { slots := [(2, 0)] }
  | _ => {}
def iRows (l : List Int) : List (List AV) := l.map fun x => [.int .i64 x]

theorem iRows_get {l : List Int} {i : Nat} {x : Int} (h : l[i]? = some x) : (iRows l)[i]? = some [.int .i64 x] := by
  simp [iRows, h]
theorem iRows_set (l : List Int) (i : Nat) (x : Int) : (iRows l).set i [.int .i64 x] = iRows (l.set i x) := by
  simp [iRows, List.map_set]
theorem table_len : ∀ n, (table n).length = n + 1 := by
  intro n
  induction n with
  | zero => rfl
  | succ n ih => simp [table, ih]

/-- the table of a duration i + 1 after k signs -/
def bestK (tab : List Int) (i : Int) (k : Nat) : Int := ((allS.map tkS).take k).foldl (better tab i) (-1)
def midT (n i k : Nat) : List Int := table i ++ [bestK (table i) ((i + 1 : Nat) : Int) k] ++ List.replicate (n - i - 1) 0
theorem midT_zero {n i : Nat} (h : i + 1 ≤ n) : (table i ++ List.replicate (n - i) 0).set (0 + (((i + 1 : Nat) : Int)).toNat) (-1) = midT n i 0 := by
  obtain ⟨m, hm⟩ : ∃ m, n - i = m + 1 := ⟨n - i - 1, by omega⟩
  have e : n - i - 1 = m := by omega
  rw [Nat.zero_add, Int.toNat_natCast]
  simp [List.set_append, midT, bestK, table_len, hm, List.replicate_succ]
theorem rep_get {n i : Nat} (h : i + 1 ≤ n) : (table i ++ List.replicate (n - i) 0)[0 + (((i + 1 : Nat) : Int)).toNat]? = some 0 := by
  rw [Nat.zero_add, Int.toNat_natCast, List.getElem?_append_right (by simp [table_len]), List.getElem?_replicate]
  simp [table_len]; omega
theorem midR_lo {n i k : Nat} {x : Int} (h : 0 ≤ x ∧ x ≤ i) : (iRows (midT n i k))[0 + x.toNat]? = some [.int .i64 ((table i).getD x.toNat (-1))] := by
  refine iRows_get ?_
  have hl : x.toNat < (table i).length := by rw [table_len]; omega
  rw [Nat.zero_add, midT, List.append_assoc, List.getElem?_append_left hl, List.getElem?_eq_getElem hl]
  simp [List.getD, hl]
theorem midR_hi {n i k j : Nat} (h : j = i + 1) : (iRows (midT n i k))[0 + ((j : Nat) : Int).toNat]? = some [.int .i64 (bestK (table i) ((i + 1 : Nat) : Int) k)] := by
  subst h
  refine iRows_get ?_
  rw [Nat.zero_add, Int.toNat_natCast, midT, List.append_assoc, List.getElem?_append_right (by rw [table_len]; omega), table_len]
  simp

theorem sRow_get {k : Nat} (h : k < 21) : ∃ v d t, allRows[k]? = some [.int .i64 v, .bool d, .bool t] ∧ (allS.map tkS)[k]? = some (ticks v d t) := by
  have hl : k < allS.length := by rw [allS_len]; exact h
  refine ⟨allS[k].1, allS[k].2.1, allS[k].2.2, ?_, ?_⟩
  · rw [allRows_eq, List.getElem?_map, List.getElem?_eq_getElem hl]; rfl
  · rw [List.getElem?_map, List.getElem?_eq_getElem hl]; rfl
theorem tk_pos {k : Nat} {x : Int} (h : (allS.map tkS)[k]? = some x) : 4 ≤ x ∧ x ≤ 576 := by
  have h1 : x ∈ allS.map tkS := List.mem_of_getElem? h
  have h2 : ∀ x ∈ allS.map tkS, 4 ≤ x ∧ x ≤ 576 := by decide
  exact h2 x h1
theorem bestK_succ {tab : List Int} {i x : Int} {k : Nat} (h : (allS.map tkS)[k]? = some x) : bestK tab i (k + 1) = better tab i (bestK tab i k) x := by
  unfold bestK
  have hl : k < (allS.map tkS).length := (List.getElem?_eq_some_iff.1 h).1
  have e := (List.getElem?_eq_some_iff.1 h).2
  rw [← List.take_append_getElem hl, List.foldl_append, e]
  rfl
theorem midT_succ {n i k : Nat} {x : Int} (h : (allS.map tkS)[k]? = some x) (h1 : better (table i) ((i + 1 : Nat) : Int) (bestK (table i) ((i + 1 : Nat) : Int) k) x = bestK (table i) ((i + 1 : Nat) : Int) k) : midT n i (k + 1) = midT n i k := by
  unfold midT; rw [bestK_succ h, h1]
theorem midT_set {n i k : Nat} {x y : Int} (h : (allS.map tkS)[k]? = some x) (h1 : better (table i) ((i + 1 : Nat) : Int) (bestK (table i) ((i + 1 : Nat) : Int) k) x = y) : (midT n i k).set (0 + (((i + 1 : Nat) : Int)).toNat) y = midT n i (k + 1) := by
  unfold midT; rw [bestK_succ h, h1, Nat.zero_add, Int.toNat_natCast, List.append_assoc, List.set_append_right _ _ (by rw [table_len]; omega), table_len, List.append_assoc]
  simp
theorem midT_last {n i : Nat} : midT n i 21 = table (i + 1) ++ List.replicate (n - (i + 1)) 0 := by
  unfold midT bestK
  rw [List.take_of_length_le (by decide)]
  rw [show n - i - 1 = n - (i + 1) by omega]
  rfl
theorem bestK_bd {tab : List Int} {i : Int} {M : Int} (hM : -1 ≤ M) (h : ∀ j, j < tab.length → tab.getD j (-1) + 1 ≤ M) : ∀ k, -1 ≤ bestK tab i k ∧ bestK tab i k ≤ M := by
  intro k
  unfold bestK
  generalize (allS.map tkS).take k = l
  have key : ∀ (l : List Int) (x : Int), -1 ≤ x → x ≤ M → -1 ≤ l.foldl (better tab i) x ∧ l.foldl (better tab i) x ≤ M := by
    intro l
    induction l with
    | nil => intro x h1 h2; exact ⟨h1, h2⟩
    | cons t l ih =>
      intro x h1 h2
      refine ih _ ?_ ?_
      · simp only [better]; split <;> omega
      · simp only [better]
        split
        · rename_i hc
          by_cases hj : (i - t).toNat < tab.length
          · exact h _ hj
          · have : tab.getD (i - t).toNat (-1) = -1 := by
              have hn : tab[(i - t).toNat]? = none := List.getElem?_eq_none (by omega)
              simp [List.getD, hn]
            omega
        · exact h2
  exact key l (-1) (by omega) hM
theorem tab_all : ∀ (n j : Nat), j < (table n).length → -1 ≤ (table n).getD j (-1) ∧ (table n).getD j (-1) ≤ n := by
  intro n
  induction n with
  | zero =>
    intro j h
    have : j = 0 := by simp [table] at h; exact h
    subst this
    simp [table, List.getD]
  | succ n ih =>
    intro j h
    have hl := table_len n
    simp only [table, List.getD]
    by_cases hj : j < n + 1
    · rw [List.getElem?_append_left (by omega)]
      have := ih j (by omega)
      simp only [List.getD] at this
      omega
    · rw [List.getElem?_append_right (by omega)]
      have e : j - (table n).length = 0 := by rw [table_len] at h; omega
      rw [e]
      have := bestK_bd (tab := table n) (i := ((n + 1 : Nat) : Int)) (M := n + 1) (by omega) (fun j hj => by have := ih j hj; omega) 21
      unfold bestK at this
      rw [List.take_of_length_le (by decide)] at this
      simp only [least, List.getElem?_cons_zero, Option.getD_some]
      exact ⟨this.1, this.2⟩
theorem tab_bd (n j : Nat) (h : j ≤ n) : -1 ≤ (table n).getD j (-1) ∧ (table n).getD j (-1) ≤ n := tab_all n j (by rw [table_len]; omega)
theorem pure_iRows (l : List Int) : pureRows (iRows l) := by
  intro row hr c hc
  simp only [iRows, List.mem_map] at hr
  obtain ⟨x, _, rfl⟩ := hr
  simp only [List.mem_singleton] at hc
  subst hc
  rfl

set_option maxHeartbeats 4000000 in
set_option maxRecDepth 100000 in
theorem refFewest_spec (n : Nat) (hn : n ≤ 4608) : PRet C.P 87 [.int .i64 n] (.lslc 1 (iRows (table n)) 0 (n + 1) false) := by
  have w1 : IntKind.i64.wrap (↑n + 1) = ((n + 1 : Nat) : Int) := by rw [IntWalk.i64_in _ (by omega)]; rfl
  refine pret_of ok mixed (A := A87) 1 Try.func87 rfl ?_
  (conv => whnf)
  refine ⟨_, refAll_spec, ?_⟩
  generalize hr : allRows = rows
  (conv => whnf)
  rw [w1]
  refine ⟨⟨by omega, by omega, by simp; omega, by omega⟩, ?_⟩
  intro ep
  (conv => whnf)
  refine loopM ok mixed (A := A87) [0, 3, 4, 5] [0] (S := { i : Nat // i ≤ n })
    (fr := fun s => frOf 0 75 [(0, .int .i64 n), (3, .lslc 3 rows 0 21 false), (4, .oslc (.s 0) ep 1 0 (n + 1) false), (5, .int .i64 ((s.1 + 1 : Nat) : Int))])
    (h := fun s => ⟨[.vec ep (iRows (table s.1 ++ List.replicate (n - s.1) 0))], []⟩) (μ := fun s => n - s.1) ⟨0, Nat.zero_le n⟩ ?_ ?_ ?_
  · rfl
  · show (⟨[AObj.vec ep (List.replicate (n + 1) [AV.int .i64 0])], []⟩ : Heap) = ⟨[AObj.vec ep (iRows ([0] ++ List.replicate n 0))], []⟩
    simp [iRows, List.replicate_succ]
  · intro s
    have hi := s.2
    (conv => whnf)
    refine ifB (fun h1 => ?_) (fun h1 => ?_)
    · simp only [decide_eq_true_eq] at h1
      refine ⟨by omega, ?_⟩
      (repeat ((conv => whnf); first | exact rfl | exact ⟨rfl, rfl⟩ | refine ⟨rfl, ?_⟩ | refine ⟨by decide, ?_⟩ | refine ⟨by kernel_rfl, ?_⟩ | (intro ep)))
      (conv => whnf)
      refine optS (iRows_get (rep_get (n := n) (i := s.1) (by omega))) ?_
      (conv => whnf)
      refine loopM ok mixed (A := A87) [0, 3, 4, 5, 6] [0] (S := { k : Nat // k ≤ 21 })
        (fr := fun k => frOf 0 75 [(0, .int .i64 n), (3, .lslc 3 rows 0 21 false), (4, .oslc (.s 0) ep 1 0 (n + 1) false), (5, .int .i64 ((s.1 + 1 : Nat) : Int)), (6, .int .i64 (k.1 : Int))])
        (h := fun k => ⟨[.vec ep (iRows (midT n s.1 k.1))], []⟩) (μ := fun k => 21 - k.1) ⟨0, Nat.zero_le _⟩ rfl ?_ ?_
      · show (⟨[AObj.vec ep ((iRows (table s.1 ++ List.replicate (n - s.1) 0)).set (0 + (((s.1 + 1 : Nat) : Int)).toNat) [AV.int .i64 (-1)])], []⟩ : Heap) = _
        rw [iRows_set, midT_zero (by omega)]
      · intro k
        have hk := k.2
        (conv => whnf)
        refine ifB (fun h2 => ?_) (fun h2 => ?_)
        · simp only [decide_eq_true_eq] at h2
          obtain ⟨v, d, t, g1, g2⟩ := sRow_get (k := k.1) (by omega)
          have gp := tk_pos g2
          rw [hr] at g1
          (conv => whnf)
          refine ⟨⟨by omega, h2⟩, ?_⟩
          (conv => whnf)
          refine optS (by rw [Nat.zero_add, Int.toNat_natCast]; exact g1) ?_
          (repeat' ((conv => whnf); first | exact rfl | refine ⟨by kernel_rfl, ?_⟩ | exact ⟨rfl, rfl⟩ | refine ⟨rfl, ?_⟩ | refine ⟨by (first | omega | (simp (disch := omega) only [wrapI]; omega) | (simp (disch := omega) only [wrapI]; simp; omega) | (simp; omega)), ?_⟩ | (intro ep) | refine ⟨_, refTicks_spec v d t, ?_⟩ | refine optS (midR_lo (by omega)) ?_ | refine optS (midR_hi (by omega)) ?_ | (rw [IntWalk.i64_in _ (by have := tab_bd s.1 ((↑(s.1 + 1) - ticks v d t).toNat) (by omega); omega)]) | (refine ifB (fun hb => ?_) (fun hb => ?_) <;> (try simp only [decide_eq_true_eq, decide_eq_false_iff_not, beq_iff_eq, beq_eq_false_iff_ne, bne_iff_ne, bne_eq_false_iff_eq, ne_eq, not_false_eq_true, not_true_eq_false, Bool.not_eq_true, Bool.not_eq_true', Bool.not_eq_false', Int.not_lt, Int.not_le] at hb) <;> (try simp (disch := omega) only [wrapI] at hb) <;> (try (exfalso; omega))) | fail))
          all_goals refine back_of ⟨k.1 + 1, by omega⟩ ⟨rfl, ?_, by simp only; omega⟩
          all_goals show (⟨[AObj.vec ep _], []⟩ : Heap) = ⟨[AObj.vec ep (iRows (midT n s.1 (k.1 + 1)))], []⟩
          all_goals first
            | (rw [iRows_set, midT_set g2 (by simp only [better]; rw [if_pos (by omega)])]; done)
            | (rw [midT_succ g2 (by simp only [better]; rw [if_neg (by omega)])]; done)
        · simp only [decide_eq_false_iff_not] at h2
          have e21 : k.1 = 21 := by omega
          (conv => whnf)
          refine back_of ⟨s.1 + 1, by omega⟩ ⟨?_, ?_, by simp only; omega⟩
          · rw [IntWalk.i64_in _ (by omega)]; rfl
          · rw [e21, midT_last]; rfl
    · simp only [decide_eq_false_iff_not] at h1
      have e : s.1 = n := by omega
      (conv => whnf)
      rw [e]
      have e2 : table n ++ List.replicate (n - n) 0 = table n := by simp
      rw [e2]
      exact ⟨rfl, pure_iRows _, rfl, rfl⟩

end Go.Ab.V

/-
  The fewest signs of a duration, and the choice of the next one. No condition.
-/
namespace Go.Ab.V
open Go.Proofs

/-- the ticks of the signs, in descending order -/
def tkL : List Int := allS.map tkS
/-- how many signs a duration takes; -1: it can't be written -/
def fw (n : Nat) : Int := (table n).getD n (-1)

theorem table_getD : ∀ {N n : Nat}, n ≤ N → (table N).getD n (-1) = fw n := by
  intro N
  induction N with
  | zero =>
    intro n h
    obtain rfl : n = 0 := by omega
    rfl
  | succ N ih =>
    intro n h
    by_cases hn : n = N + 1
    · subst hn; rfl
    · rw [← ih (show n ≤ N by omega)]
      simp only [table, List.getD]
      rw [List.getElem?_append_left (by rw [table_len]; omega)]

theorem fw_zero : fw 0 = 0 := rfl
theorem fw_bd (n : Nat) : -1 ≤ fw n ∧ fw n ≤ n := tab_bd n n (Nat.le_refl _)

theorem fw_succ (n : Nat) : fw (n + 1) = tkL.foldl (better (table n) ((n + 1 : Nat) : Int)) (-1) := by
  unfold fw
  simp only [table, List.getD]
  rw [List.getElem?_append_right (by rw [table_len]; omega), table_len]
  simp [least, tkL]

/-- what the fold finds -/
theorem fold_best {tab : List Int} {i : Int} : ∀ (l : List Int) (x : Int), -1 ≤ x →
    (x ≤ l.foldl (better tab i) x ∨ 0 ≤ l.foldl (better tab i) x) ∧ (0 ≤ x → l.foldl (better tab i) x ≤ x) ∧ (0 ≤ x → 0 ≤ l.foldl (better tab i) x) ∧
    (∀ t ∈ l, t ≤ i → 0 ≤ tab.getD (i - t).toNat (-1) → 0 ≤ l.foldl (better tab i) x ∧ l.foldl (better tab i) x ≤ tab.getD (i - t).toNat (-1) + 1) ∧
    (l.foldl (better tab i) x = x ∨ ∃ t ∈ l, t ≤ i ∧ 0 ≤ tab.getD (i - t).toNat (-1) ∧ l.foldl (better tab i) x = tab.getD (i - t).toNat (-1) + 1) := by
  intro l
  induction l with
  | nil => intro x hx; exact ⟨.inl (Int.le_refl _), fun _ => Int.le_refl _, fun h => h, fun t ht => by simp at ht, .inl rfl⟩
  | cons a l ih =>
    intro x hx
    simp only [List.foldl_cons]
    have hb : better tab i x a = x ∨ (a ≤ i ∧ 0 ≤ tab.getD (i - a).toNat (-1) ∧ better tab i x a = tab.getD (i - a).toNat (-1) + 1 ∧ (x < 0 ∨ better tab i x a < x)) := by
      simp only [better]
      split
      · rename_i h; exact .inr ⟨h.1, h.2.1, rfl, h.2.2⟩
      · exact .inl rfl
    have hge : a ≤ i → 0 ≤ tab.getD (i - a).toNat (-1) → 0 ≤ better tab i x a ∧ better tab i x a ≤ tab.getD (i - a).toNat (-1) + 1 := by
      intro h1 h2
      simp only [better]
      split
      · omega
      · omega
    obtain ⟨i1, i2, i3, i4, i5⟩ := ih (better tab i x a) (by rcases hb with h | ⟨_, h1, h2, _⟩ <;> omega)
    refine ⟨?_, fun h => ?_, fun h => ?_, fun t ht h1 h2 => ?_, ?_⟩
    · rcases hb with h | ⟨_, h1, h2, h3⟩
      · rw [h] at i1; rw [h]; exact i1
      · right; exact i3 (by omega)
    · rcases hb with h' | ⟨_, h1, h2, h3⟩
      · rw [h'] at i2; rw [h']; exact i2 h
      · have := i2 (by omega); omega
    · rcases hb with h' | ⟨_, h1, h2, h3⟩
      · rw [h'] at i3; rw [h']; exact i3 h
      · exact i3 (by omega)
    · rcases List.mem_cons.1 ht with rfl | ht
      · have := hge h1 h2
        exact ⟨i3 this.1, Int.le_trans (i2 this.1) this.2⟩
      · exact i4 t ht h1 h2
    · rcases i5 with h | ⟨t, h1, h2⟩
      · rcases hb with h' | ⟨h1, h2, h3, _⟩
        · left; rw [h, h']
        · right; exact ⟨a, by simp, h1, h2, by rw [h, h3]⟩
      · right; exact ⟨t, by simp [h1], h2⟩

theorem tkL_pos : ∀ t ∈ tkL, 4 ≤ t ∧ t ≤ 576 := by decide
theorem tkL_len : tkL.length = 21 := by decide

theorem fw_le {n : Nat} {t : Int} (ht : t ∈ tkL) (h : t ≤ n) (h0 : 0 ≤ fw ((n : Int) - t).toNat) : 0 ≤ fw n ∧ fw n ≤ fw ((n : Int) - t).toNat + 1 := by
  have hp := tkL_pos t ht
  match n, h with
  | 0, h => exact absurd h (by simp only [Int.natCast_zero]; omega)
  | n + 1, h =>
    rw [fw_succ]
    have hg : (table n).getD (((n + 1 : Nat) : Int) - t).toNat (-1) = fw (((n + 1 : Nat) : Int) - t).toNat := table_getD (by omega)
    have := (fold_best (tab := table n) (i := ((n + 1 : Nat) : Int)) tkL (-1) (by omega)).2.2.2.1 t ht h (by rw [hg]; exact h0)
    rw [hg] at this
    exact this

theorem fw_step {n : Nat} (h : 0 ≤ fw n) (h0 : n ≠ 0) : ∃ t ∈ tkL, t ≤ n ∧ 0 ≤ fw ((n : Int) - t).toNat ∧ fw n = fw ((n : Int) - t).toNat + 1 := by
  match n, h0 with
  | 0, h0 => exact absurd rfl h0
  | n + 1, _ =>
    rw [fw_succ] at h ⊢
    rcases (fold_best (tab := table n) (i := ((n + 1 : Nat) : Int)) tkL (-1) (by omega)).2.2.2.2 with e | ⟨t, h1, h2, h3, h4⟩
    · omega
    · have hp := tkL_pos t h1
      have hg : (table n).getD (((n + 1 : Nat) : Int) - t).toNat (-1) = fw (((n + 1 : Nat) : Int) - t).toNat := table_getD (by omega)
      rw [hg] at h3 h4
      exact ⟨t, h1, h2, h3, h4⟩

/-- may the sign k come first? -/
def okK (n : Nat) (k : Nat) : Bool := decide (tkL.getD k 0 ≤ n) && decide (fw ((n : Int) - tkL.getD k 0).toNat = fw n - 1)
def firstK (p : Nat → Bool) : Nat → Nat → Nat
  | 0, k => k
  | f + 1, k => if p k = true then k else firstK p f (k + 1)
theorem firstK_le {p : Nat → Bool} : ∀ {f k j : Nat}, p j = true → k ≤ j → j < k + f → firstK p f k ≤ j ∧ p (firstK p f k) = true := by
  intro f
  induction f with
  | zero => intro k j _ h1 h2; omega
  | succ f ih =>
    intro k j hp h1 h2
    unfold firstK
    split
    · rename_i h; exact ⟨h1, h⟩
    · rename_i h
      have : k ≠ j := fun e => h (e ▸ hp)
      exact ih hp (by omega) (by omega)
theorem firstK_eq {p : Nat → Bool} : ∀ {f k j : Nat}, p j = true → k ≤ j → j < k + f → (∀ i, k ≤ i → i < j → p i = false) → firstK p f k = j := by
  intro f
  induction f with
  | zero => intro k j _ h1 h2; omega
  | succ f ih =>
    intro k j hp h1 h2 h3
    unfold firstK
    split
    · rename_i h
      by_cases e : k = j
      · exact e
      · have := h3 k (Nat.le_refl _) (by omega)
        rw [h] at this
        cases this
    · rename_i h
      have : k ≠ j := fun e => h (e ▸ hp)
      exact ih hp (by omega) (by omega) fun i hi hj => h3 i (by omega) hj
/-- the sign that comes first -/
def nxt (n : Nat) : Nat := firstK (okK n) 21 0

theorem nxt_spec {n : Nat} (h : 0 ≤ fw n) (h0 : n ≠ 0) : nxt n < 21 ∧ okK n (nxt n) = true := by
  obtain ⟨t, h1, h2, h3, h4⟩ := fw_step h h0
  obtain ⟨k, hk⟩ := List.getElem?_of_mem h1
  have hk21 : k < 21 := by have := (List.getElem?_eq_some_iff.1 hk).1; rw [tkL_len] at this; exact this
  have hok : okK n k = true := by
    simp only [okK, List.getD, hk, Option.getD_some, Bool.and_eq_true, decide_eq_true_eq]
    omega
  have := firstK_le (f := 21) (k := 0) hok (by omega) (by omega)
  exact ⟨by unfold nxt; omega, this.2⟩
theorem nxt_min {n k : Nat} (h : okK n k = true) (hk : k < 21) : nxt n ≤ k := (firstK_le (f := 21) (k := 0) h (by omega) (by omega)).1
theorem nxt_eq {n k : Nat} (h : okK n k = true) (hk : k < 21) (hm : ∀ j, j < k → okK n j = false) : nxt n = k :=
  firstK_eq h (by omega) (by omega) fun i _ hi => hm i hi

def tkN (k : Nat) : Nat := (tkL.getD k 0).toNat
/-- the signs that are chosen, by their numbers -/
def pickL : Nat → Nat → List Nat
  | 0, _ => []
  | f + 1, n => if n = 0 then [] else nxt n :: pickL f (n - tkN (nxt n))

theorem tkN_pos {k : Nat} (h : k < 21) : 4 ≤ tkN k ∧ tkN k ≤ 576 ∧ ((tkN k : Nat) : Int) = tkL.getD k 0 := by
  have hl : k < tkL.length := by rw [tkL_len]; exact h
  have : tkL.getD k 0 ∈ tkL := by simp [List.getD, hl]
  have := tkL_pos _ this
  unfold tkN
  omega

theorem pickL_fuel : ∀ (f f' n : Nat), n ≤ f → n ≤ f' → 0 ≤ fw n → pickL f n = pickL f' n := by
  intro f
  induction f with
  | zero =>
    intro f' n h h' _
    obtain rfl : n = 0 := by omega
    cases f' <;> simp [pickL]
  | succ f ih =>
    intro f' n h h' hw
    cases f' with
    | zero =>
      obtain rfl : n = 0 := by omega
      simp [pickL]
    | succ f' =>
      simp only [pickL]
      by_cases h0 : n = 0
      · rw [if_pos h0, if_pos h0]
      · rw [if_neg h0, if_neg h0]
        obtain ⟨n1, n2⟩ := nxt_spec hw h0
        obtain ⟨p1, p2, p3⟩ := tkN_pos n1
        simp only [okK, Bool.and_eq_true, decide_eq_true_eq] at n2
        rw [ih f' (n - tkN (nxt n)) (by omega) (by omega)]
        have e : ((n : Int) - tkL.getD (nxt n) 0).toNat = n - tkN (nxt n) := by omega
        rw [e] at n2
        rcases fw_step hw h0 with ⟨t, _, _, h3, h4⟩
        omega

/-- the signs of a duration -/
def sigK (n : Nat) : List Nat := pickL n n
theorem sigK_zero : sigK 0 = [] := rfl
theorem fw_nxt {n : Nat} (hw : 0 ≤ fw n) (h0 : n ≠ 0) : tkN (nxt n) ≤ n ∧ fw (n - tkN (nxt n)) = fw n - 1 ∧ 0 ≤ fw (n - tkN (nxt n)) := by
  obtain ⟨n1, n2⟩ := nxt_spec hw h0
  obtain ⟨p1, p2, p3⟩ := tkN_pos n1
  simp only [okK, Bool.and_eq_true, decide_eq_true_eq] at n2
  have e : ((n : Int) - tkL.getD (nxt n) 0).toNat = n - tkN (nxt n) := by omega
  rw [e] at n2
  rcases fw_step hw h0 with ⟨t, _, _, h3, h4⟩
  exact ⟨by omega, n2.2, by omega⟩
theorem sigK_step {n : Nat} (hw : 0 ≤ fw n) (h0 : n ≠ 0) : sigK n = nxt n :: sigK (n - tkN (nxt n)) := by
  obtain ⟨n1, n2⟩ := nxt_spec hw h0
  obtain ⟨p1, p2, p3⟩ := tkN_pos n1
  obtain ⟨q1, q2, q3⟩ := fw_nxt hw h0
  match n, h0 with
  | 0, h0 => exact absurd rfl h0
  | n + 1, _ =>
    unfold sigK
    conv => lhs; unfold pickL
    rw [if_neg (by omega), pickL_fuel n (n + 1 - tkN (nxt (n + 1))) _ (by omega) (Nat.le_refl _) q3]

/-- no later sign is greater -/
theorem nxt_mono {n : Nat} (hw : 0 ≤ fw n) (h0 : n ≠ 0) (h1 : n - tkN (nxt n) ≠ 0) : nxt n ≤ nxt (n - tkN (nxt n)) := by
  obtain ⟨n1, n2⟩ := nxt_spec hw h0
  obtain ⟨p1, p2, p3⟩ := tkN_pos n1
  obtain ⟨q1, q2, q3⟩ := fw_nxt hw h0
  obtain ⟨m1, m2⟩ := nxt_spec q3 h1
  obtain ⟨r1, r2, r3⟩ := tkN_pos m1
  obtain ⟨s1, s2, s3⟩ := fw_nxt q3 h1
  refine nxt_min ?_ m1
  have hm : tkL.getD (nxt (n - tkN (nxt n))) 0 ∈ tkL := by
    have hl : nxt (n - tkN (nxt n)) < tkL.length := by rw [tkL_len]; exact m1
    simp [List.getD, hl]
  have hn : tkL.getD (nxt n) 0 ∈ tkL := by
    have hl : nxt n < tkL.length := by rw [tkL_len]; exact n1
    simp [List.getD, hl]
  -- the same two signs in the other order
  have k1 : fw (n - tkN (nxt (n - tkN (nxt n)))) ≤ fw (n - tkN (nxt n) - tkN (nxt (n - tkN (nxt n)))) + 1 ∧ 0 ≤ fw (n - tkN (nxt (n - tkN (nxt n)))) := by
    have := fw_le (n := n - tkN (nxt (n - tkN (nxt n)))) hn (by omega)
    rw [show (((n - tkN (nxt (n - tkN (nxt n))) : Nat) : Int) - tkL.getD (nxt n) 0).toNat = n - tkN (nxt n) - tkN (nxt (n - tkN (nxt n))) by omega] at this
    exact ⟨(this s3).2, (this s3).1⟩
  have k2 : fw n ≤ fw (n - tkN (nxt (n - tkN (nxt n)))) + 1 := by
    have := fw_le (n := n) hm (by omega)
    rw [show ((n : Int) - tkL.getD (nxt (n - tkN (nxt n))) 0).toNat = n - tkN (nxt (n - tkN (nxt n))) by omega] at this
    exact (this k1.2).2
  simp only [okK, Bool.and_eq_true, decide_eq_true_eq]
  rw [show ((n : Int) - tkL.getD (nxt (n - tkN (nxt n))) 0).toNat = n - tkN (nxt (n - tkN (nxt n))) by omega]
  omega

end Go.Ab.V

/-
  The document's Signs. No condition.
-/
namespace Go.Ab.V
open Go.Proofs

def A67 : Ann := fun r => match r with
  | 14 => { slots := [(5, 0), (6, 1)] }
  | _ => {}

def sgR (k : Nat) : List AV := allRows.getD k []
def outR (l : List Nat) : List (List AV) := l.map sgR

theorem tabR {n : Nat} {x : Int} (h : 0 ≤ x ∧ x ≤ n) : (iRows (table n))[0 + x.toNat]? = some [.int .i64 (fw x.toNat)] := by
  refine iRows_get ?_
  have hl : x.toNat < (table n).length := by rw [table_len]; omega
  rw [Nat.zero_add, ← table_getD (show x.toNat ≤ n by omega), List.getElem?_eq_getElem hl]
  simp [List.getD, hl]
theorem tkL_get {k : Nat} (h : k < 21) : ∃ v d t, allRows[k]? = some [.int .i64 v, .bool d, .bool t] ∧ sgR k = [.int .i64 v, .bool d, .bool t] ∧ ticks v d t = tkL.getD k 0 := by
  obtain ⟨v, d, t, h1, h2⟩ := sRow_get h
  exact ⟨v, d, t, h1, by simp [sgR, List.getD, h1], by simp [tkL, List.getD, h2]⟩
theorem sigK_len : ∀ {n : Nat}, 0 ≤ fw n → (sigK n).length ≤ n := by
  intro n
  induction n using Nat.strongRecOn with
  | _ n ih =>
    intro h
    by_cases h0 : n = 0
    · subst h0; simp [sigK_zero]
    · obtain ⟨a, b, c⟩ := fw_nxt h h0
      have p := (tkN_pos (nxt_spec h h0).1).1
      rw [sigK_step h h0]
      have := ih _ (by omega) c
      simp only [List.length_cons]
      omega
theorem sigK_lt : ∀ {n : Nat}, 0 ≤ fw n → ∀ k ∈ sigK n, k < 21 := by
  intro n
  induction n using Nat.strongRecOn with
  | _ n ih =>
    intro h k hk
    by_cases h0 : n = 0
    · subst h0; rw [sigK_zero] at hk; cases hk
    · obtain ⟨a, b, c⟩ := fw_nxt h h0
      have p := (tkN_pos (nxt_spec h h0).1).1
      rw [sigK_step h h0] at hk
      rcases List.mem_cons.1 hk with rfl | hk
      · exact (nxt_spec h h0).1
      · exact ih _ (by omega) c k hk
theorem pure_outR (n : Nat) (h : 0 ≤ fw n) : pureRows (outR (sigK n)) := by
  intro row hr c hc
  simp only [outR, List.mem_map] at hr
  obtain ⟨k, hk, rfl⟩ := hr
  obtain ⟨v, d, t, _, g, _⟩ := tkL_get (sigK_lt h k hk)
  rw [g] at hc
  simp only [List.mem_cons, List.not_mem_nil, or_false] at hc
  rcases hc with rfl | rfl | rfl <;> rfl
theorem outR_snoc (l : List Nat) (k : Nat) : outR (l ++ [k]) = outR l ++ [sgR k] := by simp [outR]

set_option maxHeartbeats 4000000 in
set_option maxRecDepth 100000 in
theorem refSigns_bad (n : Int) (h : n < 0 ∨ 4608 < n) : PRet C.P 67 [.int .i64 n] (.tup [.nils, .int .i64 1]) := by
  refine pret_of ok mixed (A := A67) 2 Try.func67 rfl ?_
  (repeat' (first | exact rfl | ((conv => whnf); first | exact rfl | refine ⟨by kernel_rfl, ?_⟩ | exact ⟨rfl, rfl⟩ | refine ⟨rfl, ?_⟩ | refine ⟨by (first | omega | (simp (disch := omega) only [wrapI]; omega) | (simp (disch := omega) only [wrapI]; simp; omega) | (simp; omega)), ?_⟩ | (intro ep) | (refine ifB (fun hb => ?_) (fun hb => ?_) <;> (try simp only [decide_eq_true_eq, decide_eq_false_iff_not, beq_iff_eq, beq_eq_false_iff_ne, bne_iff_ne, bne_eq_false_iff_eq, ne_eq, not_false_eq_true, not_true_eq_false, Bool.not_eq_true, Bool.not_eq_true', Bool.not_eq_false', Int.not_lt, Int.not_le] at hb) <;> (try simp (disch := omega) only [wrapI] at hb) <;> (try (exfalso; omega))) | fail)))

theorem refSigns_none (n : Nat) (hn : n ≤ 4608) (hw : fw n < 0) : PRet C.P 67 [.int .i64 n] (.tup [.nils, .int .i64 25]) := by
  have hf : fw ((n : Int)).toNat = fw n := by rw [Int.toNat_natCast]
  refine pret_of ok mixed (A := A67) 2 Try.func67 rfl ?_
  (repeat' (first | exact rfl | ((conv => whnf); first | exact rfl | refine ⟨by kernel_rfl, ?_⟩ | exact ⟨rfl, rfl⟩ | refine ⟨rfl, ?_⟩ | refine ⟨by (first | omega | (simp (disch := omega) only [wrapI]; omega) | (simp (disch := omega) only [wrapI]; simp; omega) | (simp; omega)), ?_⟩ | (intro ep) | refine ⟨_, refFewest_spec n hn, ?_⟩ | refine optS (tabR (by omega)) ?_ | (refine ifB (fun hb => ?_) (fun hb => ?_) <;> (try simp only [decide_eq_true_eq, decide_eq_false_iff_not, beq_iff_eq, beq_eq_false_iff_ne, bne_iff_ne, bne_eq_false_iff_eq, ne_eq, not_false_eq_true, not_true_eq_false, Bool.not_eq_true, Bool.not_eq_true', Bool.not_eq_false', Int.not_lt, Int.not_le] at hb) <;> (try simp (disch := omega) only [wrapI] at hb) <;> (try (exfalso; omega))) | fail)))

set_option maxHeartbeats 4000000 in
set_option maxRecDepth 100000 in
theorem refSigns_spec (n : Nat) (hn : n ≤ 4608) (hw : 0 ≤ fw n) : PRet C.P 67 [.int .i64 n] (.tup [.lslc 3 (outR (sigK n)) 0 (sigK n).length false, .int .i64 0]) := by
  have hf : fw ((n : Int)).toNat = fw n := by rw [Int.toNat_natCast]
  refine pret_of ok mixed (A := A67) 2 Try.func67 rfl ?_
  (repeat' ((conv => whnf); first | exact rfl | refine ⟨by kernel_rfl, ?_⟩ | exact ⟨rfl, rfl⟩ | refine ⟨rfl, ?_⟩ | refine ⟨by (first | omega | (simp (disch := omega) only [wrapI]; omega) | (simp (disch := omega) only [wrapI]; simp; omega) | (simp; omega)), ?_⟩ | (intro ep) | refine ⟨_, refFewest_spec n hn, ?_⟩ | refine ⟨_, refAll_spec, ?_⟩ | refine optS (tabR (by omega)) ?_ | (refine ifB (fun hb => ?_) (fun hb => ?_) <;> (try simp only [decide_eq_true_eq, decide_eq_false_iff_not, beq_iff_eq, beq_eq_false_iff_ne, bne_iff_ne, bne_eq_false_iff_eq, ne_eq, not_false_eq_true, not_true_eq_false, Bool.not_eq_true, Bool.not_eq_true', Bool.not_eq_false', Int.not_lt, Int.not_le] at hb) <;> (try simp (disch := omega) only [wrapI] at hb) <;> (try (exfalso; omega))) | fail))
  refine wk_lift 6 1 3 rfl ?_
  intro ep
  refine loopM ok mixed (A := A67) [0, 4, 5, 6] [1] (S := { x : Nat × Nat × List Nat // x.2.2 ++ sigK x.2.1 = sigK n ∧ 0 ≤ fw x.2.1 ∧ x.2.1 ≤ n })
    (fr := fun s => frOf 0 64 [(0, .int .i64 (s.1.2.1 : Int)), (4, .lslc 1 (iRows (table n)) 0 (n + 1) false), (5, .lslc 3 allRows 0 21 false), (6, .oslc (.s 1) s.1.1 3 0 s.1.2.2.length false)])
    (h := fun s => ⟨[.hole, .vec s.1.1 (outR s.1.2.2)], []⟩) (μ := fun s => s.1.2.1) ⟨(ep, n, []), rfl, hw, Nat.le_refl _⟩ rfl rfl ?_
  intro s
  obtain ⟨⟨ep0, m, l⟩, hl, hm, hmn⟩ := s
  simp only at hl hm hmn
  have hll : l.length ≤ n := by
    have h1 := congrArg List.length hl
    have h2 := sigK_len hw
    rw [List.length_append] at h1
    omega
  show aexR _ _ _ (frOf 0 64 [(0, .int .i64 (m : Int)), (4, .lslc 1 (iRows (table n)) 0 (n + 1) false), (5, .lslc 3 allRows 0 21 false), (6, .oslc (.s 1) ep0 3 0 l.length false)]) ⟨[.hole, .vec ep0 (outR l)], []⟩ _
  generalize hr : allRows = rows
  (repeat' ((conv => whnf); first | exact rfl | refine ⟨by kernel_rfl, ?_⟩ | exact ⟨rfl, rfl⟩ | refine ⟨rfl, ?_⟩ | refine ⟨by (first | omega | (simp (disch := omega) only [wrapI]; omega) | (simp (disch := omega) only [wrapI]; simp; omega) | (simp; omega)), ?_⟩ | (intro ep) | (refine ifB (fun hb => ?_) (fun hb => ?_) <;> (try simp only [decide_eq_true_eq, decide_eq_false_iff_not, beq_iff_eq, beq_eq_false_iff_ne, bne_iff_ne, bne_eq_false_iff_eq, ne_eq, not_false_eq_true, not_true_eq_false, Bool.not_eq_true, Bool.not_eq_true', Bool.not_eq_false', Int.not_lt, Int.not_le] at hb) <;> (try simp (disch := omega) only [wrapI] at hb) <;> (try (exfalso; omega))) | fail))
  · (conv => whnf)
    refine loopM ok mixed (A := A67) [0, 4, 5, 6, 7] [1] (S := { k : Nat // k ≤ 21 ∧ ∀ j, j < k → okK m j = false })
      (fr := fun s => frOf 0 64 [(0, .int .i64 (m : Int)), (4, .lslc 1 (iRows (table n)) 0 (n + 1) false), (5, .lslc 3 rows 0 21 false), (6, .oslc (.s 1) ep0 3 0 l.length false), (7, .int .i64 (s.1 : Int))])
      (h := fun s => ⟨[.hole, .vec ep0 (outR l)], []⟩) (μ := fun s => 21 - s.1) ⟨0, by omega, fun j hj => absurd hj (by omega)⟩ rfl rfl ?_
    intro s
    have hk := s.2.1
    have hk2 := s.2.2
    (conv => whnf)
    refine ifB (fun h2 => ?_) (fun h2 => ?_)
    · simp only [decide_eq_true_eq] at h2
      obtain ⟨v, d, t, g1, g3, g2⟩ := tkL_get (k := s.1) (by omega)
      have gp := tkN_pos (k := s.1) (by omega)
      rw [hr] at g1
      (conv => whnf)
      refine ⟨by omega, ?_⟩
      (conv => whnf)
      refine optS (by rw [Nat.zero_add, Int.toNat_natCast]; exact g1) ?_
      (repeat' ((conv => whnf); first | exact rfl | refine ⟨by kernel_rfl, ?_⟩ | exact ⟨rfl, rfl⟩ | refine ⟨rfl, ?_⟩ | refine ⟨by (first | omega | (simp (disch := omega) only [wrapI]; omega) | (simp (disch := omega) only [wrapI]; simp; omega) | (simp; omega)), ?_⟩ | (intro ep) | refine ⟨_, refTicks_spec v d t, ?_⟩ | refine optS (tabR (by omega)) ?_ | refine optS (by rw [Nat.zero_add, Int.toNat_natCast]; exact g1) ?_ | refine ⟨by simp; omega, ?_⟩ | (rw [IntWalk.i64_in _ (by have := fw_bd m; omega)]) | (refine ifB (fun hb => ?_) (fun hb => ?_) <;> (try simp only [decide_eq_true_eq, decide_eq_false_iff_not, beq_iff_eq, beq_eq_false_iff_ne, bne_iff_ne, bne_eq_false_iff_eq, ne_eq, not_false_eq_true, not_true_eq_false, Bool.not_eq_true, Bool.not_eq_true', Bool.not_eq_false', Int.not_lt, Int.not_le] at hb) <;> (try simp (disch := omega) only [wrapI] at hb) <;> (try (exfalso; omega))) | fail))
      · have hfm : fw ((m : Int)).toNat = fw m := by rw [Int.toNat_natCast]
        have hsub : ((m : Int) - ticks v d t).toNat = m - tkN s.1 := by omega
        have hok : okK m s.1 = true := by
          simp only [okK, Bool.and_eq_true, decide_eq_true_eq]
          rw [← g2]
          exact ⟨by omega, by rw [hb, hfm, IntWalk.i64_in _ (by have := fw_bd m; omega)]⟩
        have hnx := nxt_eq hok (by omega) hk2
        obtain ⟨q1, q2, q3⟩ := fw_nxt hm (by omega)
        rw [hnx] at q1 q2 q3
        have hst := sigK_step hm (by omega)
        rw [hnx] at hst
        refine back_of ⟨(ep, m - tkN s.1, l ++ [s.1]), ?_, q3, by simp only; omega⟩ ⟨?_, ?_, by simp only; omega⟩
        · rw [← hl, hst]; simp
        · have e3 : (l ++ [s.1]).length = l.length + 1 := by simp
          have e : ((m : Int) - ticks v d t) = ((m - tkN s.1 : Nat) : Int) := by omega
          show _ = frOf 0 64 [(0, .int .i64 ((m - tkN s.1 : Nat) : Int)), (4, .lslc 1 (iRows (table n)) 0 (n + 1) false), (5, .lslc 3 rows 0 21 false), (6, .oslc (.s 1) ep 3 0 (l ++ [s.1]).length false)]
          rw [e3, e]
          rfl
        · have e4 : List.take l.length (List.drop 0 (outR l)) = outR l := by rw [List.drop_zero, List.take_of_length_le (by simp [outR])]
          show (⟨[.hole, .vec ep (List.take l.length (List.drop 0 (outR l)) ++ [[.int .i64 v, .bool d, .bool t]])], []⟩ : Heap) = ⟨[.hole, .vec ep (outR (l ++ [s.1]))], []⟩
          rw [e4, outR_snoc, g3]
      all_goals refine back_of ⟨s.1 + 1, by omega, fun j hj => ?_⟩ ⟨rfl, rfl, by simp only; omega⟩
      all_goals
        have hfm : fw ((m : Int)).toNat = fw m := by rw [Int.toNat_natCast]
        rcases Nat.lt_or_ge j s.1 with hj1 | hj1
        · exact hk2 j hj1
        · obtain rfl : j = s.1 := by omega
          simp only [okK, ← g2, Bool.and_eq_false_iff, decide_eq_false_iff_not]
          first | (left; omega) | (right; rw [hfm, IntWalk.i64_in _ (by have := fw_bd m; omega)] at hb; exact hb)
    · simp only [decide_eq_false_iff_not] at h2
      exfalso
      obtain ⟨a, b⟩ := nxt_spec hm (by omega)
      rw [hk2 _ (by omega)] at b
      cases b
  · have hm0 : m = 0 := by omega
    subst hm0
    rw [sigK_zero, List.append_nil] at hl
    subst hl
    refine ⟨pure_outR _ hw, ?_⟩
    exact ⟨rfl, rfl⟩

end Go.Ab.V

/-
  The program's Signs: the closure that calls itself. No condition.
-/
namespace Go.Ab.V
open Go.Proofs

def A86 : Ann := fun r => match r with
  | 5 => { slots := [(2, 7)] }
  | 8 => { slots := [(2, 8), (3, 9)] }
  | _ => {}

theorem tk_desc {j k : Nat} (h : j ≤ k) (hk : k < 21) : tkN k ≤ tkN j := by
  have h1 : ∀ k, k < 21 → ∀ j, j ≤ k → tkN k ≤ tkN j := by decide
  exact h1 k hk j h

/-- the variables of Signs, when the signs l have been put out -/
def HB (n e0 e1 e2 e4 e5 e6 : Nat) (rows : List (List AV)) (l : List Nat) : List AObj := [.vec e0 [[.lslc 3 rows 0 21 false]], .vec e1 (iRows (table n)), .vec e2 [[.oslc (.s 1) e1 1 0 (n + 1) false]], .hole,
  .vec e4 [[.oslc (.s 6) e6 3 0 l.length false]],
  .vec e5 [[.fn (.func 86) [] [.optr (.s 0) e0 1 0 0, .optr (.s 2) e2 1 0 0, .optr (.s 4) e4 1 0 0, .optr (.s 5) e5 1 0 0]]],
  .vec e6 (outR l)]

set_option maxHeartbeats 4000000 in
set_option maxRecDepth 100000 in
theorem split_spec (n : Nat) (hn : n ≤ 4608) (e0 e1 e2 e4 e5 : Nat) : ∀ (m : Nat) (most : Int) (l : List Nat) (e6 : Nat), m ≤ n → 0 ≤ fw m → (m ≠ 0 → (tkN (nxt m) : Int) ≤ most) → l.length + m ≤ n →
    ACalls C.P 86 [.int .i64 m, .int .i64 most, .optr (.s 0) e0 1 0 0, .optr (.s 2) e2 1 0 0, .optr (.s 4) e4 1 0 0, .optr (.s 5) e5 1 0 0] ⟨HB n e0 e1 e2 e4 e5 e6 allRows l, []⟩
      fun r h' => r = .bool true ∧ ∃ e6', padTo 7 h'.st = HB n e0 e1 e2 e4 e5 e6' allRows (l ++ sigK m) ∧ h'.dy = [] := by
  intro m
  generalize hr : allRows = rows
  induction m using Nat.strongRecOn with
  | _ m ih =>
  intro most l e6 hmn hm hmost hll
  have hfm : fw ((m : Int)).toNat = fw m := by rw [Int.toNat_natCast]
  refine fn_of ok mixed (A := A86) 3 Try.func86 rfl ?_
  (conv => whnf)
  refine ifB (fun h0 => ?_) (fun h0 => ?_)
  · simp only [beq_iff_eq] at h0
    obtain rfl : m = 0 := by omega
    (conv => whnf)
    rw [sigK_zero, List.append_nil]
    exact ⟨rfl, e6, rfl, rfl⟩
  simp only [beq_eq_false_iff_ne, ne_eq] at h0
  (repeat' ((conv => whnf); first | exact rfl | refine ⟨by kernel_rfl, ?_⟩ | exact ⟨rfl, rfl⟩ | refine ⟨rfl, ?_⟩ | refine ⟨by (first | omega | (simp (disch := omega) only [wrapI]; omega) | (simp (disch := omega) only [wrapI]; simp; omega) | (simp; omega)), ?_⟩ | (intro ep) | fail))
  (conv => whnf)
  refine loopM ok mixed (A := A86) [0, 1, 3, 4, 5, 14, 15, 16] [0, 1, 2, 4, 5, 6] (S := { k : Nat // k ≤ nxt m })
    (fr := fun s => frOf 0 60 [(0, .int .i64 (m : Int)), (1, .int .i64 most), (3, .optr (.s 2) e2 1 0 0), (4, .optr (.s 4) e4 1 0 0), (5, .optr (.s 5) e5 1 0 0), (14, .lslc 3 rows 0 21 false), (15, .int .i64 21), (16, .int .i64 (s.1 : Int))])
    (h := fun s => ⟨HB n e0 e1 e2 e4 e5 e6 rows l ++ [.hole, .hole, .hole], []⟩) (μ := fun s => 21 - s.1) ⟨0, Nat.zero_le _⟩ rfl rfl ?_
  intro s
  have hk := s.2
  obtain ⟨x1, x2⟩ := nxt_spec hm (by omega)
  obtain ⟨v, d, t, g1, g3, g2⟩ := tkL_get (k := s.1) (by omega)
  have gp := tkN_pos (k := s.1) (by omega)
  rw [hr] at g1
  (repeat' ((conv => whnf); first | exact rfl | refine ⟨by kernel_rfl, ?_⟩ | exact ⟨rfl, rfl⟩ | refine ⟨rfl, ?_⟩ | refine ⟨by (first | omega | (simp (disch := omega) only [wrapI]; omega) | (simp (disch := omega) only [wrapI]; simp; omega) | (simp; omega)), ?_⟩ | (intro ep) | refine ⟨_, ticks_spec v d t, ?_⟩ | refine optS (tabR (by omega)) ?_ | refine optS (by rw [Nat.zero_add, Int.toNat_natCast]; exact g1) ?_ | refine ⟨by simp; omega, ?_⟩ | (rw [IntWalk.i64_in _ (by have := fw_bd m; omega)]) | (refine ifB (fun hb => ?_) (fun hb => ?_) <;> (try simp only [decide_eq_true_eq, decide_eq_false_iff_not, beq_iff_eq, beq_eq_false_iff_ne, bne_iff_ne, bne_eq_false_iff_eq, ne_eq, not_false_eq_true, not_true_eq_false, Bool.not_eq_true, Bool.not_eq_true', Bool.not_eq_false', Int.not_lt, Int.not_le] at hb) <;> (try simp (disch := omega) only [wrapI] at hb) <;> (try (exfalso; omega))) | fail))
  · refine back_of ⟨s.1 + 1, ?_⟩ ⟨rfl, rfl, by simp only; omega⟩
    by_cases e : s.1 = nxt m
    · have := hmost (by omega); rw [← e] at this; omega
    · omega
  · refine back_of ⟨s.1 + 1, ?_⟩ ⟨rfl, rfl, by simp only; omega⟩
    by_cases e : s.1 = nxt m
    · obtain ⟨a, b⟩ := fw_nxt hm (by omega); rw [← e] at a; omega
    · omega
  · refine back_of ⟨s.1 + 1, ?_⟩ ⟨rfl, rfl, by simp only; omega⟩
    by_cases e : s.1 = nxt m
    · simp only [okK, Bool.and_eq_true, decide_eq_true_eq] at x2
      rw [← e, ← g2] at x2
      rw [hfm] at hb
      omega
    · omega
  · have hsub : ((m : Int) - ticks v d t).toNat = m - tkN s.1 := by omega
    have hok : okK m s.1 = true := by
      simp only [okK, Bool.and_eq_true, decide_eq_true_eq]
      rw [← g2]
      rw [hfm] at hb
      exact ⟨by omega, hb⟩
    have hnx : nxt m = s.1 := by have := nxt_min hok (by omega); omega
    obtain ⟨q1, q2, q3⟩ := fw_nxt hm (by omega)
    rw [hnx] at q1 q2 q3
    have hst := sigK_step hm (by omega)
    rw [hnx] at hst
    have e4' : List.take l.length (List.drop 0 (outR l)) = outR l := by rw [List.drop_zero, List.take_of_length_le (by simp [outR])]
    have e3' : (l ++ [s.1]).length = l.length + 1 := by simp
    have e : ((m : Int) - ticks v d t) = ((m - tkN s.1 : Nat) : Int) := by omega
    have hHB : HB n e0 e1 e2 e4 e5 ep rows (l ++ [s.1]) = [.vec e0 [[.lslc 3 rows 0 21 false]], .vec e1 (iRows (table n)), .vec e2 [[.oslc (.s 1) e1 1 0 (n + 1) false]], .hole,
        .vec e4 [[.oslc (.s 6) ep 3 0 (l.length + 1) false]],
        .vec e5 [[.fn (.func 86) [] [.optr (.s 0) e0 1 0 0, .optr (.s 2) e2 1 0 0, .optr (.s 4) e4 1 0 0, .optr (.s 5) e5 1 0 0]]],
        .vec ep (List.take l.length (List.drop 0 (outR l)) ++ [[.int .i64 v, .bool d, .bool t]])] := by
      unfold HB; rw [e3', e4', outR_snoc, g3]
    have key := ih (m - tkN s.1) (by omega) (ticks v d t) (l ++ [s.1]) ep (by omega) q3 (fun hne => by
      have hmo := nxt_mono hm (by omega) (by rw [hnx]; exact hne)
      rw [hnx] at hmo
      obtain ⟨y1, _⟩ := nxt_spec q3 hne
      have := tk_desc hmo y1
      omega) (by rw [e3']; omega)
    rw [← e, hHB] at key
    refine ACalls.part (dy := []) 7 (by exact rfl) (by exact rfl) (by exact rfl) key ?_
    rintro r h1 ⟨rfl, e6', hp, hd⟩
    rw [hp, hd]
    (conv => whnf)
    refine ⟨rfl, e6', ?_, rfl⟩
    rw [hst, show l ++ s.1 :: sigK (m - tkN s.1) = l ++ [s.1] ++ sigK (m - tkN s.1) by simp]
    rfl

end Go.Ab.V

/-
  The program's Signs. No condition.
-/
namespace Go.Ab.V
open Go.Proofs

def A66 : Ann := fun r => match r with
  | 3 => { slots := [(1, 0)] }
  | 4 => { slots := [(2, 1), (3, 2)] }
  | 11 => { slots := [(2, 3)] }
  | 18 => { slots := [(0, 4)] }
  | 19 => { slots := [(0, 5)] }
  | _ => {}

set_option maxHeartbeats 4000000 in
set_option maxRecDepth 100000 in
theorem signs_bad (n : Int) (h : n < 0 ∨ 4608 < n) : PRet C.P 66 [.int .i64 n] (.tup [.nils, .int .i64 1]) := by
  refine pret_of ok mixed (A := A66) 7 Try.func66 rfl ?_
  (repeat' (first | exact rfl | ((conv => whnf); first | exact rfl | refine ⟨by kernel_rfl, ?_⟩ | exact ⟨rfl, rfl⟩ | refine ⟨rfl, ?_⟩ | refine ⟨by (first | omega | (simp (disch := omega) only [wrapI]; omega) | (simp (disch := omega) only [wrapI]; simp; omega) | (simp; omega)), ?_⟩ | (intro ep) | (refine ifB (fun hb => ?_) (fun hb => ?_) <;> (try simp only [decide_eq_true_eq, decide_eq_false_iff_not, beq_iff_eq, beq_eq_false_iff_ne, bne_iff_ne, bne_eq_false_iff_eq, ne_eq, not_false_eq_true, not_true_eq_false, Bool.not_eq_true, Bool.not_eq_true', Bool.not_eq_false', Int.not_lt, Int.not_le] at hb) <;> (try simp (disch := omega) only [wrapI] at hb) <;> (try (exfalso; omega))) | fail)))
  all_goals exact rfl

/-- what Signs hands back -/
def sigV (n : Nat) : AV := if fw n < 0 then .tup [.nils, .int .i64 25] else .tup [.lslc 3 (outR (sigK n)) 0 (sigK n).length false, .int .i64 0]

set_option maxHeartbeats 4000000 in
set_option maxRecDepth 100000 in
theorem signs_spec (n : Nat) (hn : n ≤ 4608) : PRet C.P 66 [.int .i64 n] (sigV n) := by
  have w1 : IntKind.i64.wrap (↑n + 1) = ((n + 1 : Nat) : Int) := by rw [IntWalk.i64_in _ (by omega)]; rfl
  have hf : fw ((n : Int)).toNat = fw n := by rw [Int.toNat_natCast]
  have wn : (IntKind.i64.wrap (↑n + 1)).toNat = n + 1 := by rw [w1]; rfl
  refine pret_of ok mixed (A := A66) 7 Try.func66 rfl ?_
  obtain ⟨rows, hr, hall⟩ : ∃ rows, allRows = rows ∧ PRet C.P 85 [] (.lslc 3 rows 0 21 false) := ⟨_, rfl, all_spec⟩
  (repeat' ((conv => whnf); first | exact rfl | refine ⟨by kernel_rfl, ?_⟩ | exact ⟨rfl, rfl⟩ | refine ⟨rfl, ?_⟩ | refine ⟨by (first | omega | (simp (disch := omega) only [wrapI]; omega) | (simp (disch := omega) only [wrapI]; simp; omega) | (simp; omega)), ?_⟩ | (intro ep) | refine ⟨_, hall, ?_⟩ | (refine ifB (fun hb => ?_) (fun hb => ?_) <;> (try simp only [decide_eq_true_eq, decide_eq_false_iff_not, beq_iff_eq, beq_eq_false_iff_ne, bne_iff_ne, bne_eq_false_iff_eq, ne_eq, not_false_eq_true, not_true_eq_false, Bool.not_eq_true, Bool.not_eq_true', Bool.not_eq_false', Int.not_lt, Int.not_le] at hb) <;> (try simp (disch := omega) only [wrapI] at hb) <;> (try (exfalso; omega))) | fail))
  (conv => whnf)
  rename_i e0 e1
  obtain ⟨e2, he2⟩ : ∃ e2, e2 = ep := ⟨_, rfl⟩
  subst he2
  refine loopM ok mixed (A := A66) [0, 4, 5, 6] [0, 1, 2] (S := { i : Nat // i ≤ n })
    (fr := fun s => frOf 0 87 [(0, .int .i64 n), (4, .optr (.s 0) e0 1 0 0), (5, .optr (.s 2) e2 1 0 0), (6, .int .i64 ((s.1 + 1 : Nat) : Int))])
    (h := fun s => ⟨[.vec e0 [[.lslc 3 rows 0 21 false]], .vec e1 (iRows (table s.1 ++ List.replicate (n - s.1) 0)), .vec e2 [[.oslc (.s 1) e1 1 0 (n + 1) false]], .hole, .hole, .hole, .hole], []⟩) (μ := fun s => n - s.1) ⟨0, Nat.zero_le n⟩ ?_ ?_ ?_
  · rfl
  · show (⟨[AObj.vec e0 [[.lslc 3 rows 0 21 false]], .vec e1 (List.replicate (IntKind.i64.wrap (↑n + 1)).toNat [AV.int .i64 0]), .vec e2 [[.oslc (.s 1) e1 1 0 (IntKind.i64.wrap (↑n + 1)).toNat false]], .hole, .hole, .hole, .hole], []⟩ : Heap) = ⟨[_, AObj.vec e1 (iRows ([0] ++ List.replicate n 0)), _, _, _, _, _], []⟩
    rw [wn]
    simp [iRows, List.replicate_succ]
  · intro s
    have hi := s.2
    (conv => whnf)
    refine ifB (fun h1 => ?_) (fun h1 => ?_)
    · simp only [decide_eq_true_eq] at h1
      (repeat' ((conv => whnf); first | exact rfl | refine ⟨by kernel_rfl, ?_⟩ | exact ⟨rfl, rfl⟩ | refine ⟨rfl, ?_⟩ | refine ⟨by (first | omega | (simp (disch := omega) only [wrapI]; omega) | (simp (disch := omega) only [wrapI]; simp; omega) | (simp; omega)), ?_⟩ | (intro ep) | refine optS (iRows_get (rep_get (n := n) (i := s.1) (by omega))) ?_ | fail))
      (conv => whnf)
      refine loopM ok mixed (A := A66) [0, 4, 5, 6, 30, 31, 32] [0, 1, 2] (S := { k : Nat // k ≤ 21 })
        (fr := fun k => frOf 0 87 [(0, .int .i64 n), (4, .optr (.s 0) e0 1 0 0), (5, .optr (.s 2) e2 1 0 0), (6, .int .i64 ((s.1 + 1 : Nat) : Int)), (30, .lslc 3 rows 0 21 false), (31, .int .i64 21), (32, .int .i64 (k.1 : Int))])
        (h := fun k => ⟨[.vec e0 [[.lslc 3 rows 0 21 false]], .vec e1 (iRows (midT n s.1 k.1)), .vec e2 [[.oslc (.s 1) e1 1 0 (n + 1) false]], .hole, .hole, .hole, .hole], []⟩) (μ := fun k => 21 - k.1) ⟨0, Nat.zero_le _⟩ rfl ?_ ?_
      · show (⟨[AObj.vec e0 [[.lslc 3 rows 0 21 false]], .vec e1 ((iRows (table s.1 ++ List.replicate (n - s.1) 0)).set (0 + (((s.1 + 1 : Nat) : Int)).toNat) [AV.int .i64 (-1)]), .vec e2 [[.oslc (.s 1) e1 1 0 (n + 1) false]], .hole, .hole, .hole, .hole], []⟩ : Heap) = _
        rw [iRows_set, midT_zero (by omega)]
      · intro k
        have hk := k.2
        (conv => whnf)
        refine ifB (fun h2 => ?_) (fun h2 => ?_)
        · simp only [decide_eq_true_eq] at h2
          obtain ⟨v, d, t, g1, g2⟩ := sRow_get (k := k.1) (by omega)
          have gp := tk_pos g2
          rw [hr] at g1
          have hbd := tab_bd s.1 ((↑(s.1 + 1) - ticks v d t).toNat) (by omega)
          (repeat' ((conv => whnf); first | exact rfl | refine ⟨by kernel_rfl, ?_⟩ | exact ⟨rfl, rfl⟩ | refine ⟨rfl, ?_⟩ | refine ⟨by (first | omega | (simp (disch := omega) only [wrapI]; omega) | (simp (disch := omega) only [wrapI]; simp; omega) | (simp; omega)), ?_⟩ | (intro ep) | refine ⟨_, ticks_spec v d t, ?_⟩ | refine optS (by (try simp (disch := omega) only [wrapI]); first | exact midR_lo (by omega) | exact midR_hi (by omega) | (rw [Nat.zero_add, Int.toNat_natCast]; exact g1)) ?_ | (refine ifB (fun hb => ?_) (fun hb => ?_) <;> (try simp only [decide_eq_true_eq, decide_eq_false_iff_not, beq_iff_eq, beq_eq_false_iff_ne, bne_iff_ne, bne_eq_false_iff_eq, ne_eq, not_false_eq_true, not_true_eq_false, Bool.not_eq_true, Bool.not_eq_true', Bool.not_eq_false', Int.not_lt, Int.not_le] at hb) <;> (try simp (disch := omega) only [wrapI] at hb) <;> (try (exfalso; omega))) | fail))
          all_goals refine back_of ⟨k.1 + 1, by omega⟩ ⟨by (first | exact rfl | (simp (disch := omega) only [wrapI]; exact rfl)), ?_, by simp only; omega⟩
          all_goals (try simp (disch := omega) only [wrapI])
          all_goals show (⟨[AObj.vec e0 [[.lslc 3 rows 0 21 false]], AObj.vec e1 _, AObj.vec e2 [[.oslc (.s 1) e1 1 0 (n + 1) false]], _, _, _, _], []⟩ : Heap) = ⟨[AObj.vec e0 [[.lslc 3 rows 0 21 false]], AObj.vec e1 (iRows (midT n s.1 (k.1 + 1))), AObj.vec e2 [[.oslc (.s 1) e1 1 0 (n + 1) false]], _, _, _, _], []⟩
          all_goals first
            | (rw [iRows_set, midT_set g2 (by simp only [better]; rw [if_pos (by omega)])]; done)
            | (rw [midT_succ g2 (by simp only [better]; rw [if_neg (by omega)])]; done)
        · simp only [decide_eq_false_iff_not] at h2
          have e21 : k.1 = 21 := by omega
          (conv => whnf)
          refine back_of ⟨s.1 + 1, by omega⟩ ⟨?_, ?_, by simp only; omega⟩
          · rw [IntWalk.i64_in _ (by omega)]; rfl
          · rw [e21, midT_last]; rfl
    · simp only [decide_eq_false_iff_not] at h1
      have e : s.1 = n := by omega
      have e2' : table n ++ List.replicate (n - n) 0 = table n := by simp
      (conv => whnf)
      rw [e, e2']
      (repeat' ((conv => whnf); first | exact rfl | refine ⟨by kernel_rfl, ?_⟩ | exact ⟨rfl, rfl⟩ | refine ⟨rfl, ?_⟩ | refine ⟨by (first | omega | (simp (disch := omega) only [wrapI]; omega) | (simp (disch := omega) only [wrapI]; simp; omega) | (simp; omega)), ?_⟩ | (intro ep) | refine optS (tabR (by omega)) ?_ | (refine ifB (fun hb => ?_) (fun hb => ?_) <;> (try simp only [decide_eq_true_eq, decide_eq_false_iff_not, beq_iff_eq, beq_eq_false_iff_ne, bne_iff_ne, bne_eq_false_iff_eq, ne_eq, not_false_eq_true, not_true_eq_false, Bool.not_eq_true, Bool.not_eq_true', Bool.not_eq_false', Int.not_lt, Int.not_le] at hb) <;> (try simp (disch := omega) only [wrapI] at hb) <;> (try (exfalso; omega))) | fail))
      · rw [hf] at hb
        unfold sigV
        rw [if_pos hb]
      · rename_i e4
        rw [hf] at hb
        obtain ⟨e5, he5⟩ : ∃ e5, e5 = ep := ⟨_, rfl⟩
        subst he5
        (conv => whnf)
        refine ACalls.liftV 4 6 e4 3 (by decide) rfl ?_
        intro e6
        have key := split_spec n hn e0 e1 e2 e4 e5 n 768 [] e6 (Nat.le_refl _) hb (fun hne => by have := (tkN_pos (nxt_spec hb hne).1).2.1; omega) (by simp)
        rw [hr] at key
        simp only [List.nil_append] at key
        refine ACalls.part (dy := []) 7 (by exact rfl) (by exact rfl) (by exact rfl) key ?_
        rintro r h1 ⟨rfl, e6', hp, hd⟩
        rw [hp, hd]
        (repeat' (first | exact rfl | ((conv => whnf); first | exact rfl | refine ⟨rfl, ?_⟩ | refine ⟨pure_outR _ hb, ?_⟩ | fail)))
        unfold sigV
        rw [if_neg (by omega)]

end Go.Ab.V
