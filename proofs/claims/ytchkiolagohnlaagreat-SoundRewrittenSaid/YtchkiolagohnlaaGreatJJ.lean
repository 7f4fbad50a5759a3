/-
  What is proved here serves the law's text: each part says its own claim and its conditions. No condition is left open.
-/
import Derived.Test.YtchkiolagohnlaaGreatJI
import Derived.IntWalk
set_option linter.unusedSimpArgs false
set_option linter.unusedVariables false

/-
  The fewest signs, as a table. No condition.
-/
namespace Go.Ab.V
open Go.Proofs

/-- the signs as plain data -/
def allS : List (Int × Bool × Bool) := allRows.map fun r => match r with
  | [.int _ v, .bool d, .bool t] => (v, d, t)
  | _ => (0, false, false)
def sRow (s : Int × Bool × Bool) : List AV := [.int .i64 s.1, .bool s.2.1, .bool s.2.2]
def tkS (s : Int × Bool × Bool) : Int := ticks s.1 s.2.1 s.2.2

theorem allRows_eq : allRows = allS.map sRow := rfl
theorem allS_len : allS.length = 21 := by decide

/-- one sign more in the account of a duration i, whose fewest are x so far -/
def better (tab : List Int) (i : Int) (x : Int) (t : Int) : Int :=
  let y := tab.getD (i - t).toNat (-1)
  if t ≤ i ∧ 0 ≤ y ∧ (x < 0 ∨ y + 1 < x) then y + 1 else x
def least (tab : List Int) (i : Int) : Int := (allS.map tkS).foldl (better tab i) (-1)
def table : Nat → List Int
  | 0 => [0]
  | n + 1 => table n ++ [least (table n) (n + 1)]

end Go.Ab.V

/-
  The document's table of fewest signs. No condition.
-/
namespace Go.Ab.V
open Go.Proofs

def iRows (l : List Int) : List (List AV) := l.map fun x => [.int .i64 x]

theorem iRows_get {l : List Int} {i : Nat} {x : Int} (h : l[i]? = some x) : (iRows l)[i]? = some [.int .i64 x] := by
  simp [iRows, h]
theorem iRows_set (l : List Int) (i : Nat) (x : Int) : (iRows l).set i [.int .i64 x] = iRows (l.set i x) := by
  simp [iRows, List.map_set]
theorem table_len : ∀ n, (table n).length = n + 1 := by
  intro n
  induction n with
  | zero => rfl
  | succ n ih => simp [table, ih]

/-- the table of a duration i + 1 after k signs -/
def bestK (tab : List Int) (i : Int) (k : Nat) : Int := ((allS.map tkS).take k).foldl (better tab i) (-1)
def midT (n i k : Nat) : List Int := table i ++ [bestK (table i) ((i + 1 : Nat) : Int) k] ++ List.replicate (n - i - 1) 0
theorem midT_zero {n i : Nat} (h : i + 1 ≤ n) : (table i ++ List.replicate (n - i) 0).set (0 + (((i + 1 : Nat) : Int)).toNat) (-1) = midT n i 0 := by
  obtain ⟨m, hm⟩ : ∃ m, n - i = m + 1 := ⟨n - i - 1, by omega⟩
  have e : n - i - 1 = m := by omega
  rw [Nat.zero_add, Int.toNat_natCast]
  simp [List.set_append, midT, bestK, table_len, hm, List.replicate_succ]
theorem rep_get {n i : Nat} (h : i + 1 ≤ n) : (table i ++ List.replicate (n - i) 0)[0 + (((i + 1 : Nat) : Int)).toNat]? = some 0 := by
  rw [Nat.zero_add, Int.toNat_natCast, List.getElem?_append_right (by simp [table_len]), List.getElem?_replicate]
  simp [table_len]; omega
theorem midR_lo {n i k : Nat} {x : Int} (h : 0 ≤ x ∧ x ≤ i) : (iRows (midT n i k))[0 + x.toNat]? = some [.int .i64 ((table i).getD x.toNat (-1))] := by
  refine iRows_get ?_
  have hl : x.toNat < (table i).length := by rw [table_len]; omega
  rw [Nat.zero_add, midT, List.append_assoc, List.getElem?_append_left hl, List.getElem?_eq_getElem hl]
  simp [List.getD, hl]
theorem midR_hi {n i k j : Nat} (h : j = i + 1) : (iRows (midT n i k))[0 + ((j : Nat) : Int).toNat]? = some [.int .i64 (bestK (table i) ((i + 1 : Nat) : Int) k)] := by
  subst h
  refine iRows_get ?_
  rw [Nat.zero_add, Int.toNat_natCast, midT, List.append_assoc, List.getElem?_append_right (by rw [table_len]; omega), table_len]
  simp

theorem sRow_get {k : Nat} (h : k < 21) : ∃ v d t, allRows[k]? = some [.int .i64 v, .bool d, .bool t] ∧ (allS.map tkS)[k]? = some (ticks v d t) := by
  have hl : k < allS.length := by rw [allS_len]; exact h
  refine ⟨allS[k].1, allS[k].2.1, allS[k].2.2, ?_, ?_⟩
  · rw [allRows_eq, List.getElem?_map, List.getElem?_eq_getElem hl]; rfl
  · rw [List.getElem?_map, List.getElem?_eq_getElem hl]; rfl
theorem tk_pos {k : Nat} {x : Int} (h : (allS.map tkS)[k]? = some x) : 4 ≤ x ∧ x ≤ 576 := by
  have h1 : x ∈ allS.map tkS := List.mem_of_getElem? h
  have h2 : ∀ x ∈ allS.map tkS, 4 ≤ x ∧ x ≤ 576 := by decide
  exact h2 x h1
theorem bestK_succ {tab : List Int} {i x : Int} {k : Nat} (h : (allS.map tkS)[k]? = some x) : bestK tab i (k + 1) = better tab i (bestK tab i k) x := by
  unfold bestK
  have hl : k < (allS.map tkS).length := (List.getElem?_eq_some_iff.1 h).1
  have e := (List.getElem?_eq_some_iff.1 h).2
  rw [← List.take_append_getElem hl, List.foldl_append, e]
  rfl
theorem midT_succ {n i k : Nat} {x : Int} (h : (allS.map tkS)[k]? = some x) (h1 : better (table i) ((i + 1 : Nat) : Int) (bestK (table i) ((i + 1 : Nat) : Int) k) x = bestK (table i) ((i + 1 : Nat) : Int) k) : midT n i (k + 1) = midT n i k := by
  unfold midT; rw [bestK_succ h, h1]
theorem midT_set {n i k : Nat} {x y : Int} (h : (allS.map tkS)[k]? = some x) (h1 : better (table i) ((i + 1 : Nat) : Int) (bestK (table i) ((i + 1 : Nat) : Int) k) x = y) : (midT n i k).set (0 + (((i + 1 : Nat) : Int)).toNat) y = midT n i (k + 1) := by
  unfold midT; rw [bestK_succ h, h1, Nat.zero_add, Int.toNat_natCast, List.append_assoc, List.set_append_right _ _ (by rw [table_len]; omega), table_len, List.append_assoc]
  simp
theorem midT_last {n i : Nat} : midT n i 21 = table (i + 1) ++ List.replicate (n - (i + 1)) 0 := by
  unfold midT bestK
  rw [List.take_of_length_le (by decide)]
  rw [show n - i - 1 = n - (i + 1) by omega]
  rfl
theorem bestK_bd {tab : List Int} {i : Int} {M : Int} (hM : -1 ≤ M) (h : ∀ j, j < tab.length → tab.getD j (-1) + 1 ≤ M) : ∀ k, -1 ≤ bestK tab i k ∧ bestK tab i k ≤ M := by
  intro k
  unfold bestK
  generalize (allS.map tkS).take k = l
  have key : ∀ (l : List Int) (x : Int), -1 ≤ x → x ≤ M → -1 ≤ l.foldl (better tab i) x ∧ l.foldl (better tab i) x ≤ M := by
    intro l
    induction l with
    | nil => intro x h1 h2; exact ⟨h1, h2⟩
    | cons t l ih =>
      intro x h1 h2
      refine ih _ ?_ ?_
      · simp only [better]; split <;> omega
      · simp only [better]
        split
        · rename_i hc
          by_cases hj : (i - t).toNat < tab.length
          · exact h _ hj
          · have : tab.getD (i - t).toNat (-1) = -1 := by
              have hn : tab[(i - t).toNat]? = none := List.getElem?_eq_none (by omega)
              simp [List.getD, hn]
            omega
        · exact h2
  exact key l (-1) (by omega) hM
theorem tab_all : ∀ (n j : Nat), j < (table n).length → -1 ≤ (table n).getD j (-1) ∧ (table n).getD j (-1) ≤ n := by
  intro n
  induction n with
  | zero =>
    intro j h
    have : j = 0 := by simp [table] at h; exact h
    subst this
    simp [table, List.getD]
  | succ n ih =>
    intro j h
    have hl := table_len n
    simp only [table, List.getD]
    by_cases hj : j < n + 1
    · rw [List.getElem?_append_left (by omega)]
      have := ih j (by omega)
      simp only [List.getD] at this
      omega
    · rw [List.getElem?_append_right (by omega)]
      have e : j - (table n).length = 0 := by rw [table_len] at h; omega
      rw [e]
      have := bestK_bd (tab := table n) (i := ((n + 1 : Nat) : Int)) (M := n + 1) (by omega) (fun j hj => by have := ih j hj; omega) 21
      unfold bestK at this
      rw [List.take_of_length_le (by decide)] at this
      simp only [least, List.getElem?_cons_zero, Option.getD_some]
      exact ⟨this.1, this.2⟩
theorem tab_bd (n j : Nat) (h : j ≤ n) : -1 ≤ (table n).getD j (-1) ∧ (table n).getD j (-1) ≤ n := tab_all n j (by rw [table_len]; omega)
end Go.Ab.V

/-
  The fewest signs of a duration, and the choice of the next one. No condition.
-/
namespace Go.Ab.V
open Go.Proofs

/-- the ticks of the signs, in descending order -/
def tkL : List Int := allS.map tkS
/-- how many signs a duration takes; -1: it can't be written -/
def fw (n : Nat) : Int := (table n).getD n (-1)

theorem table_getD : ∀ {N n : Nat}, n ≤ N → (table N).getD n (-1) = fw n := by
  intro N
  induction N with
  | zero =>
    intro n h
    obtain rfl : n = 0 := by omega
    rfl
  | succ N ih =>
    intro n h
    by_cases hn : n = N + 1
    · subst hn; rfl
    · rw [← ih (show n ≤ N by omega)]
      simp only [table, List.getD]
      rw [List.getElem?_append_left (by rw [table_len]; omega)]

theorem fw_bd (n : Nat) : -1 ≤ fw n ∧ fw n ≤ n := tab_bd n n (Nat.le_refl _)

theorem fw_succ (n : Nat) : fw (n + 1) = tkL.foldl (better (table n) ((n + 1 : Nat) : Int)) (-1) := by
  unfold fw
  simp only [table, List.getD]
  rw [List.getElem?_append_right (by rw [table_len]; omega), table_len]
  simp [least, tkL]

/-- what the fold finds -/
theorem fold_best {tab : List Int} {i : Int} : ∀ (l : List Int) (x : Int), -1 ≤ x →
    (x ≤ l.foldl (better tab i) x ∨ 0 ≤ l.foldl (better tab i) x) ∧ (0 ≤ x → l.foldl (better tab i) x ≤ x) ∧ (0 ≤ x → 0 ≤ l.foldl (better tab i) x) ∧
    (∀ t ∈ l, t ≤ i → 0 ≤ tab.getD (i - t).toNat (-1) → 0 ≤ l.foldl (better tab i) x ∧ l.foldl (better tab i) x ≤ tab.getD (i - t).toNat (-1) + 1) ∧
    (l.foldl (better tab i) x = x ∨ ∃ t ∈ l, t ≤ i ∧ 0 ≤ tab.getD (i - t).toNat (-1) ∧ l.foldl (better tab i) x = tab.getD (i - t).toNat (-1) + 1) := by
  intro l
  induction l with
  | nil => intro x hx; exact ⟨.inl (Int.le_refl _), fun _ => Int.le_refl _, fun h => h, fun t ht => by simp at ht, .inl rfl⟩
  | cons a l ih =>
    intro x hx
    simp only [List.foldl_cons]
    have hb : better tab i x a = x ∨ (a ≤ i ∧ 0 ≤ tab.getD (i - a).toNat (-1) ∧ better tab i x a = tab.getD (i - a).toNat (-1) + 1 ∧ (x < 0 ∨ better tab i x a < x)) := by
      simp only [better]
      split
      · rename_i h; exact .inr ⟨h.1, h.2.1, rfl, h.2.2⟩
      · exact .inl rfl
    have hge : a ≤ i → 0 ≤ tab.getD (i - a).toNat (-1) → 0 ≤ better tab i x a ∧ better tab i x a ≤ tab.getD (i - a).toNat (-1) + 1 := by
      intro h1 h2
      simp only [better]
      split
      · omega
      · omega
    obtain ⟨i1, i2, i3, i4, i5⟩ := ih (better tab i x a) (by rcases hb with h | ⟨_, h1, h2, _⟩ <;> omega)
    refine ⟨?_, fun h => ?_, fun h => ?_, fun t ht h1 h2 => ?_, ?_⟩
    · rcases hb with h | ⟨_, h1, h2, h3⟩
      · rw [h] at i1; rw [h]; exact i1
      · right; exact i3 (by omega)
    · rcases hb with h' | ⟨_, h1, h2, h3⟩
      · rw [h'] at i2; rw [h']; exact i2 h
      · have := i2 (by omega); omega
    · rcases hb with h' | ⟨_, h1, h2, h3⟩
      · rw [h'] at i3; rw [h']; exact i3 h
      · exact i3 (by omega)
    · rcases List.mem_cons.1 ht with rfl | ht
      · have := hge h1 h2
        exact ⟨i3 this.1, Int.le_trans (i2 this.1) this.2⟩
      · exact i4 t ht h1 h2
    · rcases i5 with h | ⟨t, h1, h2⟩
      · rcases hb with h' | ⟨h1, h2, h3, _⟩
        · left; rw [h, h']
        · right; exact ⟨a, by simp, h1, h2, by rw [h, h3]⟩
      · right; exact ⟨t, by simp [h1], h2⟩

theorem tkL_pos : ∀ t ∈ tkL, 4 ≤ t ∧ t ≤ 576 := by decide
theorem tkL_len : tkL.length = 21 := by decide

theorem fw_le {n : Nat} {t : Int} (ht : t ∈ tkL) (h : t ≤ n) (h0 : 0 ≤ fw ((n : Int) - t).toNat) : 0 ≤ fw n ∧ fw n ≤ fw ((n : Int) - t).toNat + 1 := by
  have hp := tkL_pos t ht
  match n, h with
  | 0, h => exact absurd h (by simp only [Int.natCast_zero]; omega)
  | n + 1, h =>
    rw [fw_succ]
    have hg : (table n).getD (((n + 1 : Nat) : Int) - t).toNat (-1) = fw (((n + 1 : Nat) : Int) - t).toNat := table_getD (by omega)
    have := (fold_best (tab := table n) (i := ((n + 1 : Nat) : Int)) tkL (-1) (by omega)).2.2.2.1 t ht h (by rw [hg]; exact h0)
    rw [hg] at this
    exact this

theorem fw_step {n : Nat} (h : 0 ≤ fw n) (h0 : n ≠ 0) : ∃ t ∈ tkL, t ≤ n ∧ 0 ≤ fw ((n : Int) - t).toNat ∧ fw n = fw ((n : Int) - t).toNat + 1 := by
  match n, h0 with
  | 0, h0 => exact absurd rfl h0
  | n + 1, _ =>
    rw [fw_succ] at h ⊢
    rcases (fold_best (tab := table n) (i := ((n + 1 : Nat) : Int)) tkL (-1) (by omega)).2.2.2.2 with e | ⟨t, h1, h2, h3, h4⟩
    · omega
    · have hp := tkL_pos t h1
      have hg : (table n).getD (((n + 1 : Nat) : Int) - t).toNat (-1) = fw (((n + 1 : Nat) : Int) - t).toNat := table_getD (by omega)
      rw [hg] at h3 h4
      exact ⟨t, h1, h2, h3, h4⟩

/-- may the sign k come first? -/
def okK (n : Nat) (k : Nat) : Bool := decide (tkL.getD k 0 ≤ n) && decide (fw ((n : Int) - tkL.getD k 0).toNat = fw n - 1)
def firstK (p : Nat → Bool) : Nat → Nat → Nat
  | 0, k => k
  | f + 1, k => if p k = true then k else firstK p f (k + 1)
theorem firstK_le {p : Nat → Bool} : ∀ {f k j : Nat}, p j = true → k ≤ j → j < k + f → firstK p f k ≤ j ∧ p (firstK p f k) = true := by
  intro f
  induction f with
  | zero => intro k j _ h1 h2; omega
  | succ f ih =>
    intro k j hp h1 h2
    unfold firstK
    split
    · rename_i h; exact ⟨h1, h⟩
    · rename_i h
      have : k ≠ j := fun e => h (e ▸ hp)
      exact ih hp (by omega) (by omega)
/-- the sign that comes first -/
def nxt (n : Nat) : Nat := firstK (okK n) 21 0

theorem nxt_spec {n : Nat} (h : 0 ≤ fw n) (h0 : n ≠ 0) : nxt n < 21 ∧ okK n (nxt n) = true := by
  obtain ⟨t, h1, h2, h3, h4⟩ := fw_step h h0
  obtain ⟨k, hk⟩ := List.getElem?_of_mem h1
  have hk21 : k < 21 := by have := (List.getElem?_eq_some_iff.1 hk).1; rw [tkL_len] at this; exact this
  have hok : okK n k = true := by
    simp only [okK, List.getD, hk, Option.getD_some, Bool.and_eq_true, decide_eq_true_eq]
    omega
  have := firstK_le (f := (21)) (k := 0) hok (by omega) (by omega)
  exact ⟨by unfold nxt; omega, this.2⟩
theorem nxt_min {n k : Nat} (h : okK n k = true) (hk : k < 21) : nxt n ≤ k := (firstK_le (f := (21)) (k := 0) h (by omega) (by omega)).1
def tkN (k : Nat) : Nat := (tkL.getD k 0).toNat
/-- the signs that are chosen, by their numbers -/
def pickL : Nat → Nat → List Nat
  | 0, _ => []
  | f + 1, n => if n = 0 then [] else nxt n :: pickL f (n - tkN (nxt n))

theorem tkN_pos {k : Nat} (h : k < 21) : 4 ≤ tkN k ∧ tkN k ≤ 576 ∧ ((tkN k : Nat) : Int) = tkL.getD k 0 := by
  have hl : k < tkL.length := by rw [tkL_len]; exact h
  have : tkL.getD k 0 ∈ tkL := by simp [List.getD, hl]
  have := tkL_pos _ this
  unfold tkN
  omega

theorem pickL_fuel : ∀ (f f' n : Nat), n ≤ f → n ≤ f' → 0 ≤ fw n → pickL f n = pickL f' n := by
  intro f
  induction f with
  | zero =>
    intro f' n h h' _
    obtain rfl : n = 0 := by omega
    cases f' <;> simp [pickL]
  | succ f ih =>
    intro f' n h h' hw
    cases f' with
    | zero =>
      obtain rfl : n = 0 := by omega
      simp [pickL]
    | succ f' =>
      simp only [pickL]
      by_cases h0 : n = 0
      · rw [if_pos h0, if_pos h0]
      · rw [if_neg h0, if_neg h0]
        obtain ⟨n1, n2⟩ := nxt_spec hw h0
        obtain ⟨p1, p2, p3⟩ := tkN_pos n1
        simp only [okK, Bool.and_eq_true, decide_eq_true_eq] at n2
        rw [ih f' (n - tkN (nxt n)) (by omega) (by omega)]
        have e : ((n : Int) - tkL.getD (nxt n) 0).toNat = n - tkN (nxt n) := by omega
        rw [e] at n2
        rcases fw_step hw h0 with ⟨t, _, _, h3, h4⟩
        omega

/-- the signs of a duration -/
def sigK (n : Nat) : List Nat := pickL n n
theorem sigK_zero : sigK 0 = [] := rfl
theorem fw_nxt {n : Nat} (hw : 0 ≤ fw n) (h0 : n ≠ 0) : tkN (nxt n) ≤ n ∧ fw (n - tkN (nxt n)) = fw n - 1 ∧ 0 ≤ fw (n - tkN (nxt n)) := by
  obtain ⟨n1, n2⟩ := nxt_spec hw h0
  obtain ⟨p1, p2, p3⟩ := tkN_pos n1
  simp only [okK, Bool.and_eq_true, decide_eq_true_eq] at n2
  have e : ((n : Int) - tkL.getD (nxt n) 0).toNat = n - tkN (nxt n) := by omega
  rw [e] at n2
  rcases fw_step hw h0 with ⟨t, _, _, h3, h4⟩
  exact ⟨by omega, n2.2, by omega⟩
theorem sigK_step {n : Nat} (hw : 0 ≤ fw n) (h0 : n ≠ 0) : sigK n = nxt n :: sigK (n - tkN (nxt n)) := by
  obtain ⟨n1, n2⟩ := nxt_spec hw h0
  obtain ⟨p1, p2, p3⟩ := tkN_pos n1
  obtain ⟨q1, q2, q3⟩ := fw_nxt hw h0
  match n, h0 with
  | 0, h0 => exact absurd rfl h0
  | n + 1, _ =>
    unfold sigK
    conv => lhs; unfold pickL
    rw [if_neg (by omega), pickL_fuel n (n + 1 - tkN (nxt (n + 1))) _ (by omega) (Nat.le_refl _) q3]

/-- no later sign is greater -/
theorem nxt_mono {n : Nat} (hw : 0 ≤ fw n) (h0 : n ≠ 0) (h1 : n - tkN (nxt n) ≠ 0) : nxt n ≤ nxt (n - tkN (nxt n)) := by
  obtain ⟨n1, n2⟩ := nxt_spec hw h0
  obtain ⟨p1, p2, p3⟩ := tkN_pos n1
  obtain ⟨q1, q2, q3⟩ := fw_nxt hw h0
  obtain ⟨m1, m2⟩ := nxt_spec q3 h1
  obtain ⟨r1, r2, r3⟩ := tkN_pos m1
  obtain ⟨s1, s2, s3⟩ := fw_nxt q3 h1
  refine nxt_min ?_ m1
  have hm : tkL.getD (nxt (n - tkN (nxt n))) 0 ∈ tkL := by
    have hl : nxt (n - tkN (nxt n)) < tkL.length := by rw [tkL_len]; exact m1
    simp [List.getD, hl]
  have hn : tkL.getD (nxt n) 0 ∈ tkL := by
    have hl : nxt n < tkL.length := by rw [tkL_len]; exact n1
    simp [List.getD, hl]
  -- the same two signs in the other order
  have k1 : fw (n - tkN (nxt (n - tkN (nxt n)))) ≤ fw (n - tkN (nxt n) - tkN (nxt (n - tkN (nxt n)))) + 1 ∧ 0 ≤ fw (n - tkN (nxt (n - tkN (nxt n)))) := by
    have := fw_le (n := n - tkN (nxt (n - tkN (nxt n)))) hn (by omega)
    rw [show (((n - tkN (nxt (n - tkN (nxt n))) : Nat) : Int) - tkL.getD (nxt n) 0).toNat = n - tkN (nxt n) - tkN (nxt (n - tkN (nxt n))) by omega] at this
    exact ⟨(this s3).2, (this s3).1⟩
  have k2 : fw n ≤ fw (n - tkN (nxt (n - tkN (nxt n)))) + 1 := by
    have := fw_le (n := n) hm (by omega)
    rw [show ((n : Int) - tkL.getD (nxt (n - tkN (nxt n))) 0).toNat = n - tkN (nxt (n - tkN (nxt n))) by omega] at this
    exact (this k1.2).2
  simp only [okK, Bool.and_eq_true, decide_eq_true_eq]
  rw [show ((n : Int) - tkL.getD (nxt (n - tkN (nxt n))) 0).toNat = n - tkN (nxt (n - tkN (nxt n))) by omega]
  omega

end Go.Ab.V

/-
  The document's Signs. No condition.
-/
namespace Go.Ab.V
open Go.Proofs

def sgR (k : Nat) : List AV := allRows.getD k []
def outR (l : List Nat) : List (List AV) := l.map sgR

theorem tabR {n : Nat} {x : Int} (h : 0 ≤ x ∧ x ≤ n) : (iRows (table n))[0 + x.toNat]? = some [.int .i64 (fw x.toNat)] := by
  refine iRows_get ?_
  have hl : x.toNat < (table n).length := by rw [table_len]; omega
  rw [Nat.zero_add, ← table_getD (show x.toNat ≤ n by omega), List.getElem?_eq_getElem hl]
  simp [List.getD, hl]
theorem tkL_get {k : Nat} (h : k < 21) : ∃ v d t, allRows[k]? = some [.int .i64 v, .bool d, .bool t] ∧ sgR k = [.int .i64 v, .bool d, .bool t] ∧ ticks v d t = tkL.getD k 0 := by
  obtain ⟨v, d, t, h1, h2⟩ := sRow_get h
  exact ⟨v, d, t, h1, by simp [sgR, List.getD, h1], by simp [tkL, List.getD, h2]⟩
theorem sigK_len : ∀ {n : Nat}, 0 ≤ fw n → (sigK n).length ≤ n := by
  intro n
  induction n using Nat.strongRecOn with
  | _ n ih =>
    intro h
    by_cases h0 : n = 0
    · subst h0; simp [sigK_zero]
    · obtain ⟨a, b, c⟩ := fw_nxt h h0
      have p := (tkN_pos (nxt_spec h h0).1).1
      rw [sigK_step h h0]
      have := ih _ (by omega) c
      simp only [List.length_cons]
      omega
theorem sigK_lt : ∀ {n : Nat}, 0 ≤ fw n → ∀ k ∈ sigK n, k < 21 := by
  intro n
  induction n using Nat.strongRecOn with
  | _ n ih =>
    intro h k hk
    by_cases h0 : n = 0
    · subst h0; rw [sigK_zero] at hk; cases hk
    · obtain ⟨a, b, c⟩ := fw_nxt h h0
      have p := (tkN_pos (nxt_spec h h0).1).1
      rw [sigK_step h h0] at hk
      rcases List.mem_cons.1 hk with rfl | hk
      · exact (nxt_spec h h0).1
      · exact ih _ (by omega) c k hk
theorem pure_outR (n : Nat) (h : 0 ≤ fw n) : pureRows (outR (sigK n)) := by
  intro row hr c hc
  simp only [outR, List.mem_map] at hr
  obtain ⟨k, hk, rfl⟩ := hr
  obtain ⟨v, d, t, _, g, _⟩ := tkL_get (sigK_lt h k hk)
  rw [g] at hc
  simp only [List.mem_cons, List.not_mem_nil, or_false] at hc
  rcases hc with rfl | rfl | rfl <;> rfl
theorem outR_snoc (l : List Nat) (k : Nat) : outR (l ++ [k]) = outR l ++ [sgR k] := by simp [outR]

end Go.Ab.V
