/-
  What is proved here serves the law's text: each part says its own claim and its conditions. No condition is left open.
-/
import Derived.Test.YtffdekbcpnklnaaKR
import Derived.Test.YtffdekbcpnklnaaKO
set_option linter.unusedSimpArgs false
set_option linter.unusedVariables false

/-
  Meetings: plain definitions and laws. No condition.
-/
namespace Go.Ab.V
open Go.Proofs

/-- a meeting -/
structure Mt where
  tm : Int
  iv : Int
  mo : Int
def mtR (x : Mt) : List AV := [.int .i64 x.tm, .int .i64 x.iv, .int .i64 x.mo]
def mtsA (l : List Mt) : AV := .lslc 3 (l.map mtR) 0 l.length false
def movO : Option (Int × Int) → Int → Int → Int
  | none, _, _ => 0
  | some p, a, b => mot (a - p.1) (b - p.2)
def meetP (u l : List Tn) : Option (Int × Int) → List Int → List Mt
  | _, [] => []
  | o, t :: r => if atR u t < 0 ∨ atR l t < 0 then meetP u l o r else ⟨t, atR u t - atR l t, movO o (atR u t) (atR l t)⟩ :: meetP u l (some (atR u t, atR l t)) r
/-- two ascending lists as one -/
def mrg : List Int → List Int → List Int
  | [], b => b
  | x :: a, [] => x :: a
  | x :: a, y :: b => if x < y then x :: mrg a (y :: b) else if y < x then y :: mrg (x :: a) b else x :: mrg a b
termination_by a b => a.length + b.length
def meets (u l : List Tn) : List Mt := meetP u l none (mrg (u.map (·.f)) (l.map (·.f)))
def meetV (u l : List Tn) : AV := if chkP [u] ≠ 0 then .tup [.nils, .int .i64 (chkP [u])] else if chkP [l] ≠ 0 then .tup [.nils, .int .i64 (chkP [l])] else .tup [mtsA (meets u l), .int .i64 0]

/-- a part that is right -/
def good (s : Int) : List Tn → Prop
  | [] => True
  | x :: r => 0 ≤ x.p ∧ x.p ≤ 127 ∧ s ≤ x.f ∧ x.f < x.t ∧ x.t ≤ 262144 ∧ good x.t r
theorem good_of {s : Int} : ∀ {l : List Tn}, rgt s l = true → good s l
  | [], _ => trivial
  | x :: r, h => by
    unfold rgt at h
    split at h
    · cases h
    · rename_i hb
      unfold tnBad at hb
      exact ⟨by omega, by omega, by omega, by omega, by omega, good_of h⟩
theorem good_ge : ∀ {l : List Tn} {s : Int}, good s l → ∀ (j : Nat) (h : j < l.length), s ≤ l[j].f
  | [], s, _, j, h => by simp at h
  | x :: r, s, ⟨_, _, h3, h4, _, h6⟩, 0, h => h3
  | x :: r, s, ⟨_, _, h3, h4, _, h6⟩, j + 1, h => by
    have := good_ge h6 j (by simpa using h)
    simp only [List.getElem_cons_succ]
    omega
theorem good_asc : ∀ {l : List Tn} {s : Int}, good s l → asc l
  | [], s, _, i, j, hi, hj => by simp at hj
  | x :: r, s, ⟨_, _, h3, h4, _, h6⟩, i, j + 1, hi, hj => by
    cases i with
    | zero =>
      have := good_ge h6 j (by simpa using hj)
      simp only [List.getElem_cons_succ, List.getElem_cons_zero]
      omega
    | succ i =>
      have := good_asc h6 i j (by omega) (by simpa using hj)
      simpa using this
theorem chk1 {p : List Tn} (h : chkP [p] = 0) : p.length ≤ 400 ∧ good 0 p := by
  unfold chkP at h
  simp only [List.length_singleton, anyB, List.any_cons, List.any_nil, Bool.or_false, decide_eq_true_eq, List.all_cons, List.all_nil, Bool.and_true] at h
  split at h
  · omega
  split at h
  · omega
  split at h
  · rename_i h1 h2; exact ⟨by omega, good_of h2⟩
  · omega
theorem atR_ge : ∀ {l : List Tn} {s : Int} (t : Int), good s l → t < s → atR l t = -1
  | [], s, t, _, _ => rfl
  | x :: r, s, t, ⟨_, _, h3, h4, _, h6⟩, h => by
    unfold atR
    rw [if_neg (by omega)]
    exact atR_ge t h6 (by omega)
/-- the search finds the tone -/
theorem atP_eq : ∀ {l : List Tn} {s : Int} (t : Int), good s l → atP l t = if atR l t < 0 then none else some (atR l t)
  | [], s, t, _ => by simp [atP, begun, atR]
  | x :: r, s, t, ⟨h1, h2, h3, h4, h5, h6⟩ => by
    have ih := atP_eq t h6
    by_cases c1 : x.f ≤ t
    · by_cases c2 : t < x.t
      · rw [show atR (x :: r) t = x.p by rw [atR, if_pos ⟨c1, c2⟩]]
        have hb : begun r t = 0 := by
          cases hr : r with
          | nil => rfl
          | cons y q =>
            have := good_ge h6 0 (by rw [hr]; simp)
            simp only [hr, List.getElem_cons_zero] at this
            unfold begun
            rw [if_neg (by omega)]
        unfold atP begun
        rw [if_pos c1, hb]
        simp [show ¬ x.t ≤ t by omega, show ¬ x.p < 0 by omega]
      · rw [show atR (x :: r) t = atR r t by rw [atR, if_neg (by omega)], ← ih]
        unfold atP
        rw [show begun (x :: r) t = begun r t + 1 by rw [begun, if_pos c1]]
        by_cases c3 : begun r t = 0
        · rw [c3]
          simp [show x.t ≤ t by omega]
        · obtain ⟨b, hb⟩ : ∃ b, begun r t = b + 1 := ⟨begun r t - 1, by omega⟩
          rw [hb]
          simp
    · rw [show atR (x :: r) t = -1 by rw [atR, if_neg (by omega), atR_ge t h6 (by omega)]]
      simp [atP, begun, c1]
/-- strictly ascending -/
def inc : List Int → Prop
  | [] => True
  | x :: r => (∀ y ∈ r, x < y) ∧ inc r
theorem inc_ext : ∀ {a b : List Int}, inc a → inc b → (∀ x, x ∈ a ↔ x ∈ b) → a = b
  | [], [], _, _, _ => rfl
  | [], y :: b, _, _, h => by have := (h y).2 (by simp); simp at this
  | x :: a, [], _, _, h => by have := (h x).1 (by simp); simp at this
  | x :: a, y :: b, ⟨h1, h2⟩, ⟨h3, h4⟩, h => by
    have hxy : x = y := by
      have e1 := (h x).1 (by simp)
      have e2 := (h y).2 (by simp)
      rcases List.mem_cons.1 e1 with rfl | e1
      · rfl
      · rcases List.mem_cons.1 e2 with e2 | e2
        · exact e2.symm
        · have := h3 x e1; have := h1 y e2; omega
    subst hxy
    rw [inc_ext h2 h4 fun z => ⟨fun hz => ?_, fun hz => ?_⟩]
    · rcases List.mem_cons.1 ((h z).1 (by simp [hz])) with rfl | e
      · have := h1 z hz; omega
      · exact e
    · rcases List.mem_cons.1 ((h z).2 (by simp [hz])) with rfl | e
      · have := h3 z hz; omega
      · exact e
theorem mrg_mem : ∀ (a b : List Int) (z : Int), z ∈ mrg a b ↔ z ∈ a ∨ z ∈ b
  | [], b, z => by rw [mrg]; simp
  | x :: a, [], z => by rw [mrg]; simp
  | x :: a, y :: b, z => by
    rw [mrg]
    split
    · rw [List.mem_cons, mrg_mem a (y :: b) z, List.mem_cons]
      simp only [List.mem_cons, or_assoc]
    · split
      · rw [List.mem_cons, mrg_mem (x :: a) b z]
        simp only [List.mem_cons]
        constructor <;> (rintro (h | h | h) <;> simp_all)
      · have : x = y := by omega
        subst this
        rw [List.mem_cons, mrg_mem a b z]
        simp only [List.mem_cons]
        constructor
        · rintro (h | h | h) <;> simp_all
        · rintro ((h | h) | h | h) <;> simp_all
termination_by a b => a.length + b.length
theorem mrg_inc : ∀ (a b : List Int), inc a → inc b → inc (mrg a b)
  | [], b, _, h => by rw [mrg]; exact h
  | x :: a, [], h, _ => by rw [mrg]; exact h
  | x :: a, y :: b, ha, hb => by
    rw [mrg]
    split
    · refine ⟨fun z hz => ?_, mrg_inc a (y :: b) ha.2 hb⟩
      rcases (mrg_mem _ _ _).1 hz with h | h
      · exact ha.1 z h
      · rcases List.mem_cons.1 h with rfl | h
        · assumption
        · have := hb.1 z h; omega
    · split
      · refine ⟨fun z hz => ?_, mrg_inc (x :: a) b ha hb.2⟩
        rcases (mrg_mem _ _ _).1 hz with h | h
        · rcases List.mem_cons.1 h with rfl | h
          · assumption
          · have := ha.1 z h; omega
        · exact hb.1 z h
      · refine ⟨fun z hz => ?_, mrg_inc a b ha.2 hb.2⟩
        rcases (mrg_mem _ _ _).1 hz with h | h
        · exact ha.1 z h
        · have := hb.1 z h; omega
termination_by a b => a.length + b.length
theorem good_inc : ∀ {l : List Tn} {s : Int}, good s l → inc (l.map (·.f)) ∧ ∀ y ∈ l.map (·.f), s ≤ y
  | [], s, _ => ⟨trivial, fun y h => by simp at h⟩
  | x :: r, s, ⟨h1, h2, h3, h4, h5, h6⟩ => by
    obtain ⟨i1, i2⟩ := good_inc h6
    refine ⟨⟨fun y hy => ?_, i1⟩, fun y hy => ?_⟩
    · have := i2 y hy
      show x.f < y
      omega
    · rcases List.mem_cons.1 hy with rfl | hy
      · exact h3
      · have := i2 y hy; omega
end Go.Ab.V

/-
  Sorted and compacted times are the merged times. No condition.
-/
namespace Go.Ab.V
open Go.Proofs Go.Lib

theorem inc_snoc : ∀ {l : List Int} {x : Int}, inc l → (∀ y ∈ l, y < x) → inc (l ++ [x])
  | [], x, _, _ => ⟨fun y h => by simp at h, trivial⟩
  | a :: r, x, ⟨h1, h2⟩, h => ⟨fun y hy => by
      rcases List.mem_append.1 hy with hy | hy
      · exact h1 y hy
      · rw [List.mem_singleton.1 hy]; exact h a (by simp), inc_snoc h2 fun y hy => h y (by simp [hy])⟩
theorem upTo_law (d : Array Int) (hs : ∀ i j, i ≤ j → j < d.size → d[i]! ≤ d[j]!) : ∀ m, m ≤ d.size → inc (compactUpTo d m) ∧ ∀ x, x ∈ compactUpTo d m ↔ ∃ j, j < m ∧ d[j]! = x
  | 0, _ => ⟨by simp [compactUpTo, inc], fun x => by simp [compactUpTo]⟩
  | m + 1, hm => by
    obtain ⟨h1, h2⟩ := upTo_law d hs m (by omega)
    rw [compactUpTo_succ]
    by_cases hk : keeps d m = true
    · rw [if_pos hk]
      have hk' : m = 0 ∨ d[m]! ≠ d[m - 1]! := by simpa [keeps] using hk
      refine ⟨inc_snoc h1 fun y hy => ?_, fun x => ?_⟩
      · obtain ⟨j, hj, rfl⟩ := (h2 y).1 hy
        have a := hs j (m - 1) (by omega) (by omega)
        have b := hs (m - 1) m (by omega) (by omega)
        rcases hk' with hk' | hk'
        · omega
        · omega
      · rw [List.mem_append, h2, List.mem_singleton]
        constructor
        · rintro (⟨j, hj, e⟩ | e)
          · exact ⟨j, by omega, e⟩
          · exact ⟨m, by omega, e.symm⟩
        · rintro ⟨j, hj, e⟩
          by_cases c : j = m
          · subst c; exact Or.inr e.symm
          · exact Or.inl ⟨j, by omega, e⟩
    · rw [if_neg hk, List.append_nil]
      have hk' : m ≠ 0 ∧ d[m]! = d[m - 1]! := by simpa [keeps] using hk
      refine ⟨h1, fun x => ?_⟩
      rw [h2]
      constructor
      · rintro ⟨j, hj, e⟩
        exact ⟨j, by omega, e⟩
      · rintro ⟨j, hj, e⟩
        by_cases c : j = m
        · subst c; exact ⟨j - 1, by omega, by rw [← hk'.2]; exact e⟩
        · exact ⟨j, by omega, e⟩
theorem cpt_srt (zs : List Int) : inc (cpt (srt zs)) ∧ ∀ x, x ∈ cpt (srt zs) ↔ x ∈ zs := by
  have hp : (srt zs).Pairwise fun a b => decide (a ≤ b) = true := List.pairwise_mergeSort (le := fun x y : Int => decide (x ≤ y)) (fun a b c h1 h2 => by simp at *; omega) (fun a b => by simp; omega) zs
  have hm : ∀ x, x ∈ srt zs ↔ x ∈ zs := fun x => List.mem_mergeSort
  generalize srt zs = ys at hp hm
  have hs : ∀ i j, i ≤ j → j < ys.toArray.size → ys.toArray[i]! ≤ ys.toArray[j]! := fun i j hij hj => by
    have hj' : j < ys.length := by simpa using hj
    rw [getElem!_pos ys.toArray i (by simp; omega), getElem!_pos ys.toArray j hj]
    by_cases c : i = j
    · subst c; omega
    · have := List.pairwise_iff_getElem.1 hp i j (by omega) hj' (by omega)
      simpa using this
  obtain ⟨h1, h2⟩ := upTo_law ys.toArray hs ys.length (by simp)
  refine ⟨h1, fun x => ?_⟩
  refine (h2 x).trans ?_
  rw [← hm x]
  constructor
  · rintro ⟨j, hj, rfl⟩
    rw [getElem!_pos ys.toArray j (by simpa using hj)]
    simp
  · intro hx
    obtain ⟨j, hj, rfl⟩ := List.mem_iff_getElem.1 hx
    refine ⟨j, hj, ?_⟩
    rw [getElem!_pos ys.toArray j (by simpa using hj)]
    simp
theorem times_eq {u l : List Tn} {a b : Int} (hu : good a u) (hl : good b l) : cpt (srt ((u ++ l).map (·.f))) = mrg (u.map (·.f)) (l.map (·.f)) := by
  obtain ⟨h1, h2⟩ := cpt_srt ((u ++ l).map (·.f))
  refine inc_ext h1 (mrg_inc _ _ (good_inc hu).1 (good_inc hl).1) fun x => ?_
  rw [h2, mrg_mem, List.map_append, List.mem_append]
theorem mrg_len : ∀ (a b : List Int), (mrg a b).length ≤ a.length + b.length
  | [], b => by rw [mrg]; simp
  | x :: a, [] => by rw [mrg]; simp
  | x :: a, y :: b => by
    rw [mrg]
    split
    · have := mrg_len a (y :: b); simp at *; omega
    · split
      · have := mrg_len (x :: a) b; simp at *; omega
      · have := mrg_len a b; simp at *; omega
termination_by a b => a.length + b.length
theorem srt_len (zs : List Int) : (srt zs).length = zs.length := List.length_mergeSort ..
end Go.Ab.V

/-
  Meetings as the document says them. No condition but the lengths.
-/
namespace Go.Ab.V
open Go.Proofs

def A72 : Ann := fun r => match r with
  | 16 => { slots := [(5, 0)] }
  | 20 => { slots := [(2, 1), (3, 2)] }
  | _ => {}
theorem mnA {a b : Int} (h : b < a) : (if (if false = true then a < b else b < a) then b else a) = b := by simp; omega
theorem mnB {a b : Int} (h : a ≤ b) : (if (if false = true then a < b else b < a) then b else a) = a := by simp; omega
def prO (o : Option (Int × Int)) : Int × Int := o.getD (0, 0)
abbrev St72 (u l : List Tn) (R : List Mt) := { z : Nat × Nat × Option (Int × Int) × List Mt × Nat // z.1 ≤ u.length ∧ z.2.1 ≤ l.length ∧ z.2.2.2.1.length ≤ z.1 + z.2.1 ∧ (z.2.2.2.1 = [] ↔ z.2.2.1 = none) ∧ z.2.2.2.1 ++ meetP u l z.2.2.1 (mrg ((u.map (·.f)).drop z.1) ((l.map (·.f)).drop z.2.1)) = R ∧ ∀ p, z.2.2.1 = some p → 0 ≤ p.1 ∧ p.1 ≤ 127 ∧ 0 ≤ p.2 ∧ p.2 ≤ 127 }
def fr72 (u l : List Tn) (i k : Nat) (o : Option (Int × Int)) (n : Nat) (ep : Nat) : List AV := frOf 0 111 [(0, tnsA u), (1, tnsA l), (5, .oslc (.s 2) ep 3 0 n false), (6, .int .i64 (prO o).1), (7, .int .i64 (prO o).2), (8, .int .i64 (i : Int)), (9, .int .i64 (k : Int))]
theorem stepM {u l : List Tn} {R : List Mt} {o : Option (Int × Int)} {out : List Mt} {t : Int} {r : List Int} (h : out ++ meetP u l o (t :: r) = R) :
    if atR u t < 0 ∨ atR l t < 0 then out ++ meetP u l o r = R else (out ++ [⟨t, atR u t - atR l t, movO o (atR u t) (atR l t)⟩]) ++ meetP u l (some (atR u t, atR l t)) r = R := by
  rw [meetP] at h
  split
  · rename_i c; rw [if_pos c] at h; exact h
  · rename_i c; rw [if_neg c] at h; rw [List.append_assoc]; exact h
theorem mrg_nil (a : List Int) : mrg a [] = a := by cases a <;> rw [mrg]
theorem mrg_nil' (b : List Int) : mrg [] b = b := by rw [mrg]
theorem good_lt : ∀ {l : List Tn} {s : Int}, good s l → ∀ (j : Nat) (h : j < l.length), l[j].f < 262144
  | [], s, _, j, h => by simp at h
  | x :: r, s, ⟨_, _, h3, h4, _, h6⟩, 0, h => by simp only [List.getElem_cons_zero]; omega
  | x :: r, s, ⟨_, _, h3, h4, _, h6⟩, j + 1, h => by
    have := good_lt h6 j (by simpa using h)
    simpa using this
theorem atR_le : ∀ {l : List Tn} {s : Int} (t : Int), good s l → -1 ≤ atR l t ∧ atR l t ≤ 127
  | [], s, t, _ => by simp [atR]
  | x :: r, s, t, ⟨h1, h2, h3, h4, _, h6⟩ => by
    unfold atR
    split
    · omega
    · exact atR_le t h6
set_option maxHeartbeats 16000000 in
set_option maxRecDepth 100000 in
theorem ref72 (u l : List Tn) (hu : good 0 u) (hl : good 0 l) (nu : u.length ≤ 400) (nl : l.length ≤ 400) : PRet C.P 72 [tnsA u, tnsA l] (mtsA (meets u l)) := by
  obtain ⟨R, hR⟩ : ∃ R, R = meets u l := ⟨_, rfl⟩
  rw [← hR]
  refine pret_of ok mixed (A := A72) 3 Try.func72 rfl ?_
  (repeat' (first | exact rfl | ((conv => whnf); first | exact rfl | exact ⟨rfl, rfl⟩ | refine ⟨(by kernel_rfl : drawOk _ _ _ _ = true), ?_⟩ | refine ⟨(by kernel_rfl : planOk _ _ _ _ = true), ?_⟩ | refine ⟨rfl, ?_⟩ | refine ⟨by (first | omega | (simp (disch := omega) only [wrapI]; omega) | (simp (disch := omega) only [wrapI]; simp; omega) | (simp; omega)), ?_⟩ | (intro ep) | (refine ifB (fun hb => ?_) (fun hb => ?_) <;> (try simp only [decide_eq_true_eq, decide_eq_false_iff_not, beq_iff_eq, beq_eq_false_iff_ne, bne_iff_ne, bne_eq_false_iff_eq, ne_eq, not_false_eq_true, not_true_eq_false, Bool.not_eq_true, Bool.not_eq_true', Bool.not_eq_false', Int.not_lt, Int.not_le] at hb) <;> (try simp (disch := omega) only [wrapI] at hb) <;> (try (exfalso; omega))) | fail)))
  all_goals (conv => whnf)
  refine wk_lift 5 2 3 rfl ?_
  intro e2
  refine loopY ok mixed (A := A72) [0, 1, 5, 6, 7, 8, 9] [2] (S := St72 u l R)
    (fr := fun z => fr72 u l z.1.1 z.1.2.1 z.1.2.2.1 z.1.2.2.2.1.length z.1.2.2.2.2)
    (h := fun z => ⟨[.hole, .hole, .vec z.1.2.2.2.2 (z.1.2.2.2.1.map mtR)], []⟩) (μ := fun z => u.length + l.length - z.1.1 - z.1.2.1)
    ⟨(0, 0, none, [], e2), Nat.zero_le _, Nat.zero_le _, by simp, by simp, by simpa [meets] using hR.symm, fun p h => by cases h⟩ ?_ ?_
    [5] [2] (S' := Nat) (X := fun _ => 0) (frX := fun e => frOf 0 111 [(5, .oslc (.s 2) e 3 0 R.length false)]) (hX := fun e => ⟨[.hole, .hole, .vec e (R.map mtR)], []⟩)
    [] [] (S2 := Empty) (frR := fun s => frOf 0 111 []) (hR := fun s => ⟨[.hole, .hole, .hole], []⟩) ?_ ?_ ?_
  · exact rfl
  · exact rfl
  · rintro ⟨⟨i, k, o, out, ep⟩, hi, hk, hlen, ho, hz, hp⟩
    simp only at hi hk hlen ho hz hp
    show aexR _ _ _ (frOf 0 111 [(0, tnsA u), (1, tnsA l), (5, .oslc (.s 2) ep 3 0 out.length false), (6, .int .i64 (prO o).1), (7, .int .i64 (prO o).2), (8, .int .i64 (i : Int)), (9, .int .i64 (k : Int))]) ⟨[.hole, .hole, .vec ep (out.map mtR)], []⟩ _
    by_cases c1 : i < u.length
    · have hm1 := mapR (f := tnR) c1
      have d1 : (u.map (·.f)).drop i = u[i].f :: (u.map (·.f)).drop (i + 1) := by rw [List.drop_eq_getElem_cons (by simpa using c1)]; simp
      have b1 : u[i].f < 262144 := good_lt hu i c1
      rw [d1] at hz
      generalize u[i] = x at hm1 d1 b1 hz
      by_cases c2 : k < l.length
      · have hm2 := mapR (f := tnR) c2
        have d2 : (l.map (·.f)).drop k = l[k].f :: (l.map (·.f)).drop (k + 1) := by rw [List.drop_eq_getElem_cons (by simpa using c2)]; simp
        have b2 : l[k].f < 262144 := good_lt hl k c2
        rw [d2] at hz
        generalize l[k] = y at hm2 d2 b2 hz
        by_cases c3 : x.f < y.f
        · rw [mrg, if_pos c3, ← d2] at hz
          have hT1 := mnA b1
          have hT2 := mnB (a := x.f) (b := y.f) (by omega)
          have hs := stepM hz
          have hA := at92 u x.f (by omega)
          have hB := at92 l x.f (by omega)
          obtain ⟨a1, a2⟩ := atR_le x.f hu
          obtain ⟨b3, b4⟩ := atR_le x.f hl
          generalize atR u x.f = a at hs hA a1 a2
          generalize atR l x.f = b at hs hB b3 b4
          by_cases c4 : a < 0 ∨ b < 0
          · rw [if_pos c4] at hs
            (repeat' (first | exact rfl | ((conv => whnf); first | rw [hT1] | rw [hT2] | refine optS hm1 ?_ | refine optS hm2 ?_ | refine ⟨_, hA, ?_⟩ | refine ⟨_, hB, ?_⟩ | refine ⟨_, hM, ?_⟩ | exact rfl | exact ⟨rfl, rfl⟩ | refine ⟨(by kernel_rfl : drawOk _ _ _ _ = true), ?_⟩ | refine ⟨(by kernel_rfl : planOk _ _ _ _ = true), ?_⟩ | refine ⟨rfl, ?_⟩ | refine ⟨by (first | omega | (simp (disch := omega) only [wrapI]; omega) | (simp (disch := omega) only [wrapI]; simp; omega) | (simp; omega)), ?_⟩ | (intro ep) | (refine ifB (fun hb => ?_) (fun hb => ?_) <;> (try simp only [decide_eq_true_eq, decide_eq_false_iff_not, beq_iff_eq, beq_eq_false_iff_ne, bne_iff_ne, bne_eq_false_iff_eq, ne_eq, not_false_eq_true, not_true_eq_false, Bool.not_eq_true, Bool.not_eq_true', Bool.not_eq_false', Int.not_lt, Int.not_le] at hb) <;> (try simp (disch := omega) only [wrapI] at hb) <;> (try (exfalso; omega))) | fail)))
            all_goals (conv => whnf)
            all_goals exact back_of ⟨(i + 1, k, o, out, ep), by simp only; omega, by simp only; omega, by simp only; omega, ho, hs, hp⟩ ⟨by (first | exact rfl | (simp (disch := omega) only [wrapI]; exact rfl)), rfl, by simp only; omega⟩
          · rw [if_neg c4] at hs
            have T1 : List.take out.length (List.drop 0 (out.map mtR)) = out.map mtR := by rw [List.drop_zero, List.take_of_length_le (by rw [List.length_map]; exact Nat.le_refl _)]
            cases o with
            | none =>
              have hn : out.length = 0 := by rw [ho.2 rfl]; rfl
              (repeat' (first | exact rfl | ((conv => whnf); first | rw [hT1] | rw [hT2] | refine optS hm1 ?_ | refine optS hm2 ?_ | refine ⟨_, hA, ?_⟩ | refine ⟨_, hB, ?_⟩ | refine ⟨_, hM, ?_⟩ | exact rfl | exact ⟨rfl, rfl⟩ | refine ⟨(by kernel_rfl : drawOk _ _ _ _ = true), ?_⟩ | refine ⟨(by kernel_rfl : planOk _ _ _ _ = true), ?_⟩ | refine ⟨rfl, ?_⟩ | refine ⟨by (first | omega | (simp (disch := omega) only [wrapI]; omega) | (simp (disch := omega) only [wrapI]; simp; omega) | (simp; omega)), ?_⟩ | (intro ep) | (refine ifB (fun hb => ?_) (fun hb => ?_) <;> (try simp only [decide_eq_true_eq, decide_eq_false_iff_not, beq_iff_eq, beq_eq_false_iff_ne, bne_iff_ne, bne_eq_false_iff_eq, ne_eq, not_false_eq_true, not_true_eq_false, Bool.not_eq_true, Bool.not_eq_true', Bool.not_eq_false', Int.not_lt, Int.not_le] at hb) <;> (try simp (disch := omega) only [wrapI] at hb) <;> (try (exfalso; omega))) | fail)))
              all_goals (conv => whnf)
              all_goals (rw [T1])
              all_goals exact back_of ⟨(i + 1, k, some (a, b), _, ep), by simp only; omega, by simp only; omega, by simp only [List.length_append, List.length_singleton]; omega, by simp, hs, fun p hq => by cases hq; exact ⟨by simp only; omega, by simp only; omega, by simp only; omega, by simp only; omega⟩⟩ ⟨by (simp only [List.length_append, List.length_singleton]; (first | exact rfl | (simp (disch := omega) only [wrapI]; exact rfl))), (by simp only [List.map_append, List.map_cons, List.map_nil]; (first | exact rfl | (simp (disch := omega) only [wrapI]; exact rfl))), by simp only; omega⟩
            | some p =>
              obtain ⟨p1, p2⟩ := p
              have hn : out.length ≠ 0 := fun h => by have := ho.1 (List.length_eq_zero_iff.1 h); cases this
              obtain ⟨q1, q2, q3, q4⟩ := hp (p1, p2) rfl
              simp only at q1 q2 q3 q4
              have hM := mot93 (IntKind.i64.wrap (a - p1)) (IntKind.i64.wrap (b - p2))
              have hM2 : mot (IntKind.i64.wrap (a - p1)) (IntKind.i64.wrap (b - p2)) = movO (some (p1, p2)) a b := by rw [wrapI (by omega) (by omega), wrapI (by omega) (by omega)]; rfl
              rw [hM2] at hM
              generalize movO (some (p1, p2)) a b = mo at hs hM
              (repeat' (first | exact rfl | ((conv => whnf); first | rw [hT1] | rw [hT2] | refine optS hm1 ?_ | refine optS hm2 ?_ | refine ⟨_, hA, ?_⟩ | refine ⟨_, hB, ?_⟩ | refine ⟨_, hM, ?_⟩ | exact rfl | exact ⟨rfl, rfl⟩ | refine ⟨(by kernel_rfl : drawOk _ _ _ _ = true), ?_⟩ | refine ⟨(by kernel_rfl : planOk _ _ _ _ = true), ?_⟩ | refine ⟨rfl, ?_⟩ | refine ⟨by (first | omega | (simp (disch := omega) only [wrapI]; omega) | (simp (disch := omega) only [wrapI]; simp; omega) | (simp; omega)), ?_⟩ | (intro ep) | (refine ifB (fun hb => ?_) (fun hb => ?_) <;> (try simp only [decide_eq_true_eq, decide_eq_false_iff_not, beq_iff_eq, beq_eq_false_iff_ne, bne_iff_ne, bne_eq_false_iff_eq, ne_eq, not_false_eq_true, not_true_eq_false, Bool.not_eq_true, Bool.not_eq_true', Bool.not_eq_false', Int.not_lt, Int.not_le] at hb) <;> (try simp (disch := omega) only [wrapI] at hb) <;> (try (exfalso; omega))) | fail)))
              all_goals (conv => whnf)
              all_goals (rw [T1])
              all_goals exact back_of ⟨(i + 1, k, some (a, b), _, ep), by simp only; omega, by simp only; omega, by simp only [List.length_append, List.length_singleton]; omega, by simp, hs, fun p hq => by cases hq; exact ⟨by simp only; omega, by simp only; omega, by simp only; omega, by simp only; omega⟩⟩ ⟨by (simp only [List.length_append, List.length_singleton]; (first | exact rfl | (simp (disch := omega) only [wrapI]; exact rfl))), (by simp only [List.map_append, List.map_cons, List.map_nil]; (first | exact rfl | (simp (disch := omega) only [wrapI]; exact rfl))), by simp only; omega⟩
        · by_cases c5 : y.f < x.f
          · rw [mrg, if_neg c3, if_pos c5, ← d1] at hz
            have hT1 := mnA b1
            have hT2 := mnA (a := x.f) (b := y.f) c5
            have hs := stepM hz
            have hA := at92 u y.f (by omega)
            have hB := at92 l y.f (by omega)
            obtain ⟨a1, a2⟩ := atR_le y.f hu
            obtain ⟨b3, b4⟩ := atR_le y.f hl
            generalize atR u y.f = a at hs hA a1 a2
            generalize atR l y.f = b at hs hB b3 b4
            by_cases c4 : a < 0 ∨ b < 0
            · rw [if_pos c4] at hs
              (repeat' (first | exact rfl | ((conv => whnf); first | rw [hT1] | rw [hT2] | refine optS hm1 ?_ | refine optS hm2 ?_ | refine ⟨_, hA, ?_⟩ | refine ⟨_, hB, ?_⟩ | refine ⟨_, hM, ?_⟩ | exact rfl | exact ⟨rfl, rfl⟩ | refine ⟨(by kernel_rfl : drawOk _ _ _ _ = true), ?_⟩ | refine ⟨(by kernel_rfl : planOk _ _ _ _ = true), ?_⟩ | refine ⟨rfl, ?_⟩ | refine ⟨by (first | omega | (simp (disch := omega) only [wrapI]; omega) | (simp (disch := omega) only [wrapI]; simp; omega) | (simp; omega)), ?_⟩ | (intro ep) | (refine ifB (fun hb => ?_) (fun hb => ?_) <;> (try simp only [decide_eq_true_eq, decide_eq_false_iff_not, beq_iff_eq, beq_eq_false_iff_ne, bne_iff_ne, bne_eq_false_iff_eq, ne_eq, not_false_eq_true, not_true_eq_false, Bool.not_eq_true, Bool.not_eq_true', Bool.not_eq_false', Int.not_lt, Int.not_le] at hb) <;> (try simp (disch := omega) only [wrapI] at hb) <;> (try (exfalso; omega))) | fail)))
              all_goals (conv => whnf)
              all_goals exact back_of ⟨(i, k + 1, o, out, ep), by simp only; omega, by simp only; omega, by simp only; omega, ho, hs, hp⟩ ⟨by (first | exact rfl | (simp (disch := omega) only [wrapI]; exact rfl)), rfl, by simp only; omega⟩
            · rw [if_neg c4] at hs
              have T1 : List.take out.length (List.drop 0 (out.map mtR)) = out.map mtR := by rw [List.drop_zero, List.take_of_length_le (by rw [List.length_map]; exact Nat.le_refl _)]
              cases o with
              | none =>
                have hn : out.length = 0 := by rw [ho.2 rfl]; rfl
                (repeat' (first | exact rfl | ((conv => whnf); first | rw [hT1] | rw [hT2] | refine optS hm1 ?_ | refine optS hm2 ?_ | refine ⟨_, hA, ?_⟩ | refine ⟨_, hB, ?_⟩ | refine ⟨_, hM, ?_⟩ | exact rfl | exact ⟨rfl, rfl⟩ | refine ⟨(by kernel_rfl : drawOk _ _ _ _ = true), ?_⟩ | refine ⟨(by kernel_rfl : planOk _ _ _ _ = true), ?_⟩ | refine ⟨rfl, ?_⟩ | refine ⟨by (first | omega | (simp (disch := omega) only [wrapI]; omega) | (simp (disch := omega) only [wrapI]; simp; omega) | (simp; omega)), ?_⟩ | (intro ep) | (refine ifB (fun hb => ?_) (fun hb => ?_) <;> (try simp only [decide_eq_true_eq, decide_eq_false_iff_not, beq_iff_eq, beq_eq_false_iff_ne, bne_iff_ne, bne_eq_false_iff_eq, ne_eq, not_false_eq_true, not_true_eq_false, Bool.not_eq_true, Bool.not_eq_true', Bool.not_eq_false', Int.not_lt, Int.not_le] at hb) <;> (try simp (disch := omega) only [wrapI] at hb) <;> (try (exfalso; omega))) | fail)))
                all_goals (conv => whnf)
                all_goals (rw [T1])
                all_goals exact back_of ⟨(i, k + 1, some (a, b), _, ep), by simp only; omega, by simp only; omega, by simp only [List.length_append, List.length_singleton]; omega, by simp, hs, fun p hq => by cases hq; exact ⟨by simp only; omega, by simp only; omega, by simp only; omega, by simp only; omega⟩⟩ ⟨by (simp only [List.length_append, List.length_singleton]; (first | exact rfl | (simp (disch := omega) only [wrapI]; exact rfl))), (by simp only [List.map_append, List.map_cons, List.map_nil]; (first | exact rfl | (simp (disch := omega) only [wrapI]; exact rfl))), by simp only; omega⟩
              | some p =>
                obtain ⟨p1, p2⟩ := p
                have hn : out.length ≠ 0 := fun h => by have := ho.1 (List.length_eq_zero_iff.1 h); cases this
                obtain ⟨q1, q2, q3, q4⟩ := hp (p1, p2) rfl
                simp only at q1 q2 q3 q4
                have hM := mot93 (IntKind.i64.wrap (a - p1)) (IntKind.i64.wrap (b - p2))
                have hM2 : mot (IntKind.i64.wrap (a - p1)) (IntKind.i64.wrap (b - p2)) = movO (some (p1, p2)) a b := by rw [wrapI (by omega) (by omega), wrapI (by omega) (by omega)]; rfl
                rw [hM2] at hM
                generalize movO (some (p1, p2)) a b = mo at hs hM
                (repeat' (first | exact rfl | ((conv => whnf); first | rw [hT1] | rw [hT2] | refine optS hm1 ?_ | refine optS hm2 ?_ | refine ⟨_, hA, ?_⟩ | refine ⟨_, hB, ?_⟩ | refine ⟨_, hM, ?_⟩ | exact rfl | exact ⟨rfl, rfl⟩ | refine ⟨(by kernel_rfl : drawOk _ _ _ _ = true), ?_⟩ | refine ⟨(by kernel_rfl : planOk _ _ _ _ = true), ?_⟩ | refine ⟨rfl, ?_⟩ | refine ⟨by (first | omega | (simp (disch := omega) only [wrapI]; omega) | (simp (disch := omega) only [wrapI]; simp; omega) | (simp; omega)), ?_⟩ | (intro ep) | (refine ifB (fun hb => ?_) (fun hb => ?_) <;> (try simp only [decide_eq_true_eq, decide_eq_false_iff_not, beq_iff_eq, beq_eq_false_iff_ne, bne_iff_ne, bne_eq_false_iff_eq, ne_eq, not_false_eq_true, not_true_eq_false, Bool.not_eq_true, Bool.not_eq_true', Bool.not_eq_false', Int.not_lt, Int.not_le] at hb) <;> (try simp (disch := omega) only [wrapI] at hb) <;> (try (exfalso; omega))) | fail)))
                all_goals (conv => whnf)
                all_goals (rw [T1])
                all_goals exact back_of ⟨(i, k + 1, some (a, b), _, ep), by simp only; omega, by simp only; omega, by simp only [List.length_append, List.length_singleton]; omega, by simp, hs, fun p hq => by cases hq; exact ⟨by simp only; omega, by simp only; omega, by simp only; omega, by simp only; omega⟩⟩ ⟨by (simp only [List.length_append, List.length_singleton]; (first | exact rfl | (simp (disch := omega) only [wrapI]; exact rfl))), (by simp only [List.map_append, List.map_cons, List.map_nil]; (first | exact rfl | (simp (disch := omega) only [wrapI]; exact rfl))), by simp only; omega⟩
          · rw [mrg, if_neg c3, if_neg c5] at hz
            have hT1 := mnA b1
            have hT2 := mnB (a := x.f) (b := y.f) (by omega)
            have hs := stepM hz
            have hA := at92 u x.f (by omega)
            have hB := at92 l x.f (by omega)
            obtain ⟨a1, a2⟩ := atR_le x.f hu
            obtain ⟨b3, b4⟩ := atR_le x.f hl
            generalize atR u x.f = a at hs hA a1 a2
            generalize atR l x.f = b at hs hB b3 b4
            by_cases c4 : a < 0 ∨ b < 0
            · rw [if_pos c4] at hs
              (repeat' (first | exact rfl | ((conv => whnf); first | rw [hT1] | rw [hT2] | refine optS hm1 ?_ | refine optS hm2 ?_ | refine ⟨_, hA, ?_⟩ | refine ⟨_, hB, ?_⟩ | refine ⟨_, hM, ?_⟩ | exact rfl | exact ⟨rfl, rfl⟩ | refine ⟨(by kernel_rfl : drawOk _ _ _ _ = true), ?_⟩ | refine ⟨(by kernel_rfl : planOk _ _ _ _ = true), ?_⟩ | refine ⟨rfl, ?_⟩ | refine ⟨by (first | omega | (simp (disch := omega) only [wrapI]; omega) | (simp (disch := omega) only [wrapI]; simp; omega) | (simp; omega)), ?_⟩ | (intro ep) | (refine ifB (fun hb => ?_) (fun hb => ?_) <;> (try simp only [decide_eq_true_eq, decide_eq_false_iff_not, beq_iff_eq, beq_eq_false_iff_ne, bne_iff_ne, bne_eq_false_iff_eq, ne_eq, not_false_eq_true, not_true_eq_false, Bool.not_eq_true, Bool.not_eq_true', Bool.not_eq_false', Int.not_lt, Int.not_le] at hb) <;> (try simp (disch := omega) only [wrapI] at hb) <;> (try (exfalso; omega))) | fail)))
              all_goals (conv => whnf)
              all_goals exact back_of ⟨(i + 1, k + 1, o, out, ep), by simp only; omega, by simp only; omega, by simp only; omega, ho, hs, hp⟩ ⟨by (first | exact rfl | (simp (disch := omega) only [wrapI]; exact rfl)), rfl, by simp only; omega⟩
            · rw [if_neg c4] at hs
              have T1 : List.take out.length (List.drop 0 (out.map mtR)) = out.map mtR := by rw [List.drop_zero, List.take_of_length_le (by rw [List.length_map]; exact Nat.le_refl _)]
              cases o with
              | none =>
                have hn : out.length = 0 := by rw [ho.2 rfl]; rfl
                (repeat' (first | exact rfl | ((conv => whnf); first | rw [hT1] | rw [hT2] | refine optS hm1 ?_ | refine optS hm2 ?_ | refine ⟨_, hA, ?_⟩ | refine ⟨_, hB, ?_⟩ | refine ⟨_, hM, ?_⟩ | exact rfl | exact ⟨rfl, rfl⟩ | refine ⟨(by kernel_rfl : drawOk _ _ _ _ = true), ?_⟩ | refine ⟨(by kernel_rfl : planOk _ _ _ _ = true), ?_⟩ | refine ⟨rfl, ?_⟩ | refine ⟨by (first | omega | (simp (disch := omega) only [wrapI]; omega) | (simp (disch := omega) only [wrapI]; simp; omega) | (simp; omega)), ?_⟩ | (intro ep) | (refine ifB (fun hb => ?_) (fun hb => ?_) <;> (try simp only [decide_eq_true_eq, decide_eq_false_iff_not, beq_iff_eq, beq_eq_false_iff_ne, bne_iff_ne, bne_eq_false_iff_eq, ne_eq, not_false_eq_true, not_true_eq_false, Bool.not_eq_true, Bool.not_eq_true', Bool.not_eq_false', Int.not_lt, Int.not_le] at hb) <;> (try simp (disch := omega) only [wrapI] at hb) <;> (try (exfalso; omega))) | fail)))
                all_goals (conv => whnf)
                all_goals (rw [T1])
                all_goals exact back_of ⟨(i + 1, k + 1, some (a, b), _, ep), by simp only; omega, by simp only; omega, by simp only [List.length_append, List.length_singleton]; omega, by simp, hs, fun p hq => by cases hq; exact ⟨by simp only; omega, by simp only; omega, by simp only; omega, by simp only; omega⟩⟩ ⟨by (simp only [List.length_append, List.length_singleton]; (first | exact rfl | (simp (disch := omega) only [wrapI]; exact rfl))), (by simp only [List.map_append, List.map_cons, List.map_nil]; (first | exact rfl | (simp (disch := omega) only [wrapI]; exact rfl))), by simp only; omega⟩
              | some p =>
                obtain ⟨p1, p2⟩ := p
                have hn : out.length ≠ 0 := fun h => by have := ho.1 (List.length_eq_zero_iff.1 h); cases this
                obtain ⟨q1, q2, q3, q4⟩ := hp (p1, p2) rfl
                simp only at q1 q2 q3 q4
                have hM := mot93 (IntKind.i64.wrap (a - p1)) (IntKind.i64.wrap (b - p2))
                have hM2 : mot (IntKind.i64.wrap (a - p1)) (IntKind.i64.wrap (b - p2)) = movO (some (p1, p2)) a b := by rw [wrapI (by omega) (by omega), wrapI (by omega) (by omega)]; rfl
                rw [hM2] at hM
                generalize movO (some (p1, p2)) a b = mo at hs hM
                (repeat' (first | exact rfl | ((conv => whnf); first | rw [hT1] | rw [hT2] | refine optS hm1 ?_ | refine optS hm2 ?_ | refine ⟨_, hA, ?_⟩ | refine ⟨_, hB, ?_⟩ | refine ⟨_, hM, ?_⟩ | exact rfl | exact ⟨rfl, rfl⟩ | refine ⟨(by kernel_rfl : drawOk _ _ _ _ = true), ?_⟩ | refine ⟨(by kernel_rfl : planOk _ _ _ _ = true), ?_⟩ | refine ⟨rfl, ?_⟩ | refine ⟨by (first | omega | (simp (disch := omega) only [wrapI]; omega) | (simp (disch := omega) only [wrapI]; simp; omega) | (simp; omega)), ?_⟩ | (intro ep) | (refine ifB (fun hb => ?_) (fun hb => ?_) <;> (try simp only [decide_eq_true_eq, decide_eq_false_iff_not, beq_iff_eq, beq_eq_false_iff_ne, bne_iff_ne, bne_eq_false_iff_eq, ne_eq, not_false_eq_true, not_true_eq_false, Bool.not_eq_true, Bool.not_eq_true', Bool.not_eq_false', Int.not_lt, Int.not_le] at hb) <;> (try simp (disch := omega) only [wrapI] at hb) <;> (try (exfalso; omega))) | fail)))
                all_goals (conv => whnf)
                all_goals (rw [T1])
                all_goals exact back_of ⟨(i + 1, k + 1, some (a, b), _, ep), by simp only; omega, by simp only; omega, by simp only [List.length_append, List.length_singleton]; omega, by simp, hs, fun p hq => by cases hq; exact ⟨by simp only; omega, by simp only; omega, by simp only; omega, by simp only; omega⟩⟩ ⟨by (simp only [List.length_append, List.length_singleton]; (first | exact rfl | (simp (disch := omega) only [wrapI]; exact rfl))), (by simp only [List.map_append, List.map_cons, List.map_nil]; (first | exact rfl | (simp (disch := omega) only [wrapI]; exact rfl))), by simp only; omega⟩
      · have d2 : (l.map (·.f)).drop k = [] := List.drop_eq_nil_of_le (by simp; omega)
        have e : (u.map (·.f)).drop (i + 1) = mrg ((u.map (·.f)).drop (i + 1)) ((l.map (·.f)).drop k) := by rw [d2, mrg_nil]
        rw [d2, mrg_nil, e] at hz
        have hT1 := mnA b1
        have hT2 := hT1
        have hm2 := hm1
        have hs := stepM hz
        have hA := at92 u x.f (by omega)
        have hB := at92 l x.f (by omega)
        obtain ⟨a1, a2⟩ := atR_le x.f hu
        obtain ⟨b3, b4⟩ := atR_le x.f hl
        generalize atR u x.f = a at hs hA a1 a2
        generalize atR l x.f = b at hs hB b3 b4
        by_cases c4 : a < 0 ∨ b < 0
        · rw [if_pos c4] at hs
          (repeat' (first | exact rfl | ((conv => whnf); first | rw [hT1] | rw [hT2] | refine optS hm1 ?_ | refine optS hm2 ?_ | refine ⟨_, hA, ?_⟩ | refine ⟨_, hB, ?_⟩ | refine ⟨_, hM, ?_⟩ | exact rfl | exact ⟨rfl, rfl⟩ | refine ⟨(by kernel_rfl : drawOk _ _ _ _ = true), ?_⟩ | refine ⟨(by kernel_rfl : planOk _ _ _ _ = true), ?_⟩ | refine ⟨rfl, ?_⟩ | refine ⟨by (first | omega | (simp (disch := omega) only [wrapI]; omega) | (simp (disch := omega) only [wrapI]; simp; omega) | (simp; omega)), ?_⟩ | (intro ep) | (refine ifB (fun hb => ?_) (fun hb => ?_) <;> (try simp only [decide_eq_true_eq, decide_eq_false_iff_not, beq_iff_eq, beq_eq_false_iff_ne, bne_iff_ne, bne_eq_false_iff_eq, ne_eq, not_false_eq_true, not_true_eq_false, Bool.not_eq_true, Bool.not_eq_true', Bool.not_eq_false', Int.not_lt, Int.not_le] at hb) <;> (try simp (disch := omega) only [wrapI] at hb) <;> (try (exfalso; omega))) | fail)))
          all_goals (conv => whnf)
          all_goals exact back_of ⟨(i + 1, k, o, out, ep), by simp only; omega, by simp only; omega, by simp only; omega, ho, hs, hp⟩ ⟨by (first | exact rfl | (simp (disch := omega) only [wrapI]; exact rfl)), rfl, by simp only; omega⟩
        · rw [if_neg c4] at hs
          have T1 : List.take out.length (List.drop 0 (out.map mtR)) = out.map mtR := by rw [List.drop_zero, List.take_of_length_le (by rw [List.length_map]; exact Nat.le_refl _)]
          cases o with
          | none =>
            have hn : out.length = 0 := by rw [ho.2 rfl]; rfl
            (repeat' (first | exact rfl | ((conv => whnf); first | rw [hT1] | rw [hT2] | refine optS hm1 ?_ | refine optS hm2 ?_ | refine ⟨_, hA, ?_⟩ | refine ⟨_, hB, ?_⟩ | refine ⟨_, hM, ?_⟩ | exact rfl | exact ⟨rfl, rfl⟩ | refine ⟨(by kernel_rfl : drawOk _ _ _ _ = true), ?_⟩ | refine ⟨(by kernel_rfl : planOk _ _ _ _ = true), ?_⟩ | refine ⟨rfl, ?_⟩ | refine ⟨by (first | omega | (simp (disch := omega) only [wrapI]; omega) | (simp (disch := omega) only [wrapI]; simp; omega) | (simp; omega)), ?_⟩ | (intro ep) | (refine ifB (fun hb => ?_) (fun hb => ?_) <;> (try simp only [decide_eq_true_eq, decide_eq_false_iff_not, beq_iff_eq, beq_eq_false_iff_ne, bne_iff_ne, bne_eq_false_iff_eq, ne_eq, not_false_eq_true, not_true_eq_false, Bool.not_eq_true, Bool.not_eq_true', Bool.not_eq_false', Int.not_lt, Int.not_le] at hb) <;> (try simp (disch := omega) only [wrapI] at hb) <;> (try (exfalso; omega))) | fail)))
            all_goals (conv => whnf)
            all_goals (rw [T1])
            all_goals exact back_of ⟨(i + 1, k, some (a, b), _, ep), by simp only; omega, by simp only; omega, by simp only [List.length_append, List.length_singleton]; omega, by simp, hs, fun p hq => by cases hq; exact ⟨by simp only; omega, by simp only; omega, by simp only; omega, by simp only; omega⟩⟩ ⟨by (simp only [List.length_append, List.length_singleton]; (first | exact rfl | (simp (disch := omega) only [wrapI]; exact rfl))), (by simp only [List.map_append, List.map_cons, List.map_nil]; (first | exact rfl | (simp (disch := omega) only [wrapI]; exact rfl))), by simp only; omega⟩
          | some p =>
            obtain ⟨p1, p2⟩ := p
            have hn : out.length ≠ 0 := fun h => by have := ho.1 (List.length_eq_zero_iff.1 h); cases this
            obtain ⟨q1, q2, q3, q4⟩ := hp (p1, p2) rfl
            simp only at q1 q2 q3 q4
            have hM := mot93 (IntKind.i64.wrap (a - p1)) (IntKind.i64.wrap (b - p2))
            have hM2 : mot (IntKind.i64.wrap (a - p1)) (IntKind.i64.wrap (b - p2)) = movO (some (p1, p2)) a b := by rw [wrapI (by omega) (by omega), wrapI (by omega) (by omega)]; rfl
            rw [hM2] at hM
            generalize movO (some (p1, p2)) a b = mo at hs hM
            (repeat' (first | exact rfl | ((conv => whnf); first | rw [hT1] | rw [hT2] | refine optS hm1 ?_ | refine optS hm2 ?_ | refine ⟨_, hA, ?_⟩ | refine ⟨_, hB, ?_⟩ | refine ⟨_, hM, ?_⟩ | exact rfl | exact ⟨rfl, rfl⟩ | refine ⟨(by kernel_rfl : drawOk _ _ _ _ = true), ?_⟩ | refine ⟨(by kernel_rfl : planOk _ _ _ _ = true), ?_⟩ | refine ⟨rfl, ?_⟩ | refine ⟨by (first | omega | (simp (disch := omega) only [wrapI]; omega) | (simp (disch := omega) only [wrapI]; simp; omega) | (simp; omega)), ?_⟩ | (intro ep) | (refine ifB (fun hb => ?_) (fun hb => ?_) <;> (try simp only [decide_eq_true_eq, decide_eq_false_iff_not, beq_iff_eq, beq_eq_false_iff_ne, bne_iff_ne, bne_eq_false_iff_eq, ne_eq, not_false_eq_true, not_true_eq_false, Bool.not_eq_true, Bool.not_eq_true', Bool.not_eq_false', Int.not_lt, Int.not_le] at hb) <;> (try simp (disch := omega) only [wrapI] at hb) <;> (try (exfalso; omega))) | fail)))
            all_goals (conv => whnf)
            all_goals (rw [T1])
            all_goals exact back_of ⟨(i + 1, k, some (a, b), _, ep), by simp only; omega, by simp only; omega, by simp only [List.length_append, List.length_singleton]; omega, by simp, hs, fun p hq => by cases hq; exact ⟨by simp only; omega, by simp only; omega, by simp only; omega, by simp only; omega⟩⟩ ⟨by (simp only [List.length_append, List.length_singleton]; (first | exact rfl | (simp (disch := omega) only [wrapI]; exact rfl))), (by simp only [List.map_append, List.map_cons, List.map_nil]; (first | exact rfl | (simp (disch := omega) only [wrapI]; exact rfl))), by simp only; omega⟩
    · have d1 : (u.map (·.f)).drop i = [] := List.drop_eq_nil_of_le (by simp; omega)
      by_cases c2 : k < l.length
      · have hm2 := mapR (f := tnR) c2
        have d2 : (l.map (·.f)).drop k = l[k].f :: (l.map (·.f)).drop (k + 1) := by rw [List.drop_eq_getElem_cons (by simpa using c2)]; simp
        have b2 : l[k].f < 262144 := good_lt hl k c2
        have e : (l.map (·.f)).drop (k + 1) = mrg ((u.map (·.f)).drop i) ((l.map (·.f)).drop (k + 1)) := by rw [d1, mrg_nil']
        rw [d1, d2, mrg_nil', e] at hz
        generalize l[k] = y at hm2 d2 b2 hz
        have hT1 := mnA b2
        have hT2 := hT1
        have hm1 := hm2
        have hs := stepM hz
        have hA := at92 u y.f (by omega)
        have hB := at92 l y.f (by omega)
        obtain ⟨a1, a2⟩ := atR_le y.f hu
        obtain ⟨b3, b4⟩ := atR_le y.f hl
        generalize atR u y.f = a at hs hA a1 a2
        generalize atR l y.f = b at hs hB b3 b4
        by_cases c4 : a < 0 ∨ b < 0
        · rw [if_pos c4] at hs
          (repeat' (first | exact rfl | ((conv => whnf); first | rw [hT1] | rw [hT2] | refine optS hm1 ?_ | refine optS hm2 ?_ | refine ⟨_, hA, ?_⟩ | refine ⟨_, hB, ?_⟩ | refine ⟨_, hM, ?_⟩ | exact rfl | exact ⟨rfl, rfl⟩ | refine ⟨(by kernel_rfl : drawOk _ _ _ _ = true), ?_⟩ | refine ⟨(by kernel_rfl : planOk _ _ _ _ = true), ?_⟩ | refine ⟨rfl, ?_⟩ | refine ⟨by (first | omega | (simp (disch := omega) only [wrapI]; omega) | (simp (disch := omega) only [wrapI]; simp; omega) | (simp; omega)), ?_⟩ | (intro ep) | (refine ifB (fun hb => ?_) (fun hb => ?_) <;> (try simp only [decide_eq_true_eq, decide_eq_false_iff_not, beq_iff_eq, beq_eq_false_iff_ne, bne_iff_ne, bne_eq_false_iff_eq, ne_eq, not_false_eq_true, not_true_eq_false, Bool.not_eq_true, Bool.not_eq_true', Bool.not_eq_false', Int.not_lt, Int.not_le] at hb) <;> (try simp (disch := omega) only [wrapI] at hb) <;> (try (exfalso; omega))) | fail)))
          all_goals (conv => whnf)
          all_goals exact back_of ⟨(i, k + 1, o, out, ep), by simp only; omega, by simp only; omega, by simp only; omega, ho, hs, hp⟩ ⟨by (first | exact rfl | (simp (disch := omega) only [wrapI]; exact rfl)), rfl, by simp only; omega⟩
        · rw [if_neg c4] at hs
          have T1 : List.take out.length (List.drop 0 (out.map mtR)) = out.map mtR := by rw [List.drop_zero, List.take_of_length_le (by rw [List.length_map]; exact Nat.le_refl _)]
          cases o with
          | none =>
            have hn : out.length = 0 := by rw [ho.2 rfl]; rfl
            (repeat' (first | exact rfl | ((conv => whnf); first | rw [hT1] | rw [hT2] | refine optS hm1 ?_ | refine optS hm2 ?_ | refine ⟨_, hA, ?_⟩ | refine ⟨_, hB, ?_⟩ | refine ⟨_, hM, ?_⟩ | exact rfl | exact ⟨rfl, rfl⟩ | refine ⟨(by kernel_rfl : drawOk _ _ _ _ = true), ?_⟩ | refine ⟨(by kernel_rfl : planOk _ _ _ _ = true), ?_⟩ | refine ⟨rfl, ?_⟩ | refine ⟨by (first | omega | (simp (disch := omega) only [wrapI]; omega) | (simp (disch := omega) only [wrapI]; simp; omega) | (simp; omega)), ?_⟩ | (intro ep) | (refine ifB (fun hb => ?_) (fun hb => ?_) <;> (try simp only [decide_eq_true_eq, decide_eq_false_iff_not, beq_iff_eq, beq_eq_false_iff_ne, bne_iff_ne, bne_eq_false_iff_eq, ne_eq, not_false_eq_true, not_true_eq_false, Bool.not_eq_true, Bool.not_eq_true', Bool.not_eq_false', Int.not_lt, Int.not_le] at hb) <;> (try simp (disch := omega) only [wrapI] at hb) <;> (try (exfalso; omega))) | fail)))
            all_goals (conv => whnf)
            all_goals (rw [T1])
            all_goals exact back_of ⟨(i, k + 1, some (a, b), _, ep), by simp only; omega, by simp only; omega, by simp only [List.length_append, List.length_singleton]; omega, by simp, hs, fun p hq => by cases hq; exact ⟨by simp only; omega, by simp only; omega, by simp only; omega, by simp only; omega⟩⟩ ⟨by (simp only [List.length_append, List.length_singleton]; (first | exact rfl | (simp (disch := omega) only [wrapI]; exact rfl))), (by simp only [List.map_append, List.map_cons, List.map_nil]; (first | exact rfl | (simp (disch := omega) only [wrapI]; exact rfl))), by simp only; omega⟩
          | some p =>
            obtain ⟨p1, p2⟩ := p
            have hn : out.length ≠ 0 := fun h => by have := ho.1 (List.length_eq_zero_iff.1 h); cases this
            obtain ⟨q1, q2, q3, q4⟩ := hp (p1, p2) rfl
            simp only at q1 q2 q3 q4
            have hM := mot93 (IntKind.i64.wrap (a - p1)) (IntKind.i64.wrap (b - p2))
            have hM2 : mot (IntKind.i64.wrap (a - p1)) (IntKind.i64.wrap (b - p2)) = movO (some (p1, p2)) a b := by rw [wrapI (by omega) (by omega), wrapI (by omega) (by omega)]; rfl
            rw [hM2] at hM
            generalize movO (some (p1, p2)) a b = mo at hs hM
            (repeat' (first | exact rfl | ((conv => whnf); first | rw [hT1] | rw [hT2] | refine optS hm1 ?_ | refine optS hm2 ?_ | refine ⟨_, hA, ?_⟩ | refine ⟨_, hB, ?_⟩ | refine ⟨_, hM, ?_⟩ | exact rfl | exact ⟨rfl, rfl⟩ | refine ⟨(by kernel_rfl : drawOk _ _ _ _ = true), ?_⟩ | refine ⟨(by kernel_rfl : planOk _ _ _ _ = true), ?_⟩ | refine ⟨rfl, ?_⟩ | refine ⟨by (first | omega | (simp (disch := omega) only [wrapI]; omega) | (simp (disch := omega) only [wrapI]; simp; omega) | (simp; omega)), ?_⟩ | (intro ep) | (refine ifB (fun hb => ?_) (fun hb => ?_) <;> (try simp only [decide_eq_true_eq, decide_eq_false_iff_not, beq_iff_eq, beq_eq_false_iff_ne, bne_iff_ne, bne_eq_false_iff_eq, ne_eq, not_false_eq_true, not_true_eq_false, Bool.not_eq_true, Bool.not_eq_true', Bool.not_eq_false', Int.not_lt, Int.not_le] at hb) <;> (try simp (disch := omega) only [wrapI] at hb) <;> (try (exfalso; omega))) | fail)))
            all_goals (conv => whnf)
            all_goals (rw [T1])
            all_goals exact back_of ⟨(i, k + 1, some (a, b), _, ep), by simp only; omega, by simp only; omega, by simp only [List.length_append, List.length_singleton]; omega, by simp, hs, fun p hq => by cases hq; exact ⟨by simp only; omega, by simp only; omega, by simp only; omega, by simp only; omega⟩⟩ ⟨by (simp only [List.length_append, List.length_singleton]; (first | exact rfl | (simp (disch := omega) only [wrapI]; exact rfl))), (by simp only [List.map_append, List.map_cons, List.map_nil]; (first | exact rfl | (simp (disch := omega) only [wrapI]; exact rfl))), by simp only; omega⟩
      · have d2 : (l.map (·.f)).drop k = [] := List.drop_eq_nil_of_le (by simp; omega)
        rw [d1, d2, mrg, meetP, List.append_nil] at hz
        subst hz
        (repeat' (first | exact rfl | ((conv => whnf); first | exact rfl | exact ⟨rfl, rfl⟩ | refine ⟨(by kernel_rfl : drawOk _ _ _ _ = true), ?_⟩ | refine ⟨(by kernel_rfl : planOk _ _ _ _ = true), ?_⟩ | refine ⟨rfl, ?_⟩ | refine ⟨by (first | omega | (simp (disch := omega) only [wrapI]; omega) | (simp (disch := omega) only [wrapI]; simp; omega) | (simp; omega)), ?_⟩ | (intro ep) | (refine ifB (fun hb => ?_) (fun hb => ?_) <;> (try simp only [decide_eq_true_eq, decide_eq_false_iff_not, beq_iff_eq, beq_eq_false_iff_ne, bne_iff_ne, bne_eq_false_iff_eq, ne_eq, not_false_eq_true, not_true_eq_false, Bool.not_eq_true, Bool.not_eq_true', Bool.not_eq_false', Int.not_lt, Int.not_le] at hb) <;> (try simp (disch := omega) only [wrapI] at hb) <;> (try (exfalso; omega))) | fail)))
        all_goals (conv => whnf)
        exact back_of ep ⟨rfl, rfl, rfl⟩
  · rintro ⟨⟩
  · rintro e
    (repeat' (first | exact rfl | ((conv => whnf); first | exact rfl | exact ⟨rfl, rfl⟩ | refine ⟨(by kernel_rfl : drawOk _ _ _ _ = true), ?_⟩ | refine ⟨(by kernel_rfl : planOk _ _ _ _ = true), ?_⟩ | refine ⟨rfl, ?_⟩ | refine ⟨by (first | omega | (simp (disch := omega) only [wrapI]; omega) | (simp (disch := omega) only [wrapI]; simp; omega) | (simp; omega)), ?_⟩ | (intro ep) | fail)))
    all_goals (conv => whnf)
    exact ⟨pure_map R fun x => rfl, rfl, rfl⟩
end Go.Ab.V
