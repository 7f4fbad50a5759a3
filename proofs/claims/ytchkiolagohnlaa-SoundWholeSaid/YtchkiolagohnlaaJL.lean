/-
  What is proved here serves the law's text: each part says its own claim and its conditions. No condition is left open.
-/
import Derived.Lib.RowBridge
import Derived.Test.YtchkiolagohnlaaJD
import Derived.Test.YtchkiolagohnlaaJK
set_option linter.unusedSimpArgs false
set_option linter.unusedVariables false

/-
  Sonorities: the program's times are the marked ones among the times of the events. Plain Lean. The pieces are valid.
-/
namespace Go.Ab.V
open Go.Proofs Go.Lib

def cpt (zs : List Int) : List Int := Lib.compact zs
def inc : List Int → Prop
  | [] => True
  | x :: r => (∀ y ∈ r, x < y) ∧ inc r
theorem inc_pw : ∀ {l : List Int}, inc l → l.Pairwise (· < ·)
  | [], _ => .nil
  | x :: r, ⟨h1, h2⟩ => List.pairwise_cons.2 ⟨h1, inc_pw h2⟩
theorem asc_ext {l m : List Int} (h1 : l.Pairwise (· < ·)) (h2 : m.Pairwise (· < ·)) (h : ∀ x, x ∈ l ↔ x ∈ m) : l = m := by
  refine List.Perm.eq_of_pairwise (le := fun a b : Int => a < b) (fun a b _ _ x y => by omega) h1 h2 ?_
  exact (List.perm_ext_iff_of_nodup (h1.imp fun h => Int.ne_of_lt h) (h2.imp fun h => Int.ne_of_lt h)).2 h
theorem inc_snoc : ∀ {l : List Int} {x : Int}, inc l → (∀ y ∈ l, y < x) → inc (l ++ [x])
  | [], x, _, _ => ⟨fun y h => by simp at h, trivial⟩
  | a :: r, x, ⟨h1, h2⟩, h => ⟨fun y hy => by
      rcases List.mem_append.1 hy with hy | hy
      · exact h1 y hy
      · rw [List.mem_singleton.1 hy]; exact h a (by simp), inc_snoc h2 fun y hy => h y (by simp [hy])⟩
theorem upTo_law (d : Array Int) (hs : ∀ i j, i ≤ j → j < d.size → d[i]! ≤ d[j]!) : ∀ m, m ≤ d.size → inc (compactUpTo d m) ∧ ∀ x, x ∈ compactUpTo d m ↔ ∃ j, j < m ∧ d[j]! = x
  | 0, _ => ⟨by simp [compactUpTo, inc], fun x => by simp [compactUpTo]⟩
  | m + 1, hm => by
    obtain ⟨h1, h2⟩ := upTo_law d hs m (by omega)
    rw [compactUpTo_succ]
    by_cases hk : keeps d m = true
    · rw [if_pos hk]
      have hk' : m = 0 ∨ d[m]! ≠ d[m - 1]! := by simpa [keeps] using hk
      refine ⟨inc_snoc h1 fun y hy => ?_, fun x => ?_⟩
      · obtain ⟨j, hj, rfl⟩ := (h2 y).1 hy
        have a := hs j (m - 1) (by omega) (by omega)
        have b := hs (m - 1) m (by omega) (by omega)
        rcases hk' with hk' | hk'
        · omega
        · omega
      · rw [List.mem_append, h2, List.mem_singleton]
        constructor
        · rintro (⟨j, hj, e⟩ | e)
          · exact ⟨j, by omega, e⟩
          · exact ⟨m, by omega, e.symm⟩
        · rintro ⟨j, hj, e⟩
          by_cases c : j = m
          · subst c; exact Or.inr e.symm
          · exact Or.inl ⟨j, by omega, e⟩
    · rw [if_neg hk, List.append_nil]
      have hk' : m ≠ 0 ∧ d[m]! = d[m - 1]! := by simpa [keeps] using hk
      refine ⟨h1, fun x => ?_⟩
      rw [h2]
      constructor
      · rintro ⟨j, hj, e⟩
        exact ⟨j, by omega, e⟩
      · rintro ⟨j, hj, e⟩
        by_cases c : j = m
        · subst c; exact ⟨j - 1, by omega, by rw [← hk'.2]; exact e⟩
        · exact ⟨j, by omega, e⟩
theorem cpt_srt (zs : List Int) : inc (cpt (srt zs)) ∧ ∀ x, x ∈ cpt (srt zs) ↔ x ∈ zs := by
  have hp : (srt zs).Pairwise fun a b => decide (a ≤ b) = true := List.pairwise_mergeSort (le := fun x y : Int => decide (x ≤ y)) (fun a b c h1 h2 => by simp at *; omega) (fun a b => by simp; omega) zs
  have hm : ∀ x, x ∈ srt zs ↔ x ∈ zs := fun x => List.mem_mergeSort
  generalize srt zs = ys at hp hm
  have hs : ∀ i j, i ≤ j → j < ys.toArray.size → ys.toArray[i]! ≤ ys.toArray[j]! := fun i j hij hj => by
    have hj' : j < ys.length := by simpa using hj
    rw [getElem!_pos ys.toArray i (by simp; omega), getElem!_pos ys.toArray j hj]
    by_cases c : i = j
    · subst c; omega
    · have := List.pairwise_iff_getElem.1 hp i j (by omega) hj' (by omega)
      simpa using this
  obtain ⟨h1, h2⟩ := upTo_law ys.toArray hs ys.length (by simp)
  refine ⟨h1, fun x => ?_⟩
  refine (h2 x).trans ?_
  rw [← hm x]
  constructor
  · rintro ⟨j, hj, rfl⟩
    rw [getElem!_pos ys.toArray j (by simpa using hj)]
    simp
  · intro hx
    obtain ⟨j, hj, rfl⟩ := List.mem_iff_getElem.1 hx
    refine ⟨j, hj, ?_⟩
    rw [getElem!_pos ys.toArray j (by simpa using hj)]
    simp
theorem srt_len (zs : List Int) : (srt zs).length = zs.length := List.length_mergeSort ..
/-- is a time one at which what sounds may change? -/
def chg (S : List Nt) (t : Int) : Bool := S.any fun n => decide (n.f = t) || decide (n.t = t)
def markB (S : List Nt) (E t : Int) : Bool := decide (t = 0) || decide (t = E) || chg S t
def rawT (E : Int) (S : List Nt) : List Int := 0 :: E :: (S.map fun n => [n.f, n.t]).flatten
theorem chg_iff {S : List Nt} {t : Int} : chg S t = true ↔ ∃ n ∈ S, n.f = t ∨ n.t = t := by
  unfold chg
  rw [List.any_eq_true]
  constructor
  · rintro ⟨n, hn, h⟩
    exact ⟨n, hn, by simpa using h⟩
  · rintro ⟨n, hn, h⟩
    exact ⟨n, hn, by simpa using h⟩
theorem raw_mem {E : Int} {S : List Nt} {t : Int} : t ∈ rawT E S ↔ markB S E t = true := by
  unfold rawT markB
  rw [Bool.or_eq_true, Bool.or_eq_true, chg_iff, List.mem_cons, List.mem_cons, List.mem_flatten]
  simp only [decide_eq_true_eq, List.mem_map]
  constructor
  · rintro (h | h | ⟨l, ⟨n, hn, rfl⟩, h⟩)
    · exact .inl (.inl h)
    · exact .inl (.inr h)
    · refine .inr ⟨n, hn, ?_⟩
      simp only [List.mem_cons, List.not_mem_nil, or_false] at h
      rcases h with h | h
      · exact .inl h.symm
      · exact .inr h.symm
  · rintro ((h | h) | ⟨n, hn, h⟩)
    · exact .inl h
    · exact .inr (.inl h)
    · refine .inr (.inr ⟨_, ⟨n, hn, rfl⟩, ?_⟩)
      rcases h with h | h <;> simp [h]
def endT (p : Pc) : Int := on p p.evs.length
/-- the times of the sonorities -/
def timL (p : Pc) : List Int := (onsets p).filter (markB (stringsL p) (endT p))
theorem strs_f {i : Ins} {x y : Nt} (h : y ∈ strs i x) : y.f = x.f ∧ y.t = x.t := by
  unfold strs at h
  split at h
  · rcases List.mem_cons.1 h with rfl | h
    · exact ⟨rfl, rfl⟩
    · rw [List.mem_singleton.1 h]; exact ⟨rfl, rfl⟩
  · rw [List.mem_singleton.1 h]; exact ⟨rfl, rfl⟩
theorem end_le {p : Pc} (v : Vp p) {k : Nat} (hk : k < p.evs.length) {s : Stp} (hs : s ∈ p.evs[k].stops) : endN p.evs k s ≤ p.evs.length := by
  have h1 := v.sp k hk s hs
  unfold endN
  split
  · exact stayN_le (by omega)
  · exact openN_le _ hk
theorem on_mem {p : Pc} {k : Nat} (h : k ≤ p.evs.length) : on p k ∈ onsets p := by
  rw [← on_get h]
  exact List.getElem_mem _
theorem strings_on {p : Pc} (v : Vp p) {n : Nt} (hn : n ∈ stringsL p) : n.f ∈ onsets p ∧ n.t ∈ onsets p := by
  unfold stringsL strL at hn
  obtain ⟨r, hr, hnr⟩ := List.mem_flatten.1 hn
  obtain ⟨x, hx, rfl⟩ := List.mem_map.1 hr
  obtain ⟨k, hk, s, hs, rfl⟩ := notes_mem hx
  obtain ⟨e1, e2⟩ := strs_f hnr
  rw [e1, e2]
  exact ⟨on_mem (by omega), on_mem (end_le v hk hs)⟩
theorem times_prog {p : Pc} (hc : chk p = 0) : cpt (srt (rawT (endT p) (stringsL p))) = timL p := by
  have v := vp hc
  obtain ⟨h1, h2⟩ := cpt_srt (rawT (endT p) (stringsL p))
  refine asc_ext (inc_pw h1) ((ons_asc hc).1.filter _) fun x => ?_
  rw [h2, raw_mem]
  unfold timL
  rw [List.mem_filter]
  refine ⟨fun h => ⟨?_, h⟩, fun h => h.2⟩
  unfold markB at h
  rw [Bool.or_eq_true, Bool.or_eq_true, chg_iff] at h
  simp only [decide_eq_true_eq] at h
  rcases h with (h | h) | ⟨n, hn, h⟩
  · rw [h, ← on_zero p]; exact on_mem (Nat.zero_le _)
  · rw [h]; exact on_mem (Nat.le_refl _)
  · have := strings_on v hn
    rcases h with rfl | rfl
    · exact this.1
    · exact this.2
/-- the sonorities between times -/
def sonP (S : List Nt) : List Int → List Sn
  | [] => []
  | [_] => []
  | a :: b :: r => ⟨a, b, sndF S a 128 0⟩ :: sonP S (b :: r)
theorem sonP_snoc (S : List Nt) (t e : Int) : ∀ C : List Int, sonP S (C ++ [t, e]) = sonP S (C ++ [t]) ++ [⟨t, e, sndF S t 128 0⟩]
  | [] => rfl
  | [a] => rfl
  | a :: b :: r => by
    have ih := sonP_snoc S t e (b :: r)
    simp only [List.cons_append] at ih ⊢
    rw [sonP, ih, sonP, List.cons_append]
theorem sonP_len (S : List Nt) : ∀ C : List Int, (sonP S C).length ≤ C.length
  | [] => by simp [sonP]
  | [a] => by simp [sonP]
  | a :: b :: r => by
    have := sonP_len S (b :: r)
    simp only [sonP, List.length_cons] at this ⊢
    omega
def sonL (p : Pc) : List Sn := sonP (stringsL p) (timL p)
/-- the marked times before event k -/
def timK (p : Pc) (k : Nat) : List Int := ((onsets p).take k).filter (markB (stringsL p) (endT p))
theorem timK_zero (p : Pc) : timK p 0 = [] := rfl
theorem timK_succ {p : Pc} {k : Nat} (h : k ≤ p.evs.length) : timK p (k + 1) = if markB (stringsL p) (endT p) (on p k) = true then timK p k ++ [on p k] else timK p k := by
  unfold timK
  rw [List.take_add_one, List.getElem?_eq_getElem (by rw [ons_len]; omega), on_get h, List.filter_append]
  by_cases c : markB (stringsL p) (endT p) (on p k) = true
  · rw [if_pos c]; simp [c]
  · rw [if_neg c]; simp [c]
theorem timK_ne {p : Pc} {k : Nat} (h0 : 0 < k) : timK p k ≠ [] := by
  intro h
  have : on p 0 ∈ timK p k := by
    unfold timK
    rw [List.mem_filter]
    refine ⟨?_, by rw [on_zero]; simp [markB]⟩
    rw [← on_get (p := p) (Nat.zero_le _)]
    have hl : 0 < ((onsets p).take k).length := by rw [List.length_take, ons_len]; omega
    have := List.getElem_mem hl
    rwa [List.getElem_take] at this
  rw [h] at this
  cases this
theorem timL_end (p : Pc) : timL p = timK p p.evs.length ++ [endT p] := by
  have h := timK_succ (p := p) (k := p.evs.length) (Nat.le_refl _)
  rw [if_pos (by unfold markB endT; simp)] at h
  rw [show endT p = on p p.evs.length from rfl, ← h]
  unfold timL timK
  rw [List.take_of_length_le (by rw [ons_len]; omega)]
theorem timL_len {p : Pc} (v : Vp p) : (timL p).length ≤ 401 := by
  have h := List.length_filter_le (markB (stringsL p) (endT p)) (onsets p)
  rw [ons_len] at h
  have := v.len
  unfold timL
  omega
/-- whether a time within the piece is marked -/
theorem mark_in {p : Pc} (hc : chk p = 0) {k : Nat} (h : k < p.evs.length) : markB (stringsL p) (endT p) (on p k) = (decide (k = 0) || chg (stringsL p) (on p k)) := by
  unfold markB
  congr 1
  have h1 : on p k ≠ endT p := fun e => by have := on_inj hc (by omega) (Nat.le_refl _) e; omega
  have h2 : on p k = 0 ↔ k = 0 := ⟨fun e => on_inj hc (i := k) (j := 0) (by omega) (Nat.zero_le _) (by rw [e, on_zero]), fun e => by rw [e, on_zero]⟩
  rw [decide_eq_false h1, Bool.or_false]
  by_cases c : k = 0
  · rw [decide_eq_true c, decide_eq_true (h2.2 c)]
  · rw [decide_eq_false c, decide_eq_false fun x => c (h2.1 x)]
end Go.Ab.V
