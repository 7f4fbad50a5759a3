/-
  What is proved here serves the law's text: each part says its own claim and its conditions. No condition is left open.
-/
import Derived.Test.YtchkiolagohnlaaGreatJR
set_option linter.unusedSimpArgs false
set_option linter.unusedVariables false

/-
  Bare and Join of a valid piece are valid. Plain Lean. No condition.
-/
namespace Go.Ab.V
open Go.Proofs

/-- stops whose holds are shortened -/
theorem stps_short {i : Ins} {lg lg' : Int → Int} {f : Stp → Stp} (hc : ∀ s, (f s).c = s.c ∧ (f s).f = s.f ∧ ((0 ≤ s.r ∧ s.r ≤ 3 ∧ 0 ≤ s.g ∧ s.g ≤ 4) → (0 ≤ (f s).r ∧ (f s).r ≤ 3 ∧ 0 ≤ (f s).g ∧ (f s).g ≤ 4))) :
    ∀ {l : List Stp} {last : Int}, StpsOk i lg last l → (∀ s ∈ l, 0 ≤ s.h → s.h ≤ lg s.c → 0 ≤ (f s).h ∧ (f s).h ≤ lg' s.c ∧ (f s).h ≤ s.h) → StpsOk i lg' last (l.map f)
  | [], _, _, _ => trivial
  | s :: r, last, ⟨h1, h2⟩, h => by
    rw [chkStop_iff] at h1
    obtain ⟨a1, a2, a3⟩ := hc s
    obtain ⟨b1, b2, b3⟩ := h s (List.mem_cons_self ..) (by omega) (by omega)
    have a4 := a3 (by omega)
    refine ⟨?_, ?_⟩
    · rw [chkStop_iff, a1, a2]
      omega
    · rw [a1]
      exact stps_short hc h2 fun x hx => h x (List.mem_cons_of_mem _ hx)

/-! ### Join -/
theorem sgFind_mem {t : Int} : ∀ {l : List Sgn} {s : Sgn}, sgFind t l = some s → s ∈ l ∧ s.tk = t
  | a :: r, s, h => by
    unfold sgFind at h
    split at h
    · obtain rfl := Option.some.inj h; exact ⟨List.mem_cons_self .., by assumption⟩
    · have := sgFind_mem h; exact ⟨List.mem_cons_of_mem _ this.1, this.2⟩
theorem sgs_right : ∀ s ∈ sgs, right s.v s.d s.t = true ∧ 0 < s.tk := by decide
theorem sgOf_right {t : Int} {s : Sgn} (h : sgOf t = some s) : right s.v s.d s.t = true ∧ 0 < s.tk ∧ s.tk = t := by
  have := sgFind_mem h
  exact ⟨(sgs_right s this.1).1, (sgs_right s this.1).2, this.2⟩
def GoodE (e : Evt) : Prop := right e.v e.d e.t = true ∧ 0 < tkE e
theorem good_jst1 {st : Jn} {e : Evt} (h : ∀ x ∈ st.o, GoodE x) (he : GoodE e) : ∀ x ∈ (jst1 st e).o, GoodE x := by
  unfold jst1
  split
  · rename_i s hs
    have hp := (mrg_pos hs).2.2
    have hr := sgOf_right hp
    intro x hx
    rcases List.mem_or_eq_of_mem_set hx with hx | rfl
    · exact h x hx
    · exact ⟨hr.1, hr.2.1⟩
  · intro x hx
    rcases List.mem_append.1 hx with hx | hx
    · exact h x hx
    · rw [List.mem_singleton.1 hx]; exact he
theorem good_fold {l : List Evt} : ∀ {st : Jn}, (∀ x ∈ st.o, GoodE x) → (∀ e ∈ l, GoodE e) → ∀ x ∈ (l.foldl jst1 st).o, GoodE x := by
  induction l with
  | nil => intro st h _; exact h
  | cons e r ih =>
    intro st h hl
    exact ih (good_jst1 h (hl e (List.mem_cons_self ..))) fun x hx => hl x (List.mem_cons_of_mem _ hx)
theorem good_jst {l : List Evt} (h : ∀ e ∈ l, GoodE e) : ∀ x ∈ (jst l).o, GoodE x := good_fold (fun x hx => by cases hx) h
theorem fold_m0 {l : List Evt} : ∀ {st : Jn}, st.m[0]? = some false → (l.foldl jst1 st).m[0]? = some false := by
  induction l with
  | nil => intro st h; exact h
  | cons e r ih =>
    intro st h
    refine ih ?_
    have hl : 0 < st.m.length := (List.getElem?_eq_some_iff.1 h).1
    unfold jst1
    split <;> (show (st.m ++ _)[0]? = _; rw [List.getElem?_append_left hl]; exact h)
theorem jst_m0 {l : List Evt} (h : 0 < l.length) : (jst l).m[0]? = some false := by
  cases l with
  | nil => simp at h
  | cons e r =>
    show (r.foldl jst1 (jst1 ⟨[], [], []⟩ e)).m[0]? = _
    refine fold_m0 (l := r) ?_
    unfold jst1
    have : mrg [] e = none := by unfold mrg mayJ; simp
    rw [show mrg (⟨[], [], []⟩ : Jn).o e = none from this]
    rfl
/-- each place of the result comes from an event that is not merged -/
theorem cF_inv : ∀ {m : List Bool} {j : Nat}, j < cF m → ∃ i, ∃ h : i < m.length, m[i] = false ∧ cF (m.take i) = j
  | b :: r, j, h => by
    cases b with
    | true =>
      have h' : j < cF r := by simpa [cF] using h
      obtain ⟨i, hi, h1, h2⟩ := cF_inv h'
      exact ⟨i + 1, by simp; omega, by simpa using h1, by simpa [cF] using h2⟩
    | false =>
      cases j with
      | zero => exact ⟨0, by simp, by simp, by simp [cF]⟩
      | succ j =>
        have h' : j < cF r := by simp [cF] at h; omega
        obtain ⟨i, hi, h1, h2⟩ := cF_inv h'
        exact ⟨i + 1, by simp; omega, by simpa using h1, by simp [cF]; omega⟩
theorem cF_mono {m : List Bool} {a b : Nat} (h : a ≤ b) : cF (m.take a) ≤ cF (m.take b) := by
  have : m.take b = m.take a ++ (m.take b).drop a := by
    have := List.take_append_drop a (m.take b)
    rw [List.take_take, Nat.min_eq_left h] at this
    exact this.symm
  rw [this, cF_app]
  omega
theorem cF_cnt : ∀ (l : List Bool), cF l + cntT l = l.length
  | [] => rfl
  | b :: r => by
    have := cF_cnt r
    cases b <;> simp [cF, cntT] <;> omega
/-- an event of the result -/
theorem jL_ev {l : List Evt} {j : Nat} (hj : j < (jL (jst l)).length) : ∃ i, ∃ hi : i < l.length, ∃ hm : i < (jst l).m.length, (jst l).m[i] = false ∧ cF ((jst l).m.take i) = j ∧
    ∃ s : Sgn, (jst l).o[j]? = some (withS l[i] s) ∧ (jL (jst l))[j] = goneE (jst l).m i (withS l[i] s) := by
  have hI := jinv l
  have hj2 : j < (jst l).o.length := by rw [jL_len hI] at hj; exact hj
  have hj3 : j < cF (jst l).m := by rw [← hI.ol]; exact hj2
  obtain ⟨i, hm, h1, h2⟩ := cF_inv hj3
  have hi : i < l.length := by rw [← hI.ml]; exact hm
  obtain ⟨q1, q2, q3, q4⟩ := jL_at hI hi h1
  have hg := hI.gi i hm h1
  obtain ⟨i', e, s, k1, k2, k3⟩ := hI.gs _ q1
  rw [hg] at k1
  obtain rfl := Option.some.inj k1
  rw [List.getElem?_eq_getElem hi] at k2
  obtain rfl := Option.some.inj k2
  subst h2
  refine ⟨i, hi, hm, h1, rfl, s, k3, ?_⟩
  rw [q3]
  rw [List.getElem?_eq_getElem q1] at k3
  rw [Option.some.inj k3]

theorem join_chk {p : Pc} (hc : chk p = 0) (hg : ∀ e ∈ p.evs, GoodE e) : chk ⟨p.ins, joinE p.evs⟩ = 0 := by
  obtain ⟨l, hl⟩ : ∃ l, l = p.evs := ⟨_, rfl⟩
  rw [chk_suf] at hc ⊢
  obtain ⟨h1, h2, h3, h4⟩ := hc
  simp only
  rw [← hl] at h2 h3 h4 hg ⊢
  have hI := jinv l
  have hle : (jL (jst l)).length ≤ l.length := by
    have a1 := hI.ol
    have a2 := cF_le (jst l).m
    have a3 := hI.ml
    rw [jL_len hI]
    omega
  have hgo := good_jst hg
  refine ⟨h1, by show (jL (jst l)).length ≤ 400; omega, SufOk.of fun j hj => ?_, fun h => ?_⟩
  · have hj : j < (jL (jst l)).length := hj
    obtain ⟨i, hi, hm, k1, k2, s, k3, k4⟩ := jL_ev hj
    show EvOk p.ins (jL (jst l))[j] ((jL (jst l)).drop (j + 1))
    rw [k4]
    have hev := h3.at hi
    have hgd : GoodE (withS l[i] s) := hgo _ (List.mem_of_getElem? k3)
    refine ⟨hgd.1, ?_, ?_⟩
    · have := hev.ti
      simpa [goneE, evS, withS] using this
    · refine stps_short (f := goneS (jst l).m i) (fun s => ⟨rfl, rfl, fun x => x⟩) hev.st fun x hx a b => ?_
      have hxl := longL_len x.c 15 (l.drop (i + 1))
      rw [List.length_drop] at hxl
      have hll := longL_le x.c 15 (l.drop (i + 1))
      obtain ⟨n, hn⟩ : ∃ n, n = x.h.toNat := ⟨_, rfl⟩
      have hxn : x.h = (n : Int) := by omega
      have hcut : cF ((jst l).m.take (i + 1 + n)) = j + 1 + cF (((jst l).m.drop (i + 1)).take n) := by
        rw [List.take_add, cF_app, cF_succ hm, k1, k2]
        simp
      have hcnt := cF_cnt (((jst l).m.drop (i + 1)).take n)
      have hlen : (((jst l).m.drop (i + 1)).take n).length = n := by
        rw [List.length_take, List.length_drop, hI.ml]; omega
      have htot : cF ((jst l).m.take (i + 1 + n)) ≤ cF (jst l).m := by
        have := cF_mono (m := (jst l).m) (a := i + 1 + n) (b := (jst l).m.length) (by rw [hI.ml]; omega)
        rwa [List.take_length] at this
      have hh : (goneS (jst l).m i x).h = (cF (((jst l).m.drop (i + 1)).take n) : Nat) := by
        show x.h - _ = _
        rw [← hn, hxn]
        omega
      obtain ⟨k, hk⟩ : ∃ k, k = cF (((jst l).m.drop (i + 1)).take n) := ⟨_, rfl⟩
      rw [← hk] at hh hcut hcnt
      rw [hh]
      refine ⟨by omega, ?_, by omega⟩
      have : k ≤ longL x.c 15 ((jL (jst l)).drop (j + 1)) := by
        refine longL_ge (by omega) (by rw [List.length_drop, jL_len hI, hI.ol]; omega) fun d hd hdk => ?_
        rw [List.getElem_drop]
        rw [List.length_drop] at hd
        obtain ⟨i', hi', hm', q1, q2, s', q3, q4⟩ := jL_ev (l := l) (j := j + 1 + d) (by omega)
        have c1 : i < i' := by
          rcases Nat.lt_or_ge i i' with c | c
          · exact c
          · have := cF_mono (m := (jst l).m) c; omega
        have c2 : i' < i + 1 + n := by
          rcases Nat.lt_or_ge i' (i + 1 + n) with c | c
          · exact c
          · have := cF_mono (m := (jst l).m) c; omega
        have hok := longL_ok (c := x.c) (n := 15) (l := l.drop (i + 1)) (j := i' - (i + 1)) (by rw [List.length_drop]; omega) (by omega)
        rw [List.getElem_drop] at hok
        have e : i + 1 + (i' - (i + 1)) = i' := by omega
        have hok' : okC x.c l[i'] := by
          have : l[i + 1 + (i' - (i + 1))]'(by omega) = l[i'] := by congr 1
          rw [← this]; exact hok
        rw [q4]
        unfold okC at hok' ⊢
        refine ⟨?_, ?_⟩
        · have := hok'.1
          unfold restE at this ⊢
          simpa [goneE, evS, withS] using this
        · show hasC ((l[i']).stops.map (goneS (jst l).m i')) x.c = false
          rw [hasC_map (f := goneS (jst l).m i') (fun _ => rfl)]
          exact hok'.2
      show (k : Int) ≤ ((longL x.c 15 ((jL (jst l)).drop (j + 1)) : Nat) : Int)
      omega
  · have h : 0 < (jL (jst l)).length := h
    have hl0 : 0 < l.length := by omega
    obtain ⟨i, hi, hm, k1, k2, s, k3, k4⟩ := jL_ev h
    have hi0 : i = 0 := by
      rcases Nat.eq_zero_or_pos i with c | c
      · exact c
      · have hm0 := jst_m0 hl0
        have c1 : 0 < (jst l).m.length := by rw [hI.ml]; exact hl0
        have := cF_mono (m := (jst l).m) (a := 1) (b := i) (by omega)
        have c2 := cF_succ (m := (jst l).m) (i := 0) c1
        rw [List.getElem?_eq_getElem c1] at hm0
        rw [Option.some.inj hm0] at c2
        simp [cF] at c2
        omega
    subst hi0
    show ((jL (jst l))[0]).v ≠ 0 ∧ ((jL (jst l))[0]).tie = false
    rw [k4]
    have hgd : GoodE (withS l[0] s) := hgo _ (List.mem_of_getElem? k3)
    refine ⟨fun hv => ?_, (h4 hl0).2⟩
    have hv : s.v = 0 := hv
    have := hgd.2
    have h5 : 0 < ticks s.v s.d s.t := this
    rw [hv] at h5
    simp [ticks] at h5

theorem pln_good {p : Pc} (hc : chk p = 0) : ∀ e ∈ outE plnS sz p.evs, GoodE e := fun e he => ⟨chk_right (pln_chk hc) e he, pln_tk hc e he⟩
theorem joined_chk {p : Pc} (hc : chk p = 0) : chk ⟨p.ins, joinE (outE plnS sz p.evs)⟩ = 0 := join_chk (p := ⟨p.ins, outE plnS sz p.evs⟩) (pln_chk hc) (pln_good hc)

end Go.Ab.V
